/- Go functions as pure functions. -/
import Derived.Test.YtkomlmhelfnajaaGreatCFnSameImageF3
set_option maxRecDepth 100000
set_option maxHeartbeats 20000000
set_option linter.unusedVariables false
set_option linter.unusedSimpArgs false
open Int renaming toNat->sY
open List renaming replicate->zQZ
open Nat renaming beq->zXX
open Go.IntKind renaming wrap->pa
namespace Go.Tm
structure bS where
  fB:List Int
  fI:Int
  fH:Int
  deriving DecidableEq
def fj(x:bS):List T:=[.sl 1 (x.fB.map (ai .u8)),.int .i64 x.fI,.int .i64 x.fH]
def bS.wf(x:bS):Prop:=(MY (lh .u8)) x.fB/\(lh .i64) x.fI/\(lh .i64) x.fH/\True
structure bl where
  bC:List Int
  deriving DecidableEq
def m8(x:bl):List T:=[.sl 1 (x.bC.map (ai .i64))]
def bl.wf(x:bl):Prop:=(MY (lh .i64)) x.bC/\True
structure aL where
  fB:List Int
  deriving DecidableEq
def aO(x:aL):List T:=[.sl 1 (x.fB.map (ai .u8))]
def aL.wf(x:aL):Prop:=(MY (lh .u8)) x.fB/\True
structure dV where
  ar:Int
  ba:Int
  aW:Int
  aZ:Int
  deriving DecidableEq
def m9(x:dV):List T:=[.int .i64 x.ar,.int .i64 x.ba,.int .i64 x.aW,.int .i64 x.aZ]
def dV.wf(x:dV):Prop:=(lh .i64) x.ar/\(lh .i64) x.ba/\(lh .i64) x.aW/\(lh .i64) x.aZ/\True
structure cS where
  fW:Int
  fS:Int
  deriving DecidableEq
def aQ(x:cS):List T:=[.int .i64 x.fW,.int .i64 x.fS]
def cS.wf(x:cS):Prop:=(lh .i64) x.fW/\(lh .i64) x.fS/\True
structure af where
  aM:Int
  ar:Int
  aU:Int
  aG:List cS
  deriving DecidableEq
def ay(x:af):List T:=[.int .i64 x.aM,.int .i64 x.ar,.int .i64 x.aU,.sl 2 (x.aG.map aQ)]
def af.wf(x:af):Prop:=(lh .i64) x.aM/\(lh .i64) x.ar/\(lh .i64) x.aU/\(MY cS.wf) x.aG/\True
structure aY where
  bj:Int
  cu:List Int
  deriving DecidableEq
def fk(x:aY):List T:=[.int .i64 x.bj,.sl 1 (x.cu.map (ai .u8))]
def aY.wf(x:aY):Prop:=(lh .i64) x.bj/\(MY (lh .u8)) x.cu/\True
structure Kid where
  j7:Int
  bZ:Int
  bR:Int
  sR:Int
  kF:Int
  deriving DecidableEq
def aN(x:Kid):List T:=[.int .i64 x.j7,.int .i64 x.bZ,.int .i64 x.bR,.int .i64 x.sR,.int .i64 x.kF]
def Kid.wf(x:Kid):Prop:=(lh .i64) x.j7/\(lh .i64) x.bZ/\(lh .i64) x.bR/\(lh .i64) x.sR/\(lh .i64) x.kF/\True
structure aD where
  lu:Bool
  bY:Int
  bM:Int
  aB:af
  bw:aY
  aR:Int
  aX:List Kid
  bE:Int
  deriving DecidableEq
def aK(x:aD):List T:=[.bool x.lu,.int .i64 x.bY,.int .i64 x.bM,.int .i64 x.aB.aM,.int .i64 x.aB.ar,.int .i64 x.aB.aU,.sl 2 (x.aB.aG.map aQ),.int .i64 x.bw.bj,.sl 1 (x.bw.cu.map (ai .u8)),.int .i64 x.aR,.sl 5 (x.aX.map aN),.int .i64 x.bE]
def aD.wf(x:aD):Prop:=(λ_=>True) x.lu/\(lh .i64) x.bY/\(lh .i64) x.bM/\af.wf x.aB/\aY.wf x.bw/\(lh .i64) x.aR/\(MY Kid.wf) x.aX/\(lh .i64) x.bE/\True
structure gy where
  aM:Int
  dj:Int
  aU:Int
  deriving DecidableEq
def Mv(x:gy):List T:=[.int .i64 x.aM,.int .i64 x.dj,.int .i64 x.aU]
def gy.wf(x:gy):Prop:=(lh .i64) x.aM/\(lh .i64) x.dj/\(lh .i64) x.aU/\True
structure ej where
  j3:Int
  KU:Int
  fB:List Int
  fR:gy
  deriving DecidableEq
def bd(x:ej):List T:=[.int .i64 x.j3,.int .i64 x.KU,.sl 1 (x.fB.map (ai .u8)),.int .i64 x.fR.aM,.int .i64 x.fR.dj,.int .i64 x.fR.aU]
def ej.wf(x:ej):Prop:=(lh .i64) x.j3/\(lh .i64) x.KU/\(MY (lh .u8)) x.fB/\gy.wf x.fR/\True
structure aA where
  fA:List Int
  fB:List Int
  fR:gy
  fP:List ej
  deriving DecidableEq
def aC(x:aA):List T:=[.sl 1 (x.fA.map (ai .u8)),.sl 1 (x.fB.map (ai .u8)),.int .i64 x.fR.aM,.int .i64 x.fR.dj,.int .i64 x.fR.aU,.sl 6 (x.fP.map bd)]
def aA.wf(x:aA):Prop:=(MY (lh .u8)) x.fA/\(MY (lh .u8)) x.fB/\gy.wf x.fR/\(MY ej.wf) x.fP/\True
structure aq where
  gS:Int
  Ca:Int
  fB:List Int
  deriving DecidableEq
def aH(x:aq):List T:=[.int .i64 x.gS,.int .i64 x.Ca,.sl 1 (x.fB.map (ai .u8))]
def aq.wf(x:aq):Prop:=(lh .i64) x.gS/\(lh .i64) x.Ca/\(MY (lh .u8)) x.fB/\True
structure di where
  gS:Int
  Ca:Int
  fI:Int
  deriving DecidableEq
def cd(x:di):List T:=[.int .i64 x.gS,.int .i64 x.Ca,.int .i64 x.fI]
def di.wf(x:di):Prop:=(lh .i64) x.gS/\(lh .i64) x.Ca/\(lh .i64) x.fI/\True
structure World where
  fC:dV
  fT:bl
  cG:List Int
  ct:List aL
  fN:List aD
  fD:List aA
  cr:List aq
  fO:List di
  cQ:Int
  deriving DecidableEq
def be(x:World):List T:=[.int .i64 x.fC.ar,.int .i64 x.fC.ba,.int .i64 x.fC.aW,.int .i64 x.fC.aZ,.sl 1 (x.fT.bC.map (ai .i64)),.sl 1 (x.cG.map (ai .u8)),.sl 1 (x.ct.map aO),.sl 12 (x.fN.map aK),.sl 6 (x.fD.map aC),.sl 3 (x.cr.map aH),.sl 3 (x.fO.map cd),.int .i64 x.cQ]
def ZP(t:T)(x:World):List T:=[.int .i64 x.fC.ar,.int .i64 x.fC.ba,.int .i64 x.fC.aW,.int .i64 x.fC.aZ,.sl 1 (x.fT.bC.map (ai .i64)),.sl 1 (x.cG.map (ai .u8)),t,.sl 12 (x.fN.map aK),.sl 6 (x.fD.map aC),.sl 3 (x.cr.map aH),.sl 3 (x.fO.map cd),.int .i64 x.cQ]
def World.wf(x:World):Prop:=dV.wf x.fC/\bl.wf x.fT/\(MY (lh .u8)) x.cG/\(MY aL.wf) x.ct/\(MY aD.wf) x.fN/\(MY aA.wf) x.fD/\(MY aq.wf) x.cr/\(MY di.wf) x.fO/\(lh .i64) x.cQ/\True
structure wC where
  bG:Int
  fN:Int
  fS:Int
  fP:aq
  deriving DecidableEq
def EA(x:wC):List T:=[.int .i64 x.bG,.int .i64 x.fN,.int .i64 x.fS,.int .i64 x.fP.gS,.int .i64 x.fP.Ca,.sl 1 (x.fP.fB.map (ai .u8))]
def wC.wf(x:wC):Prop:=(lh .i64) x.bG/\(lh .i64) x.fN/\(lh .i64) x.fS/\aq.wf x.fP/\True
structure j4 where
  bG:Int
  aM:Int
  aB:af
  bZ:Int
  bR:Int
  fI:Int
  fB:List Int
  deriving DecidableEq
def il(x:j4):List T:=[.int .i64 x.bG,.int .i64 x.aM,.int .i64 x.aB.aM,.int .i64 x.aB.ar,.int .i64 x.aB.aU,.sl 2 (x.aB.aG.map aQ),.int .i64 x.bZ,.int .i64 x.bR,.int .i64 x.fI,.sl 1 (x.fB.map (ai .u8))]
def j4.wf(x:j4):Prop:=(lh .i64) x.bG/\(lh .i64) x.aM/\af.wf x.aB/\(lh .i64) x.bZ/\(lh .i64) x.bR/\(lh .i64) x.fI/\(MY (lh .u8)) x.fB/\True
structure II where
  fN:aD
  fD:aA
  sQ:List aq
  deriving DecidableEq
def WO(x:II):List T:=[.bool x.fN.lu,.int .i64 x.fN.bY,.int .i64 x.fN.bM,.int .i64 x.fN.aB.aM,.int .i64 x.fN.aB.ar,.int .i64 x.fN.aB.aU,.sl 2 (x.fN.aB.aG.map aQ),.int .i64 x.fN.bw.bj,.sl 1 (x.fN.bw.cu.map (ai .u8)),.int .i64 x.fN.aR,.sl 5 (x.fN.aX.map aN),.int .i64 x.fN.bE,.sl 1 (x.fD.fA.map (ai .u8)),.sl 1 (x.fD.fB.map (ai .u8)),.int .i64 x.fD.fR.aM,.int .i64 x.fD.fR.dj,.int .i64 x.fD.fR.aU,.sl 6 (x.fD.fP.map bd),.sl 3 (x.sQ.map aH)]
def II.wf(x:II):Prop:=aD.wf x.fN/\aA.wf x.fD/\(MY aq.wf) x.sQ/\True
structure Act where
  fN:aD
  sQ:List aq
  deriving DecidableEq
def EB(x:Act):List T:=[.bool x.fN.lu,.int .i64 x.fN.bY,.int .i64 x.fN.bM,.int .i64 x.fN.aB.aM,.int .i64 x.fN.aB.ar,.int .i64 x.fN.aB.aU,.sl 2 (x.fN.aB.aG.map aQ),.int .i64 x.fN.bw.bj,.sl 1 (x.fN.bw.cu.map (ai .u8)),.int .i64 x.fN.aR,.sl 5 (x.fN.aX.map aN),.int .i64 x.fN.bE,.sl 3 (x.sQ.map aH)]
def Act.wf(x:Act):Prop:=aD.wf x.fN/\(MY aq.wf) x.sQ/\True
def G3(u:Nat)(p0:List Int):Option Bool:=
 some (decide ((p0.length:Int) > 1048576))
def xe(u:Nat)(p0:List Int)(x9:Int):Option bS:=
 some (bS.mk p0 0 x9)
def ti(u:Nat)(Mi:List Int->Int->Int->Option bS)(p0:List Int)(x3 x4:Int)(x7:Bool):Option bS:=
 bif x7 then (eS p0 x4).bind λy8=>Mi p0 (gl .i64 (aV .i64 (aV .i64 (js .i64 x3 137) (pa .i64 y8)) 11) 1073741823) (aV .i64 x4 1) else xe u p0 x3
def kG(u j2:Nat)(p0:List Int)(x3 x4:Int):Option bS:=match j2 with
  | 0=>none
  | j2+1=>bif decide (x4 < (p0.length:Int)) then ti u (kG u j2) p0 x3 x4 (decide (x4 < 4000)) else ti u (kG u j2) p0 x3 x4 false
def Cb(u:Nat)(p0:List Int):Option bS:=
 kG u u p0 (aV .i64 162416 (p0.length:Int)) 0
def rf(u:Nat)(x2:Int)(p0:bS)(x3:Int):Option (Int×bS):=
 some (x2,(bS.mk p0.fB x3 (aV .i64 (js .i64 p0.fH 6364136223846793005) 1442695040888963407)))
def pN(u:Nat)(p0:bS):Option (Int×bS):=
 bif decide (p0.fI < (p0.fB.length:Int)) then (eS p0.fB p0.fI).bind λy1=>rf u (gl .i64 (aV .i64 (gl .i64 (Sf .i64 (ju .i64 (aV .i64 (js .i64 p0.fH 6364136223846793005) 1442695040888963407) 33) (ju .i64 (aV .i64 (js .i64 p0.fH 6364136223846793005) 1442695040888963407) 47)) 255) (pa .i64 y1)) 255) p0 (aV .i64 p0.fI 1) else rf u (gl .i64 (Sf .i64 (ju .i64 (aV .i64 (js .i64 p0.fH 6364136223846793005) 1442695040888963407) 33) (ju .i64 (aV .i64 (js .i64 p0.fH 6364136223846793005) 1442695040888963407) 47)) 255) p0 p0.fI
def dA(u:Nat)(p0:bS)(p1:Int):Option (Int×bS):=
 bif decide (p1<=0) then some (0,p0) else bif decide (p1<=256) then (pN u p0).bind λr1=>(fX (!(p1 == 0))).bind λ_=>some (pK .i64 r1.1 p1,r1.2) else (pN u p0).bind λr3=>(pN u r3.2).bind λr4=>(pN u r4.2).bind λr5=>(fX (!(p1 == 0))).bind λ_=>some (pK .i64 (aV .i64 (aV .i64 (js .i64 r3.1 65536) (js .i64 r4.1 256)) r5.1) p1,r5.2)
def uL(u:Nat)(p0:bS)(p1:Int):Option (Bool×bS):=
 (dA u p0 p1).bind λr1=>some (r1.1 == 0,r1.2)
def tY(u:Nat)(x23 x24:List Int)(x25 x26:Int):Option (bl×bS):=
 some ((bl.mk x23),(bS.mk x24 x25 x26))
def ql(u:Nat)(IG:Int->List Int->List Int->Int->Int->Option (bl×bS))(x6 x19:Int)(x7 x20:List Int)(x21 x22:Int):Option (bl×bS):=
 (fX (decide ((x7.length+([x19]:List Int).length)*8<=140737488355328))).bind λ_=>IG (aV .i64 x6 1) (x7++([x19]:List Int)) x20 x21 x22
def gT(u iz:Nat)(x6:Int)(x7 x8:List Int)(x9 x10:Int):Option (bl×bS):=match iz with
  | 0=>none
  | iz+1=>(dA u (bS.mk x8 x9 x10) 7).bind λr16=>bif decide (x6 < (aV .i64 1 r16.1)) then (uL u r16.2 2).bind λr17=>bif r17.1 then (dA u r17.2 x6).bind λr18=>ql u (gT u iz) x6 r18.1 x7 r18.2.fB r18.2.fI r18.2.fH else ql u (gT u iz) x6 (gX .i64 x6 1) x7 r17.2.fB r17.2.fI r17.2.fH else tY u x7 r16.2.fB r16.2.fI r16.2.fH
def vd(u:Nat)(p0:bS):Option (bl×bS):=
 gT u u 1 ([-1]:List Int) p0.fB p0.fI p0.fH
def rh(u:Nat)(p0:bS)(p1:List Int):Option (Int×bS):=
 (dA u p0 (p1.length:Int)).bind λr1=>(eS p1 r1.1).bind λy2=>some (y2,r1.2)
def yd(u:Nat)(x18 x19:List Int)(x20 x21:Int):Option ((List Int)×bS):=
 some (x18,(bS.mk x19 x20 x21))
def lW(u lV:Nat)(x7:List Int)(x8:Int)(x9:List Int)(x10 x11:Int):Option ((List Int)×bS):=match lV with
  | 0=>none
  | lV+1=>bif decide (x8 > 0) then (rh u (bS.mk x9 x10 x11) ([97,98,99,0,255]:List Int)).bind λr17=>(fX (decide ((x7.length+([pa .u8 r17.1]:List Int).length)*1<=140737488355328))).bind λ_=>lW u lV (x7++([pa .u8 r17.1]:List Int)) (gX .i64 x8 1) r17.2.fB r17.2.fI r17.2.fH else yd u x7 x9 x10 x11
def pU(u:Nat)(p0:bS)(p1:Int):Option ((List Int)×bS):=
 (dA u p0 (aV .i64 p1 1)).bind λr1=>lW u u ([]:List Int) r1.1 r1.2.fB r1.2.fI r1.2.fH
def rO(u:Nat)(p0:bS):Option ((List Int)×bS):=
 (pU u p0 16).bind λr1=>some (r1.1,r1.2)
def eu(u:Nat)(x15 x16:List Int)(x17 x18:Int):Option ((List Int)×bS):=
 some (x15,(bS.mk x16 x17 x18))
def xy(u:Nat)(p0:bS)(p1:List Int):Option ((List Int)×bS):=
 (fX (decide ((([]:List Int).length+p1.length)*1<=140737488355328))).bind λ_=>(dA u p0 6).bind λr2=>bif r2.1 == 0 then bif decide (((([]:List Int)++p1).length:Int) > 0) then (dA u r2.2 ((([]:List Int)++p1).length:Int)).bind λr3=>(dA u r3.2 256).bind λr4=>(eS (([]:List Int)++p1) r3.1).bind λy5=>eu u ((([]:List Int)++p1).set (sY r3.1) (pa .u8 r4.1)) r4.2.fB r4.2.fI r4.2.fH else eu u (([]:List Int)++p1) r2.2.fB r2.2.fI r2.2.fH else bif r2.1 == 1 then (dA u r2.2 (aV .i64 ((([]:List Int)++p1).length:Int) 1)).bind λr6=>(fX (er 0 r6.1 (([]:List Int)++p1).length)).bind λ_=>eu u (((([]:List Int)++p1).take (sY r6.1)).drop (sY 0)) r6.2.fB r6.2.fI r6.2.fH else bif r2.1 == 2 then (rh u r2.2 ([0,1,128,255]:List Int)).bind λr8=>(fX (decide (((([]:List Int)++p1).length+([pa .u8 r8.1]:List Int).length)*1<=140737488355328))).bind λ_=>eu u ((([]:List Int)++p1)++([pa .u8 r8.1]:List Int)) r8.2.fB r8.2.fI r8.2.fH else bif r2.1 == 3 then bif decide (((([]:List Int)++p1).length:Int) > 0) then (dA u r2.2 ((([]:List Int)++p1).length:Int)).bind λr10=>(eS (([]:List Int)++p1) r10.1).bind λy11=>(dA u r10.2 8).bind λr12=>(fX (decide (0<=r12.1))).bind λ_=>(eS (([]:List Int)++p1) r10.1).bind λy14=>eu u ((([]:List Int)++p1).set (sY r10.1) (Sf .u8 y11 (jt .u8 1 r12.1))) r12.2.fB r12.2.fI r12.2.fH else eu u (([]:List Int)++p1) r2.2.fB r2.2.fI r2.2.fH else eu u (([]:List Int)++p1) r2.2.fB r2.2.fI r2.2.fH
def ux(u:Nat)(p0:bS)(p1:List Int):Option ((List Int)×bS):=
 (dA u p0 5).bind λr1=>bif r1.1 == 0 then (pU u r1.2 16).bind λr2=>some (r2.1,r2.2) else bif r1.1 == 1 then (fX (decide ((([]:List Int).length+p1.length)*1<=140737488355328))).bind λ_=>some (([]:List Int)++p1,r1.2) else bif r1.1 == 2 then (dA u r1.2 (aV .i64 (p1.length:Int) 1)).bind λr4=>(fX (er r4.1 (p1.length:Int) p1.length)).bind λ_=>(fX (decide ((([120]:List Int).length+((p1.take (sY (p1.length:Int))).drop (sY r4.1)).length)*1<=140737488355328))).bind λ_=>(fX (er 0 r4.1 p1.length)).bind λ_=>(fX (decide (((([120]:List Int)++((p1.take (sY (p1.length:Int))).drop (sY r4.1))).length+((p1.take (sY r4.1)).drop (sY 0)).length)*1<=140737488355328))).bind λ_=>some ((([120]:List Int)++((p1.take (sY (p1.length:Int))).drop (sY r4.1)))++((p1.take (sY r4.1)).drop (sY 0)),r4.2) else bif r1.1 == 3 then some (([]:List Int),r1.2) else (pU u r1.2 3).bind λr9=>(xy u r9.2 p1).bind λr10=>(fX (decide ((r9.1.length+r10.1.length)*1<=140737488355328))).bind λ_=>some (r9.1++r10.1,r10.2)
def ve(u:Nat)(p0:bS):Option (dV×bS):=
 (dA u p0 5).bind λr1=>(rh u r1.2 ([1,2,3,8,40]:List Int)).bind λr2=>(dA u r2.2 3).bind λr3=>(dA u r3.2 3).bind λr4=>some ((dV.mk (aV .i64 2 r1.1) r2.1 (aV .i64 1 r3.1) (aV .i64 2 r4.1)),r4.2)
def dG(u:Nat)(p0 p1 p2:Int):Option Bool:=
 bif decide (p0>=p1) then some (decide (p0<=p2)) else some false
def xz(u:Nat)(p0:dV):Option Bool:=
 (dG u p0.ar 2 6).bind λr1=>bif r1 then (dG u p0.ba 1 40).bind λr2=>bif r2 then (dG u p0.aW 1 5).bind λr3=>bif r3 then (dG u p0.aZ 2 8).bind λr4=>some r4 else some false else some false else some false
def zC(u:Nat)  : Option Bool:=
 some true
def kV(u m5:Nat)(x5:Int)(p0:bl):Option Bool:=match m5 with
  | 0=>none
  | m5+1=>bif decide (x5 < (p0.bC.length:Int)) then (eS p0.bC x5).bind λy7=>(dG u y7 0 (gX .i64 x5 1)).bind λr8=>bif !r8 then some false else kV u m5 (aV .i64 x5 1) p0 else zC u
def vg(u:Nat)(x3:Bool)(p0:bl):Option Bool:=
 bif x3 then some false else kV u u 1 p0
def uM(u:Nat)(p0:bl):Option Bool:=
 (dG u (p0.bC.length:Int) 1 7).bind λr1=>bif !r1 then vg u true p0 else (eS p0.bC 0).bind λy2=>vg u (y2 != (-1)) p0
def Bu(u:Nat)(p0:bl)(s:Unit):Option Bool:=zC u
def wF(u:Nat)(p0:bl)(y7:Int)(i_:Nat)(s:Unit)(k_:Unit->Option Bool):Option Bool:=(dG u y7 0 (gX .i64 (i_:Int) 1)).bind λr8=>bif !r8 then some false else k_ ()
theorem VD(u:Nat)(p0:bl)(s:Unit)(k:Nat)(hn:p0.bC.length<=9223372036854775807)(hk:p0.bC.length < k):kV u k 0 p0=Pu.cE (Bu u p0) (wF u p0) p0.bC 0 s:=Pu.dE (λ(k:Nat) (s:Unit) (i:Int)=>kV u k i p0) hn (λ_ _ _=>rfl) s hk
def pO(u:Nat)(p0 p1:Int):Option Bool:=
 (dG u p0 2 6).bind λr1=>bif r1 then (dG u p1 0 (js .i64 p0 40)).bind λr2=>some r2 else some false
def ye(u:Nat)(p0:List aL)(p1:Int):Option Bool:=
 some ((p0.length:Int) == p1)
def nK(u lU:Nat)(p0:List aL)(p1 x2:Int):Option Bool:=match lU with
  | 0=>none
  | lU+1=>bif decide (x2 < (p0.length:Int)) then (eS p0 x2).bind λy4=>bif decide ((y4.fB.length:Int) > 240) then some false else nK u lU p0 p1 (aV .i64 x2 1) else ye u p0 p1
def vh(u:Nat)(p0:List aL)(p1:Int):Option Bool:=
 nK u u p0 p1 0
def G4(u:Nat)(p0:List aL)(p1:Int)(s:Unit):Option Bool:=ye u p0 p1
def AA(u:Nat)(p0:List aL)(p1:Int)(y4:aL)(i_:Nat)(s:Unit)(k_:Unit->Option Bool):Option Bool:=bif decide ((y4.fB.length:Int) > 240) then some false else k_ ()
theorem G5(u:Nat)(p0:List aL)(p1:Int)(s:Unit)(k:Nat)(hn:p0.length<=9223372036854775807)(hk:p0.length < k):nK u k p0 p1 0=Pu.cE (G4 u p0 p1) (AA u p0 p1) p0 0 s:=Pu.dE (λ(k:Nat) (s:Unit) (i:Int)=>nK u k p0 p1 i) hn (λ_ _ _=>rfl) s hk
def vj(u:Nat)(x8:List aL):Option (List aL):=
 some x8
def lz(u jU:Nat)(p0 x3:List aL)(x4:Int):Option (List aL):=match jU with
  | 0=>none
  | jU+1=>bif decide (x4 < (p0.length:Int)) then (eS p0 x4).bind λy7=>(fX (decide ((([]:List Int).length+y7.fB.length)*1<=140737488355328))).bind λ_=>(fX (decide ((x3.length+([(aL.mk (([]:List Int)++y7.fB))]).length)*24<=140737488355328))).bind λ_=>lz u jU p0 (x3++([(aL.mk (([]:List Int)++y7.fB))])) (aV .i64 x4 1) else vj u x3
def ri(u:Nat)(p0:List aL):Option (List aL):=
 lz u u p0 ([]:List aL) 0
def E3(u:Nat)(p0:List aL)(s:List aL):Option (List aL):=vj u s
def yL(u:Nat)(p0:List aL)(y7:aL)(i_:Nat)(s:List aL)(k_:List aL->Option (List aL)):Option (List aL):=(fX (decide ((([]:List Int).length+y7.fB.length)*1<=140737488355328))).bind λ_=>(fX (decide ((s.length+([(aL.mk (([]:List Int)++y7.fB))]).length)*24<=140737488355328))).bind λ_=>k_ (s++([(aL.mk (([]:List Int)++y7.fB))]))
theorem E4(u:Nat)(p0:List aL)(s:List aL)(k:Nat)(hn:p0.length<=9223372036854775807)(hk:p0.length < k):lz u k p0 s 0=Pu.cE (E3 u p0) (yL u p0) p0 0 s:=Pu.dE (λ(k:Nat) (s:List aL) (i:Int)=>lz u k p0 s i) hn (λ_ _ _=>rfl) s hk
def vk(u:Nat)(p0:Int):Option aD:=
 some (aD.mk true p0 0 (af.mk 0 0 0 []) (aY.mk 0 []) 0 [] 0)
def rP(u:Nat)(p1:Int)(x3:Bool)(p0:bl):Option aD:=
 bif x3 then some (aD.mk false 0 0 (af.mk 0 0 0 []) (aY.mk 0 []) 0 [] 0) else (eS p0.bC p1).bind λy4=>(vk u y4).bind λr5=>some r5
def qE(u:Nat)(p0:bl)(p1:Int):Option aD:=
 (uM u p0).bind λr1=>bif !r1 then rP u p1 true p0 else (dG u p1 1 (gX .i64 (p0.bC.length:Int) 1)).bind λr2=>rP u p1 (!r2) p0
def tZ(u:Nat)(p0 p1:Int)(x3:Bool):Option Int:=
 bif x3 then some 0 else (fX (!(p1 == 0))).bind λ_=>some (T0 .i64 (gX .i64 (aV .i64 p0 p1) 1) p1)
def vm(u:Nat)(p0 p1:Int):Option Int:=
 (dG u p0 0 1000000000000).bind λr1=>bif !r1 then tZ u p0 p1 true else (dG u p1 1 1000000000000).bind λr2=>tZ u p0 p1 (!r2)
def rj(u:Nat)(p0 p1:Int):Option Int:=
 (pO u p0 p1).bind λr1=>bif !r1 then some 0 else (vm u p1 p0).bind λr2=>some r2
def zD(u:Nat)(p0 p1:Int):Option Int:=
 bif decide (p1 < p0) then some p1 else some p0
def kW(u:Nat)(p0 p1 p2:Int):Option (Int×Int):=
 (rj u p0 p1).bind λr1=>(dG u p2 0 (gX .i64 r1 1)).bind λr2=>bif !r2 then some (0,0) else (zD u p0 (gX .i64 p1 (js .i64 p2 p0))).bind λr3=>some (js .i64 p2 p0,r3)
def n6(u:Nat)(p0:List Int)(p1 p2:Int):Option ((List Int)×Bool):=
 (kW u p1 (p0.length:Int) p2).bind λr1=>bif r1.2 == 0 then some (([]:List Int),false) else (fX (er r1.1 (aV .i64 r1.1 r1.2) p0.length)).bind λ_=>(fX (decide ((([]:List Int).length+((p0.take (sY (aV .i64 r1.1 r1.2))).drop (sY r1.1)).length)*1<=140737488355328))).bind λ_=>some (([]:List Int)++((p0.take (sY (aV .i64 r1.1 r1.2))).drop (sY r1.1)),true)
def rk(u:Nat)(x11 x12:Int):Option Int:=
 some (aV .i64 x11 (js .i64 251 x12))
def o4(u m6:Nat)(p0:List Int)(x4 x5 x6:Int):Option Int:=match m6 with
  | 0=>none
  | m6+1=>bif decide (x6 < (p0.length:Int)) then (eS p0 x6).bind λy10=>o4 u m6 p0 (pK .i64 (aV .i64 x4 (pa .i64 y10)) 251) (pK .i64 (aV .i64 x5 (pK .i64 (aV .i64 x4 (pa .i64 y10)) 251)) 251) (aV .i64 x6 1) else rk u x4 x5
def uN(u:Nat)(p0:List Int):Option Int:=
 o4 u u p0 0 0 0
def Bv(u:Nat)(p0:List Int)(s:Int×Int):Option Int:=rk u s.1 s.2
def wG(u:Nat)(p0:List Int)(y10:Int)(i_:Nat)(s:Int×Int)(k_:(Int×Int)->Option Int):Option Int:=k_ (pK .i64 (aV .i64 s.1 (pa .i64 y10)) 251,pK .i64 (aV .i64 s.2 (pK .i64 (aV .i64 s.1 (pa .i64 y10)) 251)) 251)
theorem IJ(u:Nat)(p0:List Int)(s:Int×Int)(k:Nat)(hn:p0.length<=9223372036854775807)(hk:p0.length < k):o4 u k p0 s.1 s.2 0=Pu.cE (Bv u p0) (wG u p0) p0 0 s:=Pu.dE (λ(k:Nat) (s:Int×Int) (i:Int)=>o4 u k p0 s.1 s.2 i) hn (λ_ _ _=>rfl) s hk
def tj(u:Nat)(p0:List Int)(x8:Int):Option cS:=
 (uN u p0).bind λr9=>some (cS.mk r9 x8)
def qF(u n4:Nat)(p0:List Int)(x3 x4:Int):Option cS:=match n4 with
  | 0=>none
  | n4+1=>bif decide (x4 < (p0.length:Int)) then (eS p0 x4).bind λy7=>qF u n4 p0 (aV .i64 (js .i64 256 x3) (pa .i64 y7)) (aV .i64 x4 1) else tj u p0 x3
def lX(u:Nat)(p0:List Int):Option cS:=
 bif decide ((p0.length:Int) > 6) then some (cS.mk 0 0) else qF u u p0 1 0
def CL(u:Nat)(p0:List Int)(s:Int):Option cS:=tj u p0 s
def yf(u:Nat)(p0:List Int)(y7:Int)(i_:Nat)(s:Int)(k_:Int->Option cS):Option cS:=k_ (aV .i64 (js .i64 256 s) (pa .i64 y7))
theorem KV(u:Nat)(p0:List Int)(s:Int)(k:Nat)(hn:p0.length<=9223372036854775807)(hk:p0.length < k):qF u k p0 s 0=Pu.cE (CL u p0) (yf u p0) p0 0 s:=Pu.dE (λ(k:Nat) (s i:Int)=>qF u k p0 s i) hn (λ_ _ _=>rfl) s hk
def vn(u:Nat)(x10:List cS):Option (List cS):=
 some x10
def kX(u hZ:Nat)(p0:List Int)(p1:Int)(x3:List cS)(x4:Int):Option (List cS):=match hZ with
  | 0=>none
  | hZ+1=>(rj u p1 (p0.length:Int)).bind λr7=>bif decide (x4 < r7) then (n6 u p0 p1 x4).bind λr8=>(lX u r8.1).bind λr9=>(fX (decide ((x3.length+[r9].length)*16<=140737488355328))).bind λ_=>kX u hZ p0 p1 (x3++[r9]) (aV .i64 x4 1) else vn u x3
def pP(u:Nat)(p0:List Int)(p1:Int):Option (List cS):=
 kX u u p0 p1 ([]:List cS) 0
def xg(u:Nat)(p0:Int)(p1:List Int)(p2:Int)(x3:Bool):Option af:=
 bif x3 then some (af.mk 0 0 0 []) else (pP u p1 p2).bind λr4=>some (af.mk p0 p2 (p1.length:Int) r4)
def zE(u:Nat)(p0:Int)(p1:List Int)(p2:Int):Option af:=
 (dG u p0 1 1000000).bind λr1=>bif !r1 then xg u p0 p1 p2 true else (pO u p2 (p1.length:Int)).bind λr2=>xg u p0 p1 p2 (!r2)
def wH(u:Nat)(p0:World):Option af:=
 (zE u 1 p0.cG p0.fC.ar).bind λr1=>some r1
def yg(u:Nat)(x8:List Int):Option ((List Int)×Bool):=
 some (x8,true)
def nL(u lS:Nat)(x4:Int)(x5:List Int):Option ((List Int)×Bool):=match lS with
  | 0=>none
  | lS+1=>bif decide (x4 > 1) then bif decide (x4 < 256) then some (([]:List Int),false) else (fX (decide ((([pa .u8 (gl .i64 x4 255)]:List Int).length+x5.length)*1<=140737488355328))).bind λ_=>nL u lS (ju .i64 x4 8) (([pa .u8 (gl .i64 x4 255)]:List Int)++x5) else yg u x5
def rQ(u:Nat)(p0:Int):Option ((List Int)×Bool):=
 (dG u p0 1 562949953421311).bind λr1=>bif !r1 then some (([]:List Int),false) else nL u u p0 ([]:List Int)
def Bc(u:Nat)  : Option Bool:=
 some true
def mE(u:Nat)(Mh:Int->af->Option Bool)(x6:Int)(x13:Bool)(p0:af):Option Bool:=
 bif x13 then some false else Mh (aV .i64 x6 1) p0
def kH(u iS:Nat)(x6:Int)(p0:af):Option Bool:=match iS with
  | 0=>none
  | iS+1=>bif decide (x6 < (p0.aG.length:Int)) then (eS p0.aG x6).bind λy8=>(rQ u y8.fS).bind λr9=>(kW u p0.ar p0.aU x6).bind λr10=>bif !r9.2 then mE u (kH u iS) x6 true p0 else bif (r9.1.length:Int) != r10.2 then mE u (kH u iS) x6 true p0 else (lX u r9.1).bind λr11=>(eS p0.aG x6).bind λy12=>mE u (kH u iS) x6 (!([r11.fW,r11.fS] == [y12.fW,y12.fS])) p0 else Bc u
def tk(u:Nat)(x4:Bool)(p0:af):Option Bool:=
 bif x4 then some false else kH u u 0 p0
def uy(u:Nat)(p0:af):Option Bool:=
 bif p0.aM == 0 then bif p0.ar == 0 then bif p0.aU == 0 then some ((p0.aG.length:Int) == 0) else some false else some false else (dG u p0.aM 1 1000000).bind λr1=>bif !r1 then tk u true p0 else (pO u p0.ar p0.aU).bind λr2=>bif !r2 then tk u true p0 else (rj u p0.ar p0.aU).bind λr3=>tk u ((p0.aG.length:Int) != r3) p0
def CM(u:Nat)(p0:af)(s:Unit):Option Bool:=Bc u
def yh(u:Nat)(p0:af)(y8:cS)(i_:Nat)(s:Unit)(k_:Unit->Option Bool):Option Bool:=(rQ u y8.fS).bind λr9=>(kW u p0.ar p0.aU (i_:Int)).bind λr10=>bif !r9.2 then mE u (λz0 z1=>k_ ()) (i_:Int) true p0 else bif (r9.1.length:Int) != r10.2 then mE u (λz0 z1=>k_ ()) (i_:Int) true p0 else (lX u r9.1).bind λr11=>(eS p0.aG (i_:Int)).bind λy12=>mE u (λz0 z1=>k_ ()) (i_:Int) (!([r11.fW,r11.fS] == [y12.fW,y12.fS])) p0
theorem KW(u:Nat)(p0:af)(s:Unit)(k:Nat)(hn:p0.aG.length<=9223372036854775807)(hk:p0.aG.length < k):kH u k 0 p0=Pu.cE (CM u p0) (yh u p0) p0.aG 0 s:=Pu.dE (λ(k:Nat) (s:Unit) (i:Int)=>kH u k i p0) hn (λ_ _ _=>rfl) s hk
def uA(u:Nat)  : Option Bool:=
 some true
def kh(u jh:Nat)(p0 p1:List cS)(x2:Int):Option Bool:=match jh with
  | 0=>none
  | jh+1=>bif decide (x2 < (p0.length:Int)) then (eS p0 x2).bind λy4=>(eS p1 x2).bind λy5=>bif !([y4.fW,y4.fS] == [y5.fW,y5.fS]) then some false else kh u jh p0 p1 (aV .i64 x2 1) else uA u
def qm(u:Nat)(p0 p1:List cS):Option Bool:=
 bif (p0.length:Int) != (p1.length:Int) then some false else kh u u p0 p1 0
def Dp(u:Nat)(p0 p1:List cS)(s:Unit):Option Bool:=uA u
def xA(u:Nat)(p0 p1:List cS)(y4:cS)(i_:Nat)(s:Unit)(k_:Unit->Option Bool):Option Bool:=(eS p1 (i_:Int)).bind λy5=>bif !([y4.fW,y4.fS] == [y5.fW,y5.fS]) then some false else k_ ()
theorem Dq(u:Nat)(p0 p1:List cS)(s:Unit)(k:Nat)(hn:p0.length<=9223372036854775807)(hk:p0.length < k):kh u k p0 p1 0=Pu.cE (Dp u p0 p1) (xA u p0 p1) p0 0 s:=Pu.dE (λ(k:Nat) (s:Unit) (i:Int)=>kh u k p0 p1 i) hn (λ_ _ _=>rfl) s hk
def zF(u:Nat)(p0:af)(p1:List Int):Option Bool:=
 bif (p1.length:Int) == p0.aU then (pP u p1 p0.ar).bind λr1=>(qm u r1 p0.aG).bind λr2=>some r2 else some false
def xB(u:Nat)(p0:af):Option af:=
 (fX (decide ((([]:List cS).length+p0.aG.length)*16<=140737488355328))).bind λ_=>some (af.mk p0.aM p0.ar p0.aU (([]:List cS)++p0.aG))
def tl(u:Nat)(p0:af):Option aY:=
 (uy u p0).bind λr1=>bif !r1 then some (aY.mk 0 []) else (fX (decide (0<=p0.aU) && (p0.aU == 0 || p0.aU == p0.aU))).bind λ_=>(fX (decide (sY p0.aU*1<=140737488355328))).bind λ_=>some (aY.mk 0 (zQZ (sY p0.aU) (0:Int)))
def zp(u:Nat)(p0:Int):Option Bool:=
 (dG u p0 0 63000).bind λr1=>some r1
def qn(u:Nat)(p0:Int):Option (Int×Int):=
 (zp u p0).bind λr1=>bif !r1 then some (0,0) else some (pK .i64 p0 251,T0 .i64 p0 251)
def wI(u:Nat)(p0 p1:Int):Option Int:=
 (dG u p1 1 1000000000000).bind λr1=>bif !r1 then some 0 else (fX (!(p1 == 0))).bind λ_=>(fX (!(p1 == 0))).bind λ_=>some (pK .i64 (aV .i64 (pK .i64 p0 p1) p1) p1)
def rS(u:Nat)(p0 p1:Int)(p2 p3:Int)(x5:Bool):Option Int:=
 bif x5 then some p0 else (qn u p0).bind λr6=>(wI u (gX .i64 r6.2 (js .i64 (pK .i64 p1 251) p2)) 251).bind λr7=>(wI u (aV .i64 (gX .i64 r6.1 p2) p3) 251).bind λr8=>(wI u (aV .i64 r7 r8) 251).bind λr9=>some (aV .i64 r8 (js .i64 251 r9))
def zq(u:Nat)(p0 p1:Int)(p2 p3:Int):Option Int:=
 (zp u p0).bind λr1=>bif !r1 then rS u p0 p1 p2 p3 true else (dG u p1 1 1000000000000).bind λr2=>bif !r2 then rS u p0 p1 p2 p3 true else (dG u p2 0 255).bind λr3=>bif !r3 then rS u p0 p1 p2 p3 true else (dG u p3 0 255).bind λr4=>rS u p0 p1 p2 p3 (!r4)
def t6(u:Nat)(x17:List Int):Option (List Int):=
 some x17
def iL(u lT:Nat)(p0:List Int)(p1:Int)(x8:List Int)(x9 x10:Int):Option (List Int):=match lT with
  | 0=>none
  | lT+1=>bif decide (x10 < (p0.length:Int)) then (eS p0 (gX .i64 x10 p1)).bind λy14=>(eS p0 x10).bind λy15=>(zq u x9 p1 (pa .i64 y14) (pa .i64 y15)).bind λr16=>(fX (decide ((x8.length+([r16]:List Int).length)*8<=140737488355328))).bind λ_=>iL u lT p0 p1 (x8++([r16]:List Int)) r16 (aV .i64 x10 1) else t6 u x8
def t7(u:Nat)(p0:List Int)(p1:Int)(x1:Bool):Option (List Int):=
 bif x1 then some ([]:List Int) else (fX (er 0 p1 p0.length)).bind λ_=>(uN u ((p0.take (sY p1)).drop (sY 0))).bind λr3=>(fX (decide ((([]:List Int).length+([r3]:List Int).length)*8<=140737488355328))).bind λ_=>iL u u p0 p1 (([]:List Int)++([r3]:List Int)) r3 p1
def vo(u:Nat)(p0:List Int)(p1:Int):Option (List Int):=
 bif decide (p1 < 1) then t7 u p0 p1 true else t7 u p0 p1 (decide (p1 > (p0.length:Int)))
def G6(u:Nat)(p0:List Int)(p1:Int)(s:(List Int)×Int):Option (List Int):=t6 u s.1
def G7(u:Nat)(p0:List Int)(p1:Int)(i_:Nat)(s:(List Int)×Int)(k_:((List Int)×Int)->Option (List Int)):Option (List Int):=(eS p0 (gX .i64 (i_:Int) p1)).bind λy14=>(eS p0 (i_:Int)).bind λy15=>(zq u s.2 p1 (pa .i64 y14) (pa .i64 y15)).bind λr16=>(fX (decide ((s.1.length+([r16]:List Int).length)*8<=140737488355328))).bind λ_=>k_ (s.1++([r16]:List Int),r16)
theorem UV(u:Nat)(p0:List Int)(p1:Int)(s:(List Int)×Int)(k:Nat)(hn:((p0.length:Int):Int)<=9223372036854775807)(hk:sY (p0.length:Int) < k):iL u k p0 p1 s.1 s.2 0=Pu.oU (G6 u p0 p1) (G7 u p0 p1) (sY (p0.length:Int)) 0 s:=Pu.pA (λ(k:Nat) (s:(List Int)×Int) (i:Int)=>iL u k p0 p1 s.1 s.2 i) hn (λ_ _ _=>rfl) s hk
def t8(u:Nat)  : Option Int:=
 some (-1)
def nM(u:Nat)(IF:List Int->Int->List Int->Int->cS->Option Int)(p0:List Int)(p2:Int)(r2:List Int)(x4:Int)(x9:Bool)(p1:cS):Option Int:=
 bif x9 then some x4 else IF p0 p2 r2 (aV .i64 x4 1) p1
def f0(u iy:Nat)(p0:List Int)(p2:Int)(r2:List Int)(x4:Int)(p1:cS):Option Int:=match iy with
  | 0=>none
  | iy+1=>bif decide (x4 < (r2.length:Int)) then (eS r2 x4).bind λy6=>bif y6 == p1.fW then (fX (er x4 (aV .i64 x4 p2) p0.length)).bind λ_=>(lX u ((p0.take (sY (aV .i64 x4 p2))).drop (sY x4))).bind λr8=>nM u (f0 u iy) p0 p2 r2 x4 ([r8.fW,r8.fS] == [p1.fW,p1.fS]) p1 else nM u (f0 u iy) p0 p2 r2 x4 false p1 else t8 u
def vp(u:Nat)(p0:List Int)(p1:cS)(p2:Int):Option Int:=
 (dG u p2 1 6).bind λr1=>bif !r1 then some (-1) else (vo u p0 p2).bind λr2=>f0 u u p0 p2 r2 0 p1
def G8(u:Nat)(p0:List Int)(p2:Int)(r2:List Int)(p1:cS)(s:Unit):Option Int:=t8 u
def G9(u:Nat)(p0:List Int)(p2:Int)(r2:List Int)(p1:cS)(y6:Int)(i_:Nat)(s:Unit)(k_:Unit->Option Int):Option Int:=bif y6 == p1.fW then (fX (er (i_:Int) (aV .i64 (i_:Int) p2) p0.length)).bind λ_=>(lX u ((p0.take (sY (aV .i64 (i_:Int) p2))).drop (sY (i_:Int)))).bind λr8=>nM u (λz0 z1 z2 z3 z4=>k_ ()) p0 p2 r2 (i_:Int) ([r8.fW,r8.fS] == [p1.fW,p1.fS]) p1 else nM u (λz0 z1 z2 z3 z4=>k_ ()) p0 p2 r2 (i_:Int) false p1
theorem UW(u:Nat)(p0:List Int)(p2:Int)(r2:List Int)(p1:cS)(s:Unit)(k:Nat)(hn:r2.length<=9223372036854775807)(hk:r2.length < k):f0 u k p0 p2 r2 0 p1=Pu.cE (G8 u p0 p2 r2 p1) (G9 u p0 p2 r2 p1) r2 0 s:=Pu.dE (λ(k:Nat) (s:Unit) (i:Int)=>f0 u k p0 p2 r2 i p1) hn (λ_ _ _=>rfl) s hk
def t9(u:Nat)(p0:List Int)(p2:Int)(r1:Int×Int)(x2:Bool)(p1:af):Option Int:=
 bif x2 then some (-1) else (eS p1.aG p2).bind λy3=>(vp u p0 y3 r1.2).bind λr4=>some r4
def rT(u:Nat)(p0:List Int)(p1:af)(p2:Int):Option Int:=
 (kW u p1.ar p1.aU p2).bind λr1=>bif r1.2 == 0 then t9 u p0 p2 r1 true p1 else t9 u p0 p2 r1 (decide (p2>=(p1.aG.length:Int))) p1
def wJ(u:Nat)(p0:Int):Option Bool:=
 (dG u p0 0 1099511627775).bind λr1=>some r1
def zG(u:Nat)(p0 p1:Int):Option Bool:=
 (wJ u p0).bind λr1=>bif r1 then (dG u p1 0 39).bind λr2=>bif r2 then (fX (decide (0<=p1))).bind λ_=>some (gl .i64 (ju .i64 p0 p1) 1 == 1) else some false else some false
def rU(u:Nat)(p0 p1:Int)(x3:Bool):Option Int:=
 bif x3 then some p0 else (fX (decide (0<=p1))).bind λ_=>some (u9 .i64 p0 (jt .i64 1 p1))
def qG(u:Nat)(p0 p1:Int):Option Int:=
 (wJ u p0).bind λr1=>bif !r1 then rU u p0 p1 true else (dG u p1 0 39).bind λr2=>rU u p0 p1 (!r2)
def xh(u:Nat)(p2:Int)(p1:aY)(x15:List Int):Option (Bool×aY):=
 (qG u p1.bj p2).bind λr16=>some (true,(aY.mk r16 x15))
def qH(u n5:Nat)(p2:Int)(p3:List Int)(r6:Int×Int)(x9:Int)(p1:aY)(x10:List Int):Option (Bool×aY):=match n5 with
  | 0=>none
  | n5+1=>bif decide (x9 < (p3.length:Int)) then (eS p3 x9).bind λy13=>(eS x10 (aV .i64 r6.1 x9)).bind λy14=>qH u n5 p2 p3 r6 (aV .i64 x9 1) p1 (x10.set (sY (aV .i64 r6.1 x9)) y13) else xh u p2 p1 x10
def qI(u:Nat)(p2:Int)(p3:List Int)(x5:Bool)(p0:af)(p1:aY):Option (Bool×aY):=
 bif x5 then some (false,p1) else (kW u p0.ar p0.aU p2).bind λr6=>qH u u p2 p3 r6 0 p1 p1.cu
def wK(u:Nat)(p0:af)(p1:aY)(p2:Int)(p3:List Int):Option (Bool×aY):=
 (dG u p2 0 (gX .i64 (p0.aG.length:Int) 1)).bind λr1=>bif !r1 then qI u p2 p3 true p0 p1 else (zG u p1.bj p2).bind λr2=>bif r2 then qI u p2 p3 true p0 p1 else (lX u p3).bind λr3=>(eS p0.aG p2).bind λy4=>bif !([r3.fW,r3.fS] == [y4.fW,y4.fS]) then qI u p2 p3 true p0 p1 else qI u p2 p3 (decide ((p3.length:Int) > 6)) p0 p1
def yi(u:Nat)(p2:Int)(p3:List Int)(r6:Int×Int)(p1:aY)(s:List Int):Option (Bool×aY):=xh u p2 p1 s
def yj(u:Nat)(p2:Int)(p3:List Int)(r6:Int×Int)(p1:aY)(y13:Int)(i_:Nat)(s:List Int)(k_:List Int->Option (Bool×aY)):Option (Bool×aY):=(eS s (aV .i64 r6.1 (i_:Int))).bind λy14=>k_ (s.set (sY (aV .i64 r6.1 (i_:Int))) y13)
theorem KX(u:Nat)(p2:Int)(p3:List Int)(r6:Int×Int)(p1:aY)(s:List Int)(k:Nat)(hn:p3.length<=9223372036854775807)(hk:p3.length < k):qH u k p2 p3 r6 0 p1 s=Pu.cE (yi u p2 p3 r6 p1) (yj u p2 p3 r6 p1) p3 0 s:=Pu.dE (λ(k:Nat) (s:List Int) (i:Int)=>qH u k p2 p3 r6 i p1 s) hn (λ_ _ _=>rfl) s hk
def vq(u:Nat)(x18:Int)(x19:List Int):Option aY:=
 some (aY.mk x18 x19)
def lA(u:Nat)(Fs:List Int->Int->af->Int->List Int->Option aY)(p1:List Int)(x6:Int)(p0:af)(x16:Int)(x17:List Int):Option aY:=
 Fs p1 (aV .i64 x6 1) p0 x16 x17
def im(u gw:Nat)(p1:List Int)(x6:Int)(p0:af)(x7:Int)(x8:List Int):Option aY:=match gw with
  | 0=>none
  | gw+1=>bif decide (x6 < (p0.aG.length:Int)) then (rT u p1 p0 x6).bind λr12=>(kW u p0.ar p0.aU x6).bind λr13=>bif decide (r12>=0) then (fX (er r12 (aV .i64 r12 r13.2) p1.length)).bind λ_=>(wK u p0 (aY.mk x7 x8) x6 ((p1.take (sY (aV .i64 r12 r13.2))).drop (sY r12))).bind λr15=>lA u (im u gw) p1 x6 p0 r15.2.bj r15.2.cu else lA u (im u gw) p1 x6 p0 x7 x8 else vq u x7 x8
def rm(u:Nat)(p0:af)(p1:List Int):Option aY:=
 (tl u p0).bind λr1=>(uy u p0).bind λr2=>bif !r2 then some r1 else im u u p1 0 p0 r1.bj r1.cu
def yM(u:Nat)(p1:List Int)(p0:af)(s:Int×(List Int)):Option aY:=vq u s.1 s.2
def sW(u:Nat)(p1:List Int)(p0:af)(i_:Nat)(s:Int×(List Int))(k_:(Int×(List Int))->Option aY):Option aY:=(rT u p1 p0 (i_:Int)).bind λr12=>(kW u p0.ar p0.aU (i_:Int)).bind λr13=>bif decide (r12>=0) then (fX (er r12 (aV .i64 r12 r13.2) p1.length)).bind λ_=>(wK u p0 (aY.mk s.1 s.2) (i_:Int) ((p1.take (sY (aV .i64 r12 r13.2))).drop (sY r12))).bind λr15=>lA u (λz0 z1 z2 z3 z4=>k_ (z3,z4)) p1 (i_:Int) p0 r15.2.bj r15.2.cu else lA u (λz0 z1 z2 z3 z4=>k_ (z3,z4)) p1 (i_:Int) p0 s.1 s.2
theorem E5(u:Nat)(p1:List Int)(p0:af)(s:Int×(List Int))(k:Nat)(hn:((p0.aG.length:Int):Int)<=9223372036854775807)(hk:sY (p0.aG.length:Int) < k):im u k p1 0 p0 s.1 s.2=Pu.oU (yM u p1 p0) (sW u p1 p0) (sY (p0.aG.length:Int)) 0 s:=Pu.pA (λ(k:Nat) (s:Int×(List Int)) (i:Int)=>im u k p1 i p0 s.1 s.2) hn (λ_ _ _=>rfl) s hk
def o5(u:Nat)(p1:List Int)(x3:Bool)(p0:af):Option aD:=
 bif x3 then some (aD.mk false 0 0 (af.mk 0 0 0 []) (aY.mk 0 []) 0 [] 0) else (xB u p0).bind λr4=>(rm u p0 p1).bind λr5=>some (aD.mk true (-1) 0 r4 r5 6 [] 0)
def qJ(u:Nat)(p0:af)(p1:List Int):Option aD:=
 bif p0.aM == 0 then o5 u p1 true p0 else (uy u p0).bind λr1=>bif !r1 then o5 u p1 true p0 else (zF u p0 p1).bind λr2=>o5 u p1 (!r2) p0
def nN(u:Nat)(p0:Int)(p1:List Int)(x2:Bool):Option aA:=
 bif x2 then some (aA.mk [] [] (gy.mk 0 0 0) []) else (fX (decide ((([]:List Int).length+p1.length)*1<=140737488355328))).bind λ_=>some (aA.mk (([]:List Int)++p1) [] (gy.mk p0 0 (p1.length:Int)) [])
def pV(u:Nat)(p0:Int)(p1:List Int):Option aA:=
 (dG u p0 0 1000000).bind λr1=>bif !r1 then nN u p0 p1 true else nN u p0 p1 (decide ((p1.length:Int) > 240))
def rV(u:Nat)(p0:dV)(p1:bl)(p2:List Int)(r8:List aL)(x36:List aD)(x37:List aA):Option World:=
 some (World.mk p0 (bl.mk (([]:List Int)++p1.bC)) (([]:List Int)++p2) r8 x36 x37 [] [] 0)
def ki(u:Nat)(G0:List Int->List aL->Int->dV->bl->List aL->List aD->List aA->Option World)(p2:List Int)(p3:List aL)(x12:Int)(p0:dV)(p1:bl)(r8:List aL)(x13:List aD)(x14:List aA)(x21:Bool)(x22 x23:Int)(x24 x25 x26:Int)(x27:List cS)(x28:Int)(x29:List Int)(x30:Int)(x31:List Kid)(x32:Int):Option World:=
 (fX (decide ((x13.length+([(aD.mk x21 x22 x23 (af.mk x24 x25 x26 x27) (aY.mk x28 x29) x30 x31 x32)]).length)*144<=140737488355328))).bind λ_=>(eS p3 x12).bind λy34=>(pV u 0 y34.fB).bind λr35=>(fX (decide ((x14.length+[r35].length)*96<=140737488355328))).bind λ_=>G0 p2 p3 (aV .i64 x12 1) p0 p1 r8 (x13++([(aD.mk x21 x22 x23 (af.mk x24 x25 x26 x27) (aY.mk x28 x29) x30 x31 x32)])) (x14++[r35])
def eF(u gR:Nat)(p2:List Int)(p3:List aL)(x12:Int)(p0:dV)(p1:bl)(r8:List aL)(x13:List aD)(x14:List aA):Option World:=match gR with
  | 0=>none
  | gR+1=>bif decide (x12 < (p1.bC.length:Int)) then (qE u p1 x12).bind λr18=>bif x12 == 0 then (wH u (World.mk p0 (bl.mk (([]:List Int)++p1.bC)) (([]:List Int)++p2) r8 x13 x14 [] [] 0)).bind λr19=>(qJ u r19 p2).bind λr20=>ki u (eF u gR) p2 p3 x12 p0 p1 r8 x13 x14 r20.lu r20.bY r20.bM r20.aB.aM r20.aB.ar r20.aB.aU r20.aB.aG r20.bw.bj r20.bw.cu r20.aR r20.aX r20.bE else ki u (eF u gR) p2 p3 x12 p0 p1 r8 x13 x14 r18.lu r18.bY r18.bM r18.aB.aM r18.aB.ar r18.aB.aU r18.aB.aG r18.bw.bj r18.bw.cu r18.aR r18.aX r18.bE else rV u p0 p1 p2 r8 x13 x14
def mQ(u:Nat)(p2:List Int)(p3:List aL)(x5:Bool)(p0:dV)(p1:bl):Option World:=
 bif x5 then some (World.mk (dV.mk 0 0 0 0) (bl.mk []) [] [] [] [] [] [] 0) else (fX (decide ((([]:List Int).length+p1.bC.length)*8<=140737488355328))).bind λ_=>(fX (decide ((([]:List Int).length+p2.length)*1<=140737488355328))).bind λ_=>(ri u p3).bind λr8=>eF u u p2 p3 0 p0 p1 r8 [] []
def tn(u:Nat)(p0:dV)(p1:bl)(p2:List Int)(p3:List aL):Option World:=
 (xz u p0).bind λr1=>bif !r1 then mQ u p2 p3 true p0 p1 else (uM u p1).bind λr2=>bif !r2 then mQ u p2 p3 true p0 p1 else (pO u p0.ar (p2.length:Int)).bind λr3=>bif !r3 then mQ u p2 p3 true p0 p1 else (vh u p3 (p1.bC.length:Int)).bind λr4=>mQ u p2 p3 (!r4) p0 p1
def FW(u:Nat)(p2:List Int)(p3:List aL)(p0:dV)(p1:bl)(r8:List aL)(s:(List aD)×(List aA)):Option World:=rV u p0 p1 p2 r8 s.1 s.2
def FX(u:Nat)(p2:List Int)(p3:List aL)(p0:dV)(p1:bl)(r8:List aL)(i_:Nat)(s:(List aD)×(List aA))(k_:((List aD)×(List aA))->Option World):Option World:=(qE u p1 (i_:Int)).bind λr18=>bif (i_:Int) == 0 then (wH u (World.mk p0 (bl.mk (([]:List Int)++p1.bC)) (([]:List Int)++p2) r8 s.1 s.2 [] [] 0)).bind λr19=>(qJ u r19 p2).bind λr20=>ki u (λz0 z1 z2 z3 z4 z5 z6 z7=>k_ (z6,z7)) p2 p3 (i_:Int) p0 p1 r8 s.1 s.2 r20.lu r20.bY r20.bM r20.aB.aM r20.aB.ar r20.aB.aU r20.aB.aG r20.bw.bj r20.bw.cu r20.aR r20.aX r20.bE else ki u (λz0 z1 z2 z3 z4 z5 z6 z7=>k_ (z6,z7)) p2 p3 (i_:Int) p0 p1 r8 s.1 s.2 r18.lu r18.bY r18.bM r18.aB.aM r18.aB.ar r18.aB.aU r18.aB.aG r18.bw.bj r18.bw.cu r18.aR r18.aX r18.bE
theorem Ts(u:Nat)(p2:List Int)(p3:List aL)(p0:dV)(p1:bl)(r8:List aL)(s:(List aD)×(List aA))(k:Nat)(hn:((p1.bC.length:Int):Int)<=9223372036854775807)(hk:sY (p1.bC.length:Int) < k):eF u k p2 p3 0 p0 p1 r8 s.1 s.2=Pu.oU (FW u p2 p3 p0 p1 r8) (FX u p2 p3 p0 p1 r8) (sY (p1.bC.length:Int)) 0 s:=Pu.pA (λ(k:Nat) (s:(List aD)×(List aA)) (i:Int)=>eF u k p2 p3 i p0 p1 r8 s.1 s.2) hn (λ_ _ _=>rfl) s hk
def vt(u:Nat)(r2:(List Int)×bS)(x19:List aL)(r1:bl×bS)(x20:List Int)(x21 x22:Int):Option (World×bS):=
 (ve u (bS.mk x20 x21 x22)).bind λr23=>(tn u r23.1 r1.1 r2.1 x19).bind λr24=>some (r24,r23.2)
def jw(u m7:Nat)(r2:(List Int)×bS)(x8:List aL)(x9:Int)(r1:bl×bS)(x10:List Int)(x11 x12:Int):Option (World×bS):=match m7 with
  | 0=>none
  | m7+1=>bif decide (x9 < (r1.1.bC.length:Int)) then (ux u (bS.mk x10 x11 x12) r2.1).bind λr18=>(fX (decide ((x8.length+([(aL.mk r18.1)]).length)*24<=140737488355328))).bind λ_=>jw u m7 r2 (x8++([(aL.mk r18.1)])) (aV .i64 x9 1) r1 r18.2.fB r18.2.fI r18.2.fH else vt u r2 x8 r1 x10 x11 x12
def xC(u:Nat)(p0:bS):Option (World×bS):=
 (vd u p0).bind λr1=>(rO u r1.2).bind λr2=>jw u u r2 ([]:List aL) 0 r1 r2.2.fB r2.2.fI r2.2.fH
def IK(u:Nat)(r2:(List Int)×bS)(r1:bl×bS)(s:(List aL)×(List Int)×Int×Int):Option (World×bS):=vt u r2 s.1 r1 s.2.1 s.2.2.1 s.2.2.2
def IL(u:Nat)(r2:(List Int)×bS)(r1:bl×bS)(i_:Nat)(s:(List aL)×(List Int)×Int×Int)(k_:((List aL)×(List Int)×Int×Int)->Option (World×bS)):Option (World×bS):=(ux u (bS.mk s.2.1 s.2.2.1 s.2.2.2) r2.1).bind λr18=>(fX (decide ((s.1.length+([(aL.mk r18.1)]).length)*24<=140737488355328))).bind λ_=>k_ (s.1++([(aL.mk r18.1)]),r18.2.fB,r18.2.fI,r18.2.fH)
theorem VE(u:Nat)(r2:(List Int)×bS)(r1:bl×bS)(s:(List aL)×(List Int)×Int×Int)(k:Nat)(hn:((r1.1.bC.length:Int):Int)<=9223372036854775807)(hk:sY (r1.1.bC.length:Int) < k):jw u k r2 s.1 0 r1 s.2.1 s.2.2.1 s.2.2.2=Pu.oU (IK u r2 r1) (IL u r2 r1) (sY (r1.1.bC.length:Int)) 0 s:=Pu.pA (λ(k:Nat) (s:(List aL)×(List Int)×Int×Int) (i:Int)=>jw u k r2 s.1 i r1 s.2.1 s.2.2.1 s.2.2.2) hn (λ_ _ _=>rfl) s hk
def tp(u:Nat)(p0:List Int):Option (World×Int):=
 (Cb u p0).bind λr1=>(xC u r1).bind λr2=>(dA u r2.2 40).bind λr3=>some (r2.1,r3.1)
def bq(u:Nat)(p0 p1 p2:Int):Option Bool:=
 bif decide (p0>=p1) then some (decide (p0<=p2)) else some false
def uO(u:Nat)(p0:dV):Option Bool:=
 (bq u p0.ar 2 6).bind λr1=>bif r1 then (bq u p0.ba 1 40).bind λr2=>bif r2 then (bq u p0.aW 1 5).bind λr3=>bif r3 then (bq u p0.aZ 2 8).bind λr4=>some r4 else some false else some false else some false
def vu(u:Nat)(p0:bl):Option Bool:=
 (bq u (p0.bC.length:Int) 1 7).bind λr8=>some r8
def ga(u:Nat)(Kg:bl->Int->Option Bool)(p0:bl)(x2:Int)(x7:Bool):Option Bool:=
 bif x7 then some false else Kg p0 (aV .i64 x2 1)
def gK(u fx:Nat)(p0:bl)(x2:Int):Option Bool:=match fx with
  | 0=>none
  | fx+1=>bif decide (x2 < (p0.bC.length:Int)) then (eS p0.bC x2).bind λy4=>bif x2 == 0 then bif y4 != (-1) then ga u (gK u fx) p0 x2 true else bif decide (x2 > 0) then (bq u y4 0 (gX .i64 x2 1)).bind λr5=>ga u (gK u fx) p0 x2 (!r5) else ga u (gK u fx) p0 x2 false else bif decide (x2 > 0) then (bq u y4 0 (gX .i64 x2 1)).bind λr6=>ga u (gK u fx) p0 x2 (!r6) else ga u (gK u fx) p0 x2 false else vu u p0
def n7(u:Nat)(p0:bl):Option Bool:=
 gK u u p0 0
def Bw(u:Nat)(p0:bl)(s:Unit):Option Bool:=vu u p0
def Bx(u:Nat)(p0:bl)(y4:Int)(i_:Nat)(s:Unit)(k_:Unit->Option Bool):Option Bool:=bif (i_:Int) == 0 then bif y4 != (-1) then ga u (λz0 z1=>k_ ()) p0 (i_:Int) true else bif decide ((i_:Int) > 0) then (bq u y4 0 (gX .i64 (i_:Int) 1)).bind λr5=>ga u (λz0 z1=>k_ ()) p0 (i_:Int) (!r5) else ga u (λz0 z1=>k_ ()) p0 (i_:Int) false else bif decide ((i_:Int) > 0) then (bq u y4 0 (gX .i64 (i_:Int) 1)).bind λr6=>ga u (λz0 z1=>k_ ()) p0 (i_:Int) (!r6) else ga u (λz0 z1=>k_ ()) p0 (i_:Int) false
theorem IM(u:Nat)(p0:bl)(s:Unit)(k:Nat)(hn:p0.bC.length<=9223372036854775807)(hk:p0.bC.length < k):gK u k p0 0=Pu.cE (Bw u p0) (Bx u p0) p0.bC 0 s:=Pu.dE (λ(k:Nat) (s:Unit) (i:Int)=>gK u k p0 i) hn (λ_ _ _=>rfl) s hk
def mF(u:Nat)(p0 p1:Int):Option Bool:=
 (bq u p0 2 6).bind λr1=>bif r1 then (bq u p1 0 (js .i64 40 p0)).bind λr2=>some r2 else some false
def rX(u:Nat)(p0:aL):Option Bool:=
 some (decide ((p0.fB.length:Int) > 240))
def dm(u:Nat)  : Option Int:=
 some (-1)
def br(u bn:Nat)(p0:List aL)(x2:Int):Option Int:=match bn with
  | 0=>none
  | bn+1=>bif decide (x2 < (p0.length:Int)) then (eS p0 x2).bind λy4=>(rX u y4).bind λr5=>bif r5 then some x2 else br u bn p0 (aV .i64 x2 1) else dm u
def cI(u:Nat)(p0:List aL):Option Int:=
 br u u p0 0
def jm(u:Nat)(p0:List aL)(s:Unit):Option Int:=dm u
def jn(u:Nat)(p0:List aL)(y4:aL)(i_:Nat)(s:Unit)(k_:Unit->Option Int):Option Int:=(rX u y4).bind λr5=>bif r5 then some (i_:Int) else k_ ()
theorem jo(u:Nat)(p0:List aL)(s:Unit)(k:Nat)(hn:p0.length<=9223372036854775807)(hk:p0.length < k):br u k p0 0=Pu.cE (jm u p0) (jn u p0) p0 0 s:=Pu.dE (λ(k:Nat) (s:Unit) (i:Int)=>br u k p0 i) hn (λ_ _ _=>rfl) s hk
def cC(u:Nat)(p0:List aL):Option Bool:=
 (cI u p0).bind λr1=>some (decide (r1>=0))
def o6(u:Nat)(p0:bl)(p1:List aL):Option Bool:=
 bif (p1.length:Int) == (p0.bC.length:Int) then (cC u p1).bind λr1=>some (!r1) else some false
def db(u:Nat)(p0:bl)(p1:Int):Option Bool:=
 (bq u p1 0 (gX .i64 (p0.bC.length:Int) 1)).bind λr1=>some r1
def vw(u:Nat)(p0:Int):Option aD:=
 some (aD.mk true p0 0 (af.mk 0 0 0 []) (aY.mk 0 []) 0 [] 0)
def o7(u:Nat)(p1:Int)(x3:Bool)(p0:bl):Option aD:=
 bif x3 then some (aD.mk false 0 0 (af.mk 0 0 0 []) (aY.mk 0 []) 0 [] 0) else (eS p0.bC p1).bind λy4=>(vw u y4).bind λr5=>some r5
def oJ(u:Nat)(p0:bl)(p1:Int):Option aD:=
 (n7 u p0).bind λr1=>bif !r1 then o7 u p1 true p0 else bif p1 == 0 then o7 u p1 true p0 else (db u p0 p1).bind λr2=>o7 u p1 (!r2) p0
def ua(u:Nat)(p0 p1:Int)(x3:Bool):Option Int:=
 bif x3 then some 0 else (fX (!(p1 == 0))).bind λ_=>some (T0 .i64 (gX .i64 (aV .i64 p0 p1) 1) p1)
def rY(u:Nat)(p0 p1:Int):Option Int:=
 (bq u p0 0 1000000000000).bind λr1=>bif !r1 then ua u p0 p1 true else (bq u p1 1 1000000000000).bind λr2=>ua u p0 p1 (!r2)
def mG(u:Nat)(p0 p1:Int):Option Int:=
 (mF u p0 p1).bind λr1=>bif !r1 then some 0 else (rY u p1 p0).bind λr2=>some r2
def io(u:Nat)(p0 p1 p2:Int):Option (Int×Int):=
 (mG u p0 p1).bind λr1=>(bq u p2 0 (gX .i64 r1 1)).bind λr2=>bif !r2 then some (0,0) else some (js .i64 p2 p0,if (gX .i64 p1 (js .i64 p2 p0)) < p0 then gX .i64 p1 (js .i64 p2 p0) else p0)
def dR(u:Nat)(p0:List Int):Option (List Int):=
 (fX (decide (0<=(p0.length:Int)) && (0 == 0 || 0 == (p0.length:Int)))).bind λ_=>(fX (decide (sY (p0.length:Int)*1<=140737488355328))).bind λ_=>(fX (decide (((zQZ (sY 0) (0:Int)).length+p0.length)*1<=140737488355328))).bind λ_=>some ((zQZ (sY 0) (0:Int))++p0)
def qK(u:Nat)(p0:List Int)(p1 p2:Int)(x3:Bool):Option ((List Int)×Bool):=
 bif x3 then some ([],false) else (fX (er p1 (aV .i64 p1 p2) p0.length)).bind λ_=>(dR u ((p0.take (sY (aV .i64 p1 p2))).drop (sY p1))).bind λr5=>some (r5,true)
def pW(u:Nat)(p0:List Int)(p1 p2:Int):Option ((List Int)×Bool):=
 (bq u p1 0 (p0.length:Int)).bind λr1=>bif !r1 then qK u p0 p1 p2 true else (bq u p2 0 (gX .i64 (p0.length:Int) p1)).bind λr2=>qK u p0 p1 p2 (!r2)
def n8(u:Nat)(p0:List Int)(p1 p2:Int):Option ((List Int)×Bool):=
 (io u p1 (p0.length:Int) p2).bind λr1=>bif r1.2 == 0 then some ([],false) else (pW u p0 r1.1 r1.2).bind λr2=>some (r2.1,r2.2)
def zr(u:Nat)(p0 p1:Int):Option Int:=
 (bq u p1 1 1000000000000).bind λr1=>bif !r1 then some 0 else (fX (!(p1 == 0))).bind λ_=>(fX (!(p1 == 0))).bind λ_=>some (pK .i64 (aV .i64 (pK .i64 p0 p1) p1) p1)
def By(u:Nat)(p0 p1:Int):Option Int:=
 (zr u p0 251).bind λr1=>(zr u p1 251).bind λr2=>some (aV .i64 r1 (js .i64 251 r2))
def rn(u:Nat)(x11 x12:Int):Option Int:=
 (By u x11 x12).bind λr13=>some r13
def o8(u m4:Nat)(x4 x5:Int)(p0:List Int)(x6:Int):Option Int:=match m4 with
  | 0=>none
  | m4+1=>bif decide (x6 < (p0.length:Int)) then (eS p0 x6).bind λy10=>o8 u m4 (pK .i64 (aV .i64 x4 (pa .i64 y10)) 251) (pK .i64 (aV .i64 x5 (pK .i64 (aV .i64 x4 (pa .i64 y10)) 251)) 251) p0 (aV .i64 x6 1) else rn u x4 x5
def pQ(u:Nat)(p0:List Int):Option Int:=
 o8 u u 0 0 p0 0
def Bz(u:Nat)(p0:List Int)(s:Int×Int):Option Int:=rn u s.1 s.2
def wL(u:Nat)(p0:List Int)(y10:Int)(i_:Nat)(s:Int×Int)(k_:(Int×Int)->Option Int):Option Int:=k_ (pK .i64 (aV .i64 s.1 (pa .i64 y10)) 251,pK .i64 (aV .i64 s.2 (pK .i64 (aV .i64 s.1 (pa .i64 y10)) 251)) 251)
theorem IN(u:Nat)(p0:List Int)(s:Int×Int)(k:Nat)(hn:p0.length<=9223372036854775807)(hk:p0.length < k):o8 u k s.1 s.2 p0 0=Pu.cE (Bz u p0) (wL u p0) p0 0 s:=Pu.dE (λ(k:Nat) (s:Int×Int) (i:Int)=>o8 u k s.1 s.2 p0 i) hn (λ_ _ _=>rfl) s hk
def tq(u:Nat)(p0:List Int)(x8:Int):Option cS:=
 (pQ u p0).bind λr9=>some (cS.mk r9 x8)
def qL(u nZ:Nat)(p0:List Int)(x3 x4:Int):Option cS:=match nZ with
  | 0=>none
  | nZ+1=>bif decide (x4 < (p0.length:Int)) then (eS p0 x4).bind λy7=>qL u nZ p0 (u9 .i64 (jt .i64 x3 8) (pa .i64 y7)) (aV .i64 x4 1) else tq u p0 x3
def lY(u:Nat)(p0:List Int):Option cS:=
 bif decide ((p0.length:Int) > 6) then some (cS.mk 0 0) else qL u u p0 1 0
def CN(u:Nat)(p0:List Int)(s:Int):Option cS:=tq u p0 s
def yk(u:Nat)(p0:List Int)(y7:Int)(i_:Nat)(s:Int)(k_:Int->Option cS):Option cS:=k_ (u9 .i64 (jt .i64 s 8) (pa .i64 y7))
theorem KY(u:Nat)(p0:List Int)(s:Int)(k:Nat)(hn:p0.length<=9223372036854775807)(hk:p0.length < k):qL u k p0 s 0=Pu.cE (CN u p0) (yk u p0) p0 0 s:=Pu.dE (λ(k:Nat) (s i:Int)=>qL u k p0 s i) hn (λ_ _ _=>rfl) s hk
def zH(u:Nat)(x10:List cS):Option (List cS):=
 some x10
def o9(u m3:Nat)(p0:List Int)(p1:Int)(x4:List cS)(r1 x5:Int):Option (List cS):=match m3 with
  | 0=>none
  | m3+1=>bif decide (x5 < r1) then (n8 u p0 p1 x5).bind λr8=>(lY u r8.1).bind λr9=>(fX (decide ((x4.length+[r9].length)*16<=140737488355328))).bind λ_=>o9 u m3 p0 p1 (x4++[r9]) r1 (aV .i64 x5 1) else zH u x4
def uP(u:Nat)(p0:List Int)(p1:Int):Option (List cS):=
 (mG u p1 (p0.length:Int)).bind λr1=>o9 u u p0 p1 ([]:List cS) r1 0
def IP(u:Nat)(p0:List Int)(p1 r1:Int)(s:List cS):Option (List cS):=zH u s
def BA(u:Nat)(p0:List Int)(p1 r1:Int)(i_:Nat)(s:List cS)(k_:List cS->Option (List cS)):Option (List cS):=(n8 u p0 p1 (i_:Int)).bind λr8=>(lY u r8.1).bind λr9=>(fX (decide ((s.length+[r9].length)*16<=140737488355328))).bind λ_=>k_ (s++[r9])
theorem IQ(u:Nat)(p0:List Int)(p1 r1:Int)(s:List cS)(k:Nat)(hn:(r1:Int)<=9223372036854775807)(hk:sY r1 < k):o9 u k p0 p1 s r1 0=Pu.oU (IP u p0 p1 r1) (BA u p0 p1 r1) (sY r1) 0 s:=Pu.pA (λ(k:Nat) (s:List cS) (i:Int)=>o9 u k p0 p1 s r1 i) hn (λ_ _ _=>rfl) s hk
def xi(u:Nat)(p0:Int)(p1:List Int)(p2:Int)(x3:Bool):Option af:=
 bif x3 then some (af.mk 0 0 0 []) else (uP u p1 p2).bind λr4=>some (af.mk p0 p2 (p1.length:Int) r4)
def uB(u:Nat)(p0:Int)(p1:List Int)(p2:Int):Option af:=
 (bq u p0 1 1000000).bind λr1=>bif !r1 then xi u p0 p1 p2 true else (mF u p2 (p1.length:Int)).bind λr2=>xi u p0 p1 p2 (!r2)
def jx(u:Nat)(p0:af):Option Bool:=
 bif p0.aM == 0 then bif p0.ar == 0 then bif p0.aU == 0 then some ((p0.aG.length:Int) == 0) else some false else some false else some false
def ym(u:Nat)(x17:List Int):Option ((List Int)×Bool):=
 some (x17,true)
def nO(u lN:Nat)(p0 x5:Int)(x11:List Int)(x12:Int):Option ((List Int)×Bool):=match lN with
  | 0=>none
  | lN+1=>bif decide (x12 < ((zQZ (sY x5) (0:Int)).length:Int)) then (fX (decide (0<=(js .i64 8 (gX .i64 (gX .i64 x5 1) x12))))).bind λ_=>(eS x11 x12).bind λy16=>nO u lN p0 x5 (x11.set (sY x12) (pa .u8 (ju .i64 p0 (js .i64 8 (gX .i64 (gX .i64 x5 1) x12))))) (aV .i64 x12 1) else ym u x11
def nP(u:Nat)(p0 x5:Int)(x6:Bool):Option ((List Int)×Bool):=
 bif x6 then some ([],false) else (fX (decide (0<=x5) && (x5 == 0 || x5 == x5))).bind λ_=>(fX (decide (sY x5*1<=140737488355328))).bind λ_=>nO u u p0 x5 (zQZ (sY x5) (0:Int)) 0
def qo(u:Nat)(p0 x5:Int):Option ((List Int)×Bool):=
 bif decide (p0 < 1) then nP u p0 x5 true else (fX (decide (0<=(js .i64 8 x5)))).bind λ_=>nP u p0 x5 (ju .i64 p0 (js .i64 8 x5) != 1)
def qp(u:Nat)(IC:Int->Int->Option ((List Int)×Bool))(p0 x2:Int)(x4:Bool):Option ((List Int)×Bool):=
 bif x4 then IC p0 (aV .i64 x2 1) else qo u p0 x2
def iM(u iu:Nat)(p0 x2:Int):Option ((List Int)×Bool):=match iu with
  | 0=>none
  | iu+1=>bif decide (x2 < 6) then (fX (decide (0<=(js .i64 8 x2)))).bind λ_=>qp u (iM u iu) p0 x2 (decide (ju .i64 p0 (js .i64 8 x2) > 1)) else qp u (iM u iu) p0 x2 false
def n9(u:Nat)(p0:Int):Option ((List Int)×Bool):=
 iM u u p0 0
def Ha(u:Nat)(p0 x5:Int)(s:List Int):Option ((List Int)×Bool):=ym u s
def AB(u:Nat)(p0 x5:Int)(i_:Nat)(s:List Int)(k_:List Int->Option ((List Int)×Bool)):Option ((List Int)×Bool):=(fX (decide (0<=(js .i64 8 (gX .i64 (gX .i64 x5 1) (i_:Int)))))).bind λ_=>(eS s (i_:Int)).bind λy16=>k_ (s.set (sY (i_:Int)) (pa .u8 (ju .i64 p0 (js .i64 8 (gX .i64 (gX .i64 x5 1) (i_:Int))))))
theorem Hb(u:Nat)(p0 x5:Int)(s:List Int)(k:Nat)(hn:(((zQZ (sY x5) (0:Int)).length:Int):Int)<=9223372036854775807)(hk:sY ((zQZ (sY x5) (0:Int)).length:Int) < k):nO u k p0 x5 s 0=Pu.oU (Ha u p0 x5) (AB u p0 x5) (sY ((zQZ (sY x5) (0:Int)).length:Int)) 0 s:=Pu.pA (λ(k:Nat) (s:List Int) (i:Int)=>nO u k p0 x5 s i) hn (λ_ _ _=>rfl) s hk
def Bd(u:Nat)  : Option Bool:=
 some true
def mH(u:Nat)(Mg:af->Int->Option Bool)(p0:af)(x7:Int)(x13:Bool):Option Bool:=
 bif x13 then some false else Mg p0 (aV .i64 x7 1)
def kI(u iR:Nat)(p0:af)(x7:Int):Option Bool:=match iR with
  | 0=>none
  | iR+1=>bif decide (x7 < (p0.aG.length:Int)) then (eS p0.aG x7).bind λy9=>(n9 u y9.fS).bind λr10=>(io u p0.ar p0.aU x7).bind λr11=>bif !r10.2 then mH u (kI u iR) p0 x7 true else bif (r10.1.length:Int) != r11.2 then mH u (kI u iR) p0 x7 true else (pQ u r10.1).bind λr12=>mH u (kI u iR) p0 x7 (r12 != y9.fW) else Bd u
def tr(u:Nat)(x5:Bool)(p0:af):Option Bool:=
 bif x5 then some false else kI u u p0 0
def lZ(u:Nat)(p0:af):Option Bool:=
 (jx u p0).bind λr1=>bif r1 then some true else (bq u p0.aM 1 1000000).bind λr2=>bif !r2 then tr u true p0 else (mF u p0.ar p0.aU).bind λr3=>bif !r3 then tr u true p0 else (mG u p0.ar p0.aU).bind λr4=>tr u ((p0.aG.length:Int) != r4) p0
def CO(u:Nat)(p0:af)(s:Unit):Option Bool:=Bd u
def yn(u:Nat)(p0:af)(y9:cS)(i_:Nat)(s:Unit)(k_:Unit->Option Bool):Option Bool:=(n9 u y9.fS).bind λr10=>(io u p0.ar p0.aU (i_:Int)).bind λr11=>bif !r10.2 then mH u (λz0 z1=>k_ ()) p0 (i_:Int) true else bif (r10.1.length:Int) != r11.2 then mH u (λz0 z1=>k_ ()) p0 (i_:Int) true else (pQ u r10.1).bind λr12=>mH u (λz0 z1=>k_ ()) p0 (i_:Int) (r12 != y9.fW)
theorem KZ(u:Nat)(p0:af)(s:Unit)(k:Nat)(hn:p0.aG.length<=9223372036854775807)(hk:p0.aG.length < k):kI u k p0 0=Pu.cE (CO u p0) (yn u p0) p0.aG 0 s:=Pu.dE (λ(k:Nat) (s:Unit) (i:Int)=>kI u k p0 i) hn (λ_ _ _=>rfl) s hk
def iF(u:Nat)  : Option Bool:=
 some true
def dx(u da:Nat)(p0 p1:List cS)(x2:Int):Option Bool:=match da with
  | 0=>none
  | da+1=>bif decide (x2 < (p0.length:Int)) then (eS p0 x2).bind λy4=>(eS p1 x2).bind λy5=>bif !([y4.fW,y4.fS] == [y5.fW,y5.fS]) then some false else dx u da p0 p1 (aV .i64 x2 1) else iF u
def dW(u:Nat)(p0 p1:List cS):Option Bool:=
 bif (p0.length:Int) != (p1.length:Int) then some false else dx u u p0 p1 0
def rZ(u:Nat)(p0 p1:List cS)(s:Unit):Option Bool:=iF u
def lB(u:Nat)(p0 p1:List cS)(y4:cS)(i_:Nat)(s:Unit)(k_:Unit->Option Bool):Option Bool:=(eS p1 (i_:Int)).bind λy5=>bif !([y4.fW,y4.fS] == [y5.fW,y5.fS]) then some false else k_ ()
theorem se(u:Nat)(p0 p1:List cS)(s:Unit)(k:Nat)(hn:p0.length<=9223372036854775807)(hk:p0.length < k):dx u k p0 p1 0=Pu.cE (rZ u p0 p1) (lB u p0 p1) p0 0 s:=Pu.dE (λ(k:Nat) (s:Unit) (i:Int)=>dx u k p0 p1 i) hn (λ_ _ _=>rfl) s hk
def wM(u:Nat)(p0:af)(p1:List Int):Option Bool:=
 bif (p1.length:Int) == p0.aU then (uP u p1 p0.ar).bind λr1=>(dW u r1 p0.aG).bind λr2=>some r2 else some false
def eK(u:Nat)(p0:List cS):Option (List cS):=
 (fX (decide ((([]:List cS).length+p0.length)*16<=140737488355328))).bind λ_=>some (([]:List cS)++p0)
def mz(u:Nat)(p0:af):Option af:=
 (eK u p0.aG).bind λr1=>some (af.mk p0.aM p0.ar p0.aU r1)
def tu(u:Nat)(p0:af):Option aY:=
 (lZ u p0).bind λr1=>bif !r1 then some (aY.mk 0 []) else (fX (decide (0<=p0.aU) && (p0.aU == 0 || p0.aU == p0.aU))).bind λ_=>(fX (decide (sY p0.aU*1<=140737488355328))).bind λ_=>some (aY.mk 0 (zQZ (sY p0.aU) (0:Int)))
def yo(u:Nat)  : Option Int:=
 some (-1)
def l0(u lO:Nat)(p0:List Int)(p2 x3:Int)(p1:cS):Option Int:=match lO with
  | 0=>none
  | lO+1=>bif decide ((aV .i64 x3 p2)<=(p0.length:Int)) then (fX (er x3 (aV .i64 x3 p2) p0.length)).bind λ_=>(lY u ((p0.take (sY (aV .i64 x3 p2))).drop (sY x3))).bind λr6=>bif [r6.fW,r6.fS] == [p1.fW,p1.fS] then some x3 else l0 u lO p0 p2 (aV .i64 x3 1) p1 else yo u
def vz(u:Nat)(p0:List Int)(p1:cS)(p2:Int):Option Int:=
 (bq u p2 1 6).bind λr1=>bif !r1 then some (-1) else l0 u u p0 p2 0 p1
def oa(u:Nat)(p0:List Int)(p1:af)(p2:Int):Option Int:=
 (io u p1.ar p1.aU p2).bind λr1=>(bq u p2 0 (gX .i64 (p1.aG.length:Int) 1)).bind λr2=>bif !r2 then some (-1) else (eS p1.aG p2).bind λy3=>(vz u p0 y3 r1.2).bind λr4=>some r4
def oc(u:Nat)(p0:aY)(p1:af)(p2:Int):Option (Int×Int):=
 (io u p1.ar p1.aU p2).bind λr1=>(fX (er r1.1 (aV .i64 r1.1 r1.2) p0.cu.length)).bind λ_=>some (r1.1,aV .i64 r1.1 r1.2)
def l5(u:Nat)(p0:aY)(p1:af)(p2:Int)(p3:List Int):Option aY:=
 (oc u p0 p1 p2).bind λr1=>(fX (T3 r1.1 r1.2 p0.cu.length p3.length)).bind λ_=>(fX (decide (0<=p2))).bind λ_=>some (aY.mk (u9 .i64 p0.bj (jt .i64 1 p2)) (yX p0.cu p3 (sY r1.1)))
def vA(u:Nat)(x18:Int)(x19:List Int):Option aY:=
 some (aY.mk x18 x19)
def lC(u:Nat)(Fo:List Int->af->Int->Int->List Int->Option aY)(p1:List Int)(p0:af)(x6 x16:Int)(x17:List Int):Option aY:=
 Fo p1 p0 (aV .i64 x6 1) x16 x17
def ip(u gu:Nat)(p1:List Int)(p0:af)(x6 x7:Int)(x8:List Int):Option aY:=match gu with
  | 0=>none
  | gu+1=>bif decide (x6 < (p0.aG.length:Int)) then (io u p0.ar p0.aU x6).bind λr12=>(oa u p1 p0 x6).bind λr13=>bif decide (r13>=0) then (fX (er r13 (aV .i64 r13 r12.2) p1.length)).bind λ_=>(l5 u (aY.mk x7 x8) p0 x6 ((p1.take (sY (aV .i64 r13 r12.2))).drop (sY r13))).bind λr15=>lC u (ip u gu) p1 p0 x6 r15.bj r15.cu else lC u (ip u gu) p1 p0 x6 x7 x8 else vA u x7 x8
def pb(u:Nat)(p0:af)(p1:List Int):Option aY:=
 (tu u p0).bind λr1=>(lZ u p0).bind λr2=>bif !r2 then some r1 else ip u u p1 p0 0 r1.bj r1.cu
def yN(u:Nat)(p1:List Int)(p0:af)(s:Int×(List Int)):Option aY:=vA u s.1 s.2
def sZ(u:Nat)(p1:List Int)(p0:af)(i_:Nat)(s:Int×(List Int))(k_:(Int×(List Int))->Option aY):Option aY:=(io u p0.ar p0.aU (i_:Int)).bind λr12=>(oa u p1 p0 (i_:Int)).bind λr13=>bif decide (r13>=0) then (fX (er r13 (aV .i64 r13 r12.2) p1.length)).bind λ_=>(l5 u (aY.mk s.1 s.2) p0 (i_:Int) ((p1.take (sY (aV .i64 r13 r12.2))).drop (sY r13))).bind λr15=>lC u (λz0 z1 z2 z3 z4=>k_ (z3,z4)) p1 p0 (i_:Int) r15.bj r15.cu else lC u (λz0 z1 z2 z3 z4=>k_ (z3,z4)) p1 p0 (i_:Int) s.1 s.2
theorem E6(u:Nat)(p1:List Int)(p0:af)(s:Int×(List Int))(k:Nat)(hn:((p0.aG.length:Int):Int)<=9223372036854775807)(hk:sY (p0.aG.length:Int) < k):ip u k p1 p0 0 s.1 s.2=Pu.oU (yN u p1 p0) (sZ u p1 p0) (sY (p0.aG.length:Int)) 0 s:=Pu.pA (λ(k:Nat) (s:Int×(List Int)) (i:Int)=>ip u k p1 p0 i s.1 s.2) hn (λ_ _ _=>rfl) s hk
def pc(u:Nat)(p1:List Int)(x3:Bool)(p0:af):Option aD:=
 bif x3 then some (aD.mk false 0 0 (af.mk 0 0 0 []) (aY.mk 0 []) 0 [] 0) else (mz u p0).bind λr4=>(pb u p0 p1).bind λr5=>some (aD.mk true (-1) 0 r4 r5 6 [] 0)
def qM(u:Nat)(p0:af)(p1:List Int):Option aD:=
 bif p0.aM == 0 then pc u p1 true p0 else (lZ u p0).bind λr1=>bif !r1 then pc u p1 true p0 else (wM u p0 p1).bind λr2=>pc u p1 (!r2) p0
def pX(u:Nat)(p0:Int):Option Bool:=
 (bq u p0 0 1000000).bind λr1=>some r1
def qq(u:Nat)(p0:Int)(p1:List Int)(x2:Bool):Option aA:=
 bif x2 then some (aA.mk [] [] (gy.mk 0 0 0) []) else (dR u p1).bind λr3=>some (aA.mk r3 [] (gy.mk p0 0 (p1.length:Int)) [])
def sf(u:Nat)(p0:Int)(p1:List Int):Option aA:=
 (pX u p0).bind λr1=>bif !r1 then qq u p0 p1 true else qq u p0 p1 (decide ((p1.length:Int) > 240))
def jy(u:Nat)(p0:List Int):Option (List Int):=
 (fX (decide ((([]:List Int).length+p0.length)*8<=140737488355328))).bind λ_=>some (([]:List Int)++p0)
def ff(u:Nat)(p0:aq):Option aq:=
 (dR u p0.fB).bind λr1=>some (aq.mk p0.gS p0.Ca r1)
def s0(u:Nat)(x9:List aq):Option (List aq):=
 some x9
def jM(u iD:Nat)(x3 p0:List aq)(x4:Int):Option (List aq):=match iD with
  | 0=>none
  | iD+1=>bif decide (x4 < (p0.length:Int)) then (eS p0 x4).bind λy7=>(ff u y7).bind λr8=>(fX (decide ((x3.length+[r8].length)*40<=140737488355328))).bind λ_=>jM u iD (x3++[r8]) p0 (aV .i64 x4 1) else s0 u x3
def pe(u:Nat)(p0:List aq):Option (List aq):=
 jM u u ([]:List aq) p0 0
def Db(u:Nat)(p0:List aq)(s:List aq):Option (List aq):=s0 u s
def wD(u:Nat)(p0:List aq)(y7:aq)(i_:Nat)(s:List aq)(k_:List aq->Option (List aq)):Option (List aq):=(ff u y7).bind λr8=>(fX (decide ((s.length+[r8].length)*40<=140737488355328))).bind λ_=>k_ (s++[r8])
theorem Dc(u:Nat)(p0:List aq)(s:List aq)(k:Nat)(hn:p0.length<=9223372036854775807)(hk:p0.length < k):jM u k s p0 0=Pu.cE (Db u p0) (wD u p0) p0 0 s:=Pu.dE (λ(k:Nat) (s:List aq) (i:Int)=>jM u k s p0 i) hn (λ_ _ _=>rfl) s hk
def ew(u:Nat)(p0:List di):Option (List di):=
 (fX (decide ((([]:List di).length+p0.length)*24<=140737488355328))).bind λ_=>some (([]:List di)++p0)
def kY(u:Nat)(p0:aY):Option aY:=
 (dR u p0.cu).bind λr1=>some (aY.mk p0.bj r1)
def cM(u:Nat)(p0:List Kid):Option (List Kid):=
 (fX (decide ((([]:List Kid).length+p0.length)*40<=140737488355328))).bind λ_=>some (([]:List Kid)++p0)
def eB(u:Nat)(p0:aD):Option aD:=
 (mz u p0.aB).bind λr1=>(kY u p0.bw).bind λr2=>(cM u p0.aX).bind λr3=>some (aD.mk p0.lu p0.bY p0.bM r1 r2 p0.aR r3 p0.bE)
def kJ(u:Nat)(p0:ej):Option ej:=
 (dR u p0.fB).bind λr1=>some (ej.mk p0.j3 p0.KU r1 p0.fR)
def sg(u:Nat)(r1 r2:List Int)(p0:aA)(x11:List ej):Option aA:=
 some (aA.mk r1 r2 p0.fR x11)
def iZ(u fY:Nat)(p0:aA)(x5:Int)(r1 r2:List Int)(x6:List ej):Option aA:=match fY with
  | 0=>none
  | fY+1=>bif decide (x5 < (p0.fP.length:Int)) then (eS p0.fP x5).bind λy9=>(kJ u y9).bind λr10=>(fX (decide ((x6.length+[r10].length)*64<=140737488355328))).bind λ_=>iZ u fY p0 (aV .i64 x5 1) r1 r2 (x6++[r10]) else sg u r1 r2 p0 x6
def dM(u:Nat)(p0:aA):Option aA:=
 (dR u p0.fA).bind λr1=>(dR u p0.fB).bind λr2=>iZ u u p0 0 r1 r2 []
def FY(u:Nat)(p0:aA)(r1 r2:List Int)(s:List ej):Option aA:=sg u r1 r2 p0 s
def zI(u:Nat)(p0:aA)(r1 r2:List Int)(y9:ej)(i_:Nat)(s:List ej)(k_:List ej->Option aA):Option aA:=(kJ u y9).bind λr10=>(fX (decide ((s.length+[r10].length)*64<=140737488355328))).bind λ_=>k_ (s++[r10])
theorem FZ(u:Nat)(p0:aA)(r1 r2:List Int)(s:List ej)(k:Nat)(hn:p0.fP.length<=9223372036854775807)(hk:p0.fP.length < k):iZ u k p0 0 r1 r2 s=Pu.cE (FY u p0 r1 r2) (zI u p0 r1 r2) p0.fP 0 s:=Pu.dE (λ(k:Nat) (s:List ej) (i:Int)=>iZ u k p0 i r1 r2 s) hn (λ_ _ _=>rfl) s hk
def vB(u:Nat)(p0:World)(r1:List Int)(r2:List Int)(x13:List aL)(x22:List aD)(x31:List aA)(r3:List aq)(r4:List di):Option World:=
 some (World.mk p0.fC (bl.mk r1) r2 x13 x22 x31 r3 r4 p0.cQ)
def lD(u jR:Nat)(p0:World)(x25:Int)(r1:List Int)(r2:List Int)(x13:List aL)(x22:List aD)(x26:List aA)(r3:List aq)(r4:List di):Option World:=match jR with
  | 0=>none
  | jR+1=>bif decide (x25 < (p0.fD.length:Int)) then (eS p0.fD x25).bind λy29=>(dM u y29).bind λr30=>(fX (decide ((x26.length+[r30].length)*96<=140737488355328))).bind λ_=>lD u jR p0 (aV .i64 x25 1) r1 r2 x13 x22 (x26++[r30]) r3 r4 else vB u p0 r1 r2 x13 x22 x26 r3 r4
def qW(u:Nat)(p0:World)(r1:List Int)(r2:List Int)(x13:List aL)(x22:List aD)(r3:List aq)(r4:List di):Option World:=
 lD u u p0 0 r1 r2 x13 x22 [] r3 r4
def lE(u jS:Nat)(p0:World)(x16:Int)(r1:List Int)(r2:List Int)(x13:List aL)(x17:List aD)(r3:List aq)(r4:List di):Option World:=match jS with
  | 0=>none
  | jS+1=>bif decide (x16 < (p0.fN.length:Int)) then (eS p0.fN x16).bind λy20=>(eB u y20).bind λr21=>(fX (decide ((x17.length+[r21].length)*144<=140737488355328))).bind λ_=>lE u jS p0 (aV .i64 x16 1) r1 r2 x13 (x17++[r21]) r3 r4 else qW u p0 r1 r2 x13 x17 r3 r4
def qX(u:Nat)(p0:World)(r1:List Int)(r2:List Int)(x13:List aL)(r3:List aq)(r4:List di):Option World:=
 lE u u p0 0 r1 r2 x13 [] r3 r4
def lF(u jT:Nat)(p0:World)(x7:Int)(r1:List Int)(r2:List Int)(x8:List aL)(r3:List aq)(r4:List di):Option World:=match jT with
  | 0=>none
  | jT+1=>bif decide (x7 < (p0.ct.length:Int)) then (eS p0.ct x7).bind λy11=>(dR u y11.fB).bind λr12=>(fX (decide ((x8.length+([(aL.mk r12)]).length)*24<=140737488355328))).bind λ_=>lF u jT p0 (aV .i64 x7 1) r1 r2 (x8++([(aL.mk r12)])) r3 r4 else qX u p0 r1 r2 x8 r3 r4
def pf(u:Nat)(p0:World):Option World:=
 (jy u p0.fT.bC).bind λr1=>(dR u p0.cG).bind λr2=>(pe u p0.cr).bind λr3=>(ew u p0.fO).bind λr4=>lF u u p0 0 r1 r2 [] r3 r4
def E7(u:Nat)(p0:World)(r1:List Int)(r2:List Int)(x13:List aL)(x22:List aD)(r3:List aq)(r4:List di)(s:List aA):Option World:=vB u p0 r1 r2 x13 x22 s r3 r4
def yO(u:Nat)(p0:World)(r1:List Int)(r2:List Int)(x13:List aL)(x22:List aD)(r3:List aq)(r4:List di)(y29:aA)(i_:Nat)(s:List aA)(k_:List aA->Option World):Option World:=(dM u y29).bind λr30=>(fX (decide ((s.length+[r30].length)*96<=140737488355328))).bind λ_=>k_ (s++[r30])
theorem E8(u:Nat)(p0:World)(r1:List Int)(r2:List Int)(x13:List aL)(x22:List aD)(r3:List aq)(r4:List di)(s:List aA)(k:Nat)(hn:p0.fD.length<=9223372036854775807)(hk:p0.fD.length < k):lD u k p0 0 r1 r2 x13 x22 s r3 r4=Pu.cE (E7 u p0 r1 r2 x13 x22 r3 r4) (yO u p0 r1 r2 x13 x22 r3 r4) p0.fD 0 s:=Pu.dE (λ(k:Nat) (s:List aA) (i:Int)=>lD u k p0 i r1 r2 x13 x22 s r3 r4) hn (λ_ _ _=>rfl) s hk
def yP(u:Nat)(p0:World)(r1:List Int)(r2:List Int)(x13:List aL)(r3:List aq)(r4:List di)(s:List aD):Option World:=qW u p0 r1 r2 x13 s r3 r4
def yQ(u:Nat)(p0:World)(r1:List Int)(r2:List Int)(x13:List aL)(r3:List aq)(r4:List di)(y20:aD)(i_:Nat)(s:List aD)(k_:List aD->Option World):Option World:=(eB u y20).bind λr21=>(fX (decide ((s.length+[r21].length)*144<=140737488355328))).bind λ_=>k_ (s++[r21])
theorem E9(u:Nat)(p0:World)(r1:List Int)(r2:List Int)(x13:List aL)(r3:List aq)(r4:List di)(s:List aD)(k:Nat)(hn:p0.fN.length<=9223372036854775807)(hk:p0.fN.length < k):lE u k p0 0 r1 r2 x13 s r3 r4=Pu.cE (yP u p0 r1 r2 x13 r3 r4) (yQ u p0 r1 r2 x13 r3 r4) p0.fN 0 s:=Pu.dE (λ(k:Nat) (s:List aD) (i:Int)=>lE u k p0 i r1 r2 x13 s r3 r4) hn (λ_ _ _=>rfl) s hk
def yR(u:Nat)(p0:World)(r1:List Int)(r2:List Int)(r3:List aq)(r4:List di)(s:List aL):Option World:=qX u p0 r1 r2 s r3 r4
def yS(u:Nat)(p0:World)(r1:List Int)(r2:List Int)(r3:List aq)(r4:List di)(y11:aL)(i_:Nat)(s:List aL)(k_:List aL->Option World):Option World:=(dR u y11.fB).bind λr12=>(fX (decide ((s.length+([(aL.mk r12)]).length)*24<=140737488355328))).bind λ_=>k_ (s++([(aL.mk r12)]))
theorem Fa(u:Nat)(p0:World)(r1:List Int)(r2:List Int)(r3:List aq)(r4:List di)(s:List aL)(k:Nat)(hn:p0.ct.length<=9223372036854775807)(hk:p0.ct.length < k):lF u k p0 0 r1 r2 s r3 r4=Pu.cE (yR u p0 r1 r2 r3 r4) (yS u p0 r1 r2 r3 r4) p0.ct 0 s:=Pu.dE (λ(k:Nat) (s:List aL) (i:Int)=>lF u k p0 i r1 r2 s r3 r4) hn (λ_ _ _=>rfl) s hk
def sj(u:Nat)(p0:dV)(p1:bl)(p2:List Int)(p3:List aL)(x33:List aD)(x34:List aA):Option World:=
 (pf u (World.mk p0 p1 p2 p3 x33 x34 [] [] 0)).bind λr35=>some r35
def kj(u:Nat)(GZ:List Int->List aL->bl->Int->dV->List aD->List aA->Option World)(p2:List Int)(p3:List aL)(x9:Int)(p1:bl)(p0:dV)(x10:List aD)(x11:List aA)(x18:Bool)(x19 x20:Int)(x21 x22 x23:Int)(x24:List cS)(x25:Int)(x26:List Int)(x27:Int)(x28:List Kid)(x29:Int):Option World:=
 (fX (decide ((x10.length+([(aD.mk x18 x19 x20 (af.mk x21 x22 x23 x24) (aY.mk x25 x26) x27 x28 x29)]).length)*144<=140737488355328))).bind λ_=>(eS p3 x9).bind λy31=>(sf u 0 y31.fB).bind λr32=>(fX (decide ((x11.length+[r32].length)*96<=140737488355328))).bind λ_=>GZ p2 p3 p1 (aV .i64 x9 1) p0 (x10++([(aD.mk x18 x19 x20 (af.mk x21 x22 x23 x24) (aY.mk x25 x26) x27 x28 x29)])) (x11++[r32])
def eG(u gQ:Nat)(p2:List Int)(p3:List aL)(p1:bl)(x9:Int)(p0:dV)(x10:List aD)(x11:List aA):Option World:=match gQ with
  | 0=>none
  | gQ+1=>bif decide (x9 < (p1.bC.length:Int)) then (oJ u p1 x9).bind λr15=>bif x9 == 0 then (uB u 1 p2 p0.ar).bind λr16=>(qM u r16 p2).bind λr17=>kj u (eG u gQ) p2 p3 x9 p1 p0 x10 x11 r17.lu r17.bY r17.bM r17.aB.aM r17.aB.ar r17.aB.aU r17.aB.aG r17.bw.bj r17.bw.cu r17.aR r17.aX r17.bE else kj u (eG u gQ) p2 p3 x9 p1 p0 x10 x11 r15.lu r15.bY r15.bM r15.aB.aM r15.aB.ar r15.aB.aU r15.aB.aG r15.bw.bj r15.bw.cu r15.aR r15.aX r15.bE else sj u p0 p1 p2 p3 x10 x11
def mR(u:Nat)(p2:List Int)(p3:List aL)(x5:Bool)(p0:dV)(p1:bl):Option World:=
 bif x5 then some (World.mk (dV.mk 0 0 0 0) (bl.mk []) [] [] [] [] [] [] 0) else eG u u p2 p3 p1 0 p0 [] []
def tv(u:Nat)(p0:dV)(p1:bl)(p2:List Int)(p3:List aL):Option World:=
 (uO u p0).bind λr1=>bif !r1 then mR u p2 p3 true p0 p1 else (n7 u p1).bind λr2=>bif !r2 then mR u p2 p3 true p0 p1 else (mF u p0.ar (p2.length:Int)).bind λr3=>bif !r3 then mR u p2 p3 true p0 p1 else (o6 u p1 p3).bind λr4=>mR u p2 p3 (!r4) p0 p1
def F1(u:Nat)(p2:List Int)(p3:List aL)(p1:bl)(p0:dV)(s:(List aD)×(List aA)):Option World:=sj u p0 p1 p2 p3 s.1 s.2
def F2(u:Nat)(p2:List Int)(p3:List aL)(p1:bl)(p0:dV)(i_:Nat)(s:(List aD)×(List aA))(k_:((List aD)×(List aA))->Option World):Option World:=(oJ u p1 (i_:Int)).bind λr15=>bif (i_:Int) == 0 then (uB u 1 p2 p0.ar).bind λr16=>(qM u r16 p2).bind λr17=>kj u (λz0 z1 z2 z3 z4 z5 z6=>k_ (z5,z6)) p2 p3 (i_:Int) p1 p0 s.1 s.2 r17.lu r17.bY r17.bM r17.aB.aM r17.aB.ar r17.aB.aU r17.aB.aG r17.bw.bj r17.bw.cu r17.aR r17.aX r17.bE else kj u (λz0 z1 z2 z3 z4 z5 z6=>k_ (z5,z6)) p2 p3 (i_:Int) p1 p0 s.1 s.2 r15.lu r15.bY r15.bM r15.aB.aM r15.aB.ar r15.aB.aU r15.aB.aG r15.bw.bj r15.bw.cu r15.aR r15.aX r15.bE
theorem Tt(u:Nat)(p2:List Int)(p3:List aL)(p1:bl)(p0:dV)(s:(List aD)×(List aA))(k:Nat)(hn:((p1.bC.length:Int):Int)<=9223372036854775807)(hk:sY (p1.bC.length:Int) < k):eG u k p2 p3 p1 0 p0 s.1 s.2=Pu.oU (F1 u p2 p3 p1 p0) (F2 u p2 p3 p1 p0) (sY (p1.bC.length:Int)) 0 s:=Pu.pA (λ(k:Nat) (s:(List aD)×(List aA)) (i:Int)=>eG u k p2 p3 p1 i p0 s.1 s.2) hn (λ_ _ _=>rfl) s hk
def ro(u:Nat)(p0:World):Option Int:=
 (mG u p0.fC.ar (p0.cG.length:Int)).bind λr1=>(rY u r1 p0.fC.ba).bind λr2=>some (aV .i64 (js .i64 (p0.fN.length:Int) (aV .i64 (aV .i64 p0.fC.aW 4) r2)) 8)
def wN(u:Nat)(p0:World):Option af:=
 (uB u 1 p0.cG p0.fC.ar).bind λr1=>some r1
def mS(u:Nat)(p0:aY):Option Bool:=
 bif p0.bj == 0 then some ((p0.cu.length:Int) == 0) else some false
def ub(u:Nat)(p0:aD):Option Bool:=
 bif !p0.lu then bif p0.bY == 0 then bif p0.bM == 0 then (jx u p0.aB).bind λr1=>bif r1 then (mS u p0.bw).bind λr2=>bif r2 then bif p0.aR == 0 then bif (p0.aX.length:Int) == 0 then some (p0.bE == 0) else some false else some false else some false else some false else some false else some false else some false
def vC(u:Nat)(x11:List Int):Option (List Int):=
 some x11
def rq(u:Nat)(Kf:Int->List Int->bl->Option (List Int))(x3:Int)(x4:List Int)(x8:Bool)(p0:bl):Option (List Int):=
 bif x8 then (fX (decide ((x4.length+([x3]:List Int).length)*8<=140737488355328))).bind λ_=>(eS p0.bC x3).bind λy10=>Kf y10 (x4++([x3]:List Int)) p0 else vC u x4
def jz(u jf:Nat)(x3:Int)(x4:List Int)(p0:bl):Option (List Int):=match jf with
  | 0=>none
  | jf+1=>(db u p0 x3).bind λr7=>bif r7 then rq u (jz u jf) x3 x4 (decide ((x4.length:Int) < (p0.bC.length:Int))) p0 else rq u (jz u jf) x3 x4 false p0
def xD(u:Nat)(p0:bl)(p1:Int):Option (List Int):=
 jz u u p1 ([]:List Int) p0
def nG(u:Nat)  : Option Int:=
 some (-1)
def fQ(u eY:Nat)(p0:List Int)(p1 x2:Int):Option Int:=match eY with
  | 0=>none
  | eY+1=>bif decide (x2 < (p0.length:Int)) then (eS p0 x2).bind λy4=>bif p1 == y4 then some x2 else fQ u eY p0 p1 (aV .i64 x2 1) else nG u
def mA(u:Nat)(p0:List Int)(p1:Int):Option Int:=
 fQ u u p0 p1 0
def za(u:Nat)(p0:List Int)(p1:Int)(s:Unit):Option Int:=nG u
def qY(u:Nat)(p0:List Int)(p1 y4:Int)(i_:Nat)(s:Unit)(k_:Unit->Option Int):Option Int:=bif p1 == y4 then some (i_:Int) else k_ ()
theorem zb(u:Nat)(p0:List Int)(p1:Int)(s:Unit)(k:Nat)(hn:p0.length<=9223372036854775807)(hk:p0.length < k):fQ u k p0 p1 0=Pu.cE (za u p0 p1) (qY u p0 p1) p0 0 s:=Pu.dE (λ(k:Nat) (s:Unit) (i:Int)=>fQ u k p0 p1 i) hn (λ_ _ _=>rfl) s hk
def fU(u:Nat)(p0:List Int)(p1:Int):Option Bool:=
 (mA u p0 p1).bind λr1=>some (decide (r1>=0))
def oK(u:Nat)(p0:bl)(p1 p2:Int):Option Bool:=
 bif p1 != p2 then (xD u p0 p2).bind λr1=>(fU u r1 p1).bind λr2=>some r2 else some false
def dS(u:Nat)(p0:Int):Option Bool:=
 (bq u p0 0 1099511627775).bind λr1=>some r1
def sm(u:Nat)(p0:Int):Option Int:=
 (bq u p0 0 40).bind λr1=>bif !r1 then some 0 else (fX (decide (0<=p0))).bind λ_=>some (gX .i64 (jt .i64 1 p0) 1)
def qN(u:Nat)(p0:af):Option Int:=
 (sm u (p0.aG.length:Int)).bind λr1=>some r1
def jA(u:Nat)(p0:aY)(p1:af)(p2:Int):Option (List Int):=
 (io u p1.ar p1.aU p2).bind λr1=>(fX (er r1.1 (aV .i64 r1.1 r1.2) p0.cu.length)).bind λ_=>some ((p0.cu.take (sY (aV .i64 r1.1 r1.2))).drop (sY r1.1))
def od(u:Nat)(p0:Int):Option Bool:=
 (bq u p0 0 39).bind λr1=>some r1
def gz(u:Nat)(p0 p1:Int):Option Bool:=
 (dS u p0).bind λr1=>bif r1 then (od u p1).bind λr2=>bif r2 then (fX (decide (0<=p1))).bind λ_=>some (gl .i64 (ju .i64 p0 p1) 1 == 1) else some false else some false
def vD(u:Nat)(p0:Int):Option Bool:=
 some (p0 != 0)
def eL(u:Nat)  : Option Int:=
 some (-1)
def ce(u b6:Nat)(p0:List Int)(x2:Int):Option Int:=match b6 with
  | 0=>none
  | b6+1=>bif decide (x2 < (p0.length:Int)) then (eS p0 x2).bind λy4=>(vD u y4).bind λr5=>bif r5 then some x2 else ce u b6 p0 (aV .i64 x2 1) else eL u
def dX(u:Nat)(p0:List Int):Option Int:=
 ce u u p0 0
def nC(u:Nat)(p0:List Int)(s:Unit):Option Int:=eL u
def nD(u:Nat)(p0:List Int)(y4:Int)(i_:Nat)(s:Unit)(k_:Unit->Option Int):Option Int:=(vD u y4).bind λr5=>bif r5 then some (i_:Int) else k_ ()
theorem nE(u:Nat)(p0:List Int)(s:Unit)(k:Nat)(hn:p0.length<=9223372036854775807)(hk:p0.length < k):ce u k p0 0=Pu.cE (nC u p0) (nD u p0) p0 0 s:=Pu.dE (λ(k:Nat) (s:Unit) (i:Int)=>ce u k p0 i) hn (λ_ _ _=>rfl) s hk
def bx(u:Nat)(p0:List Int):Option Bool:=
 (dX u p0).bind λr1=>some (decide (r1>=0))
def yp(u:Nat)  : Option Bool:=
 some true
def fh(u:Nat)(IB:af->Int->aY->Option Bool)(p0:af)(x6:Int)(x16:Bool)(p1:aY):Option Bool:=
 bif x16 then some false else IB p0 (aV .i64 x6 1) p1
def gc(u eQ:Nat)(p0:af)(x6:Int)(p1:aY):Option Bool:=match eQ with
  | 0=>none
  | eQ+1=>bif decide (x6 < (p0.aG.length:Int)) then (eS p0.aG x6).bind λy8=>(jA u p1 p0 x6).bind λr9=>(gz u p1.bj x6).bind λr10=>bif r10 then (lY u r9).bind λr11=>bif !([r11.fW,r11.fS] == [y8.fW,y8.fS]) then fh u (gc u eQ) p0 x6 true p1 else (gz u p1.bj x6).bind λr12=>bif !r12 then (bx u r9).bind λr13=>fh u (gc u eQ) p0 x6 r13 p1 else fh u (gc u eQ) p0 x6 false p1 else (gz u p1.bj x6).bind λr14=>bif !r14 then (bx u r9).bind λr15=>fh u (gc u eQ) p0 x6 r15 p1 else fh u (gc u eQ) p0 x6 false p1 else yp u
def nQ(u:Nat)(x4:Bool)(p0:af)(p1:aY):Option Bool:=
 bif x4 then some false else gc u u p0 0 p1
def oe(u:Nat)(p0:af)(p1:aY):Option Bool:=
 (lZ u p0).bind λr1=>bif !r1 then nQ u true p0 p1 else (dS u p1.bj).bind λr2=>bif !r2 then nQ u true p0 p1 else (qN u p0).bind λr3=>bif (wd .i64 p1.bj r3) != 0 then nQ u true p0 p1 else nQ u ((p1.cu.length:Int) != p0.aU) p0 p1
def Hc(u:Nat)(p0:af)(p1:aY)(s:Unit):Option Bool:=yp u
def AC(u:Nat)(p0:af)(p1:aY)(y8:cS)(i_:Nat)(s:Unit)(k_:Unit->Option Bool):Option Bool:=(jA u p1 p0 (i_:Int)).bind λr9=>(gz u p1.bj (i_:Int)).bind λr10=>bif r10 then (lY u r9).bind λr11=>bif !([r11.fW,r11.fS] == [y8.fW,y8.fS]) then fh u (λz0 z1 z2=>k_ ()) p0 (i_:Int) true p1 else (gz u p1.bj (i_:Int)).bind λr12=>bif !r12 then (bx u r9).bind λr13=>fh u (λz0 z1 z2=>k_ ()) p0 (i_:Int) r13 p1 else fh u (λz0 z1 z2=>k_ ()) p0 (i_:Int) false p1 else (gz u p1.bj (i_:Int)).bind λr14=>bif !r14 then (bx u r9).bind λr15=>fh u (λz0 z1 z2=>k_ ()) p0 (i_:Int) r15 p1 else fh u (λz0 z1 z2=>k_ ()) p0 (i_:Int) false p1
theorem He(u:Nat)(p0:af)(p1:aY)(s:Unit)(k:Nat)(hn:p0.aG.length<=9223372036854775807)(hk:p0.aG.length < k):gc u k p0 0 p1=Pu.cE (Hc u p0 p1) (AC u p0 p1) p0.aG 0 s:=Pu.dE (λ(k:Nat) (s:Unit) (i:Int)=>gc u k p0 i p1) hn (λ_ _ _=>rfl) s hk
def uc(u:Nat)(p0 p1:Int)(x3:Bool):Option Int:=
 bif x3 then some 0 else some (wd .i64 p0 p1)
def vE(u:Nat)(p0 p1:Int):Option Int:=
 (dS u p0).bind λr1=>bif !r1 then uc u p0 p1 true else (dS u p1).bind λr2=>uc u p0 p1 (!r2)
def pY(u:Nat)(p0:af)(p1:aY):Option Int:=
 (qN u p0).bind λr1=>(vE u r1 p1.bj).bind λr2=>some r2
def nx(u:Nat)(x4:Bool)(p0:aD):Option Bool:=
 bif x4 then some false else bif p0.aR == 1 then some true else (pY u p0.aB p0.bw).bind λr5=>some (r5 == 0)
def na(u:Nat)(p0:aD):Option Bool:=
 bif p0.aR == 0 then (jx u p0.aB).bind λr1=>bif r1 then (mS u p0.bw).bind λr2=>some r2 else some false else bif p0.aB.aM == 0 then nx u true p0 else (oe u p0.aB p0.bw).bind λr3=>nx u (!r3) p0
def wO(u:Nat)(p0:Int):Option Bool:=
 (bq u p0 0 6).bind λr1=>some r1
def zJ(u:Nat)  : Option Bool:=
 some true
def d8(u:Nat)(Ke:List Kid->Int->Option Bool)(p0:List Kid)(x2:Int)(x10:Bool):Option Bool:=
 bif x10 then some false else Ke p0 (aV .i64 x2 1)
def fm(u eo:Nat)(p0:List Kid)(x2:Int):Option Bool:=match eo with
  | 0=>none
  | eo+1=>bif decide (x2 < (p0.length:Int)) then (eS p0 x2).bind λy4=>(wO u y4.j7).bind λr5=>bif !r5 then d8 u (fm u eo) p0 x2 true else (dS u y4.bZ).bind λr6=>bif !r6 then d8 u (fm u eo) p0 x2 true else (dS u y4.bR).bind λr7=>bif !r7 then d8 u (fm u eo) p0 x2 true else bif decide (y4.sR < 0) then d8 u (fm u eo) p0 x2 true else (dS u y4.kF).bind λr8=>bif !r8 then d8 u (fm u eo) p0 x2 true else bif decide (x2 > 0) then (eS p0 (gX .i64 x2 1)).bind λy9=>d8 u (fm u eo) p0 x2 (decide (y4.j7<=y9.j7)) else d8 u (fm u eo) p0 x2 false else zJ u
def xE(u:Nat)(p0:List Kid):Option Bool:=
 fm u u p0 0
def IR(u:Nat)(p0:List Kid)(s:Unit):Option Bool:=zJ u
def BB(u:Nat)(p0:List Kid)(y4:Kid)(i_:Nat)(s:Unit)(k_:Unit->Option Bool):Option Bool:=(wO u y4.j7).bind λr5=>bif !r5 then d8 u (λz0 z1=>k_ ()) p0 (i_:Int) true else (dS u y4.bZ).bind λr6=>bif !r6 then d8 u (λz0 z1=>k_ ()) p0 (i_:Int) true else (dS u y4.bR).bind λr7=>bif !r7 then d8 u (λz0 z1=>k_ ()) p0 (i_:Int) true else bif decide (y4.sR < 0) then d8 u (λz0 z1=>k_ ()) p0 (i_:Int) true else (dS u y4.kF).bind λr8=>bif !r8 then d8 u (λz0 z1=>k_ ()) p0 (i_:Int) true else bif decide ((i_:Int) > 0) then (eS p0 (gX .i64 (i_:Int) 1)).bind λy9=>d8 u (λz0 z1=>k_ ()) p0 (i_:Int) (decide (y4.j7<=y9.j7)) else d8 u (λz0 z1=>k_ ()) p0 (i_:Int) false
theorem IS(u:Nat)(p0:List Kid)(s:Unit)(k:Nat)(hn:p0.length<=9223372036854775807)(hk:p0.length < k):fm u k p0 0=Pu.cE (IR u p0) (BB u p0) p0 0 s:=Pu.dE (λ(k:Nat) (s:Unit) (i:Int)=>fm u k p0 i) hn (λ_ _ _=>rfl) s hk
def tw(u:Nat)(p0:Kid)(q0:bl)(q1:Int):Option Bool:=
 (db u q0 p0.j7).bind λr1=>bif !r1 then some true else some (p0.j7 == q1)
def d4(u:Nat)  : Option Int:=
 some (-1)
def bO(u bK:Nat)(p0:List Kid)(p1_0:bl)(p1_1 x2:Int):Option Int:=match bK with
  | 0=>none
  | bK+1=>bif decide (x2 < (p0.length:Int)) then (eS p0 x2).bind λy4=>(tw u y4 p1_0 p1_1).bind λr5=>bif r5 then some x2 else bO u bK p0 p1_0 p1_1 (aV .i64 x2 1) else d4 u
def c8(u:Nat)(p0:List Kid)(p1_0:bl)(p1_1:Int):Option Int:=
 bO u u p0 p1_0 p1_1 0
def kZ(u:Nat)(p0:List Kid)(p1_0:bl)(p1_1:Int)(s:Unit):Option Int:=d4 u
def fJ(u:Nat)(p0:List Kid)(p1_0:bl)(p1_1:Int)(y4:Kid)(i_:Nat)(s:Unit)(k_:Unit->Option Int):Option Int:=(tw u y4 p1_0 p1_1).bind λr5=>bif r5 then some (i_:Int) else k_ ()
theorem k6(u:Nat)(p0:List Kid)(p1_0:bl)(p1_1:Int)(s:Unit)(k:Nat)(hn:p0.length<=9223372036854775807)(hk:p0.length < k):bO u k p0 p1_0 p1_1 0=Pu.cE (kZ u p0 p1_0 p1_1) (fJ u p0 p1_0 p1_1) p0 0 s:=Pu.dE (λ(k:Nat) (s:Unit) (i:Int)=>bO u k p0 p1_0 p1_1 i) hn (λ_ _ _=>rfl) s hk
def ch(u:Nat)(p0:List Kid)(p1_0:bl)(p1_1:Int):Option Bool:=
 (c8 u p0 p1_0 p1_1).bind λr1=>some (decide (r1>=0))
def nb(u:Nat)(x7:Bool)(p0:bl)(p1:Int)(p2:aD):Option Bool:=
 bif x7 then bif decide (p2.bM>=0) then bif decide (p2.bE>=0) then (bq u p2.aR 0 6).bind λr8=>bif r8 then bif (p2.aR == 6) == (p1 == 0) then (na u p2).bind λr9=>bif r9 then (xE u p2.aX).bind λr10=>bif r10 then (ch u p2.aX p0 p1).bind λr11=>some (!r11) else some false else some false else some false else some false else some false else some false else some false
def vF(u:Nat)(x3:Bool)(p0:bl)(p1:Int)(p2:aD):Option Bool:=
 bif x3 then some false else bif !p2.lu then (ub u p2).bind λr4=>some r4 else bif p1 == 0 then bif p2.bY == (-1) then nb u true p0 p1 p2 else bif p1 != 0 then (oK u p0 p2.bY p1).bind λr5=>nb u r5 p0 p1 p2 else nb u false p0 p1 p2 else bif p1 != 0 then (oK u p0 p2.bY p1).bind λr6=>nb u r6 p0 p1 p2 else nb u false p0 p1 p2
def uQ(u:Nat)(p0:bl)(p1:Int)(p2:aD):Option Bool:=
 (n7 u p0).bind λr1=>bif !r1 then vF u true p0 p1 p2 else (db u p0 p1).bind λr2=>vF u (!r2) p0 p1 p2
def rr(u:Nat)(p0:Int):Option Bool:=
 bif p0 == 0 then some true else some (p0 == 1)
def qO(u:Nat)(p0:gy):Option Bool:=
 (pX u p0.aM).bind λr1=>bif r1 then (rr u p0.dj).bind λr2=>bif r2 then (bq u p0.aU 0 240).bind λr3=>some r3 else some false else some false
def gA(u:Nat)(p0:aA)(p1:Int):Option (List Int):=
 bif p1 == 0 then some p0.fA else some p0.fB
def zK(u:Nat)(p0:ej):Option Bool:=
 bif p0.j3 == 2 then bif p0.KU == 0 then bif (p0.fB.length:Int) == 0 then (qO u p0.fR).bind λr1=>some r1 else some false else some false else (rr u p0.j3).bind λr2=>bif r2 then bif [p0.fR.aM,p0.fR.dj,p0.fR.aU] == [0,0,0] then (bq u p0.KU 0 (gX .i64 240 (p0.fB.length:Int))).bind λr3=>some r3 else some false else some false
def tx(u:Nat)(p0:ej):Option Bool:=
 (zK u p0).bind λr1=>some (!r1)
def d5(u:Nat)  : Option Int:=
 some (-1)
def bP(u bL:Nat)(p0:List ej)(x2:Int):Option Int:=match bL with
  | 0=>none
  | bL+1=>bif decide (x2 < (p0.length:Int)) then (eS p0 x2).bind λy4=>(tx u y4).bind λr5=>bif r5 then some x2 else bP u bL p0 (aV .i64 x2 1) else d5 u
def c9(u:Nat)(p0:List ej):Option Int:=
 bP u u p0 0
def k7(u:Nat)(p0:List ej)(s:Unit):Option Int:=d5 u
def fK(u:Nat)(p0:List ej)(y4:ej)(i_:Nat)(s:Unit)(k_:Unit->Option Int):Option Int:=(tx u y4).bind λr5=>bif r5 then some (i_:Int) else k_ ()
theorem k8(u:Nat)(p0:List ej)(s:Unit)(k:Nat)(hn:p0.length<=9223372036854775807)(hk:p0.length < k):bP u k p0 0=Pu.cE (k7 u p0) (fK u p0) p0 0 s:=Pu.dE (λ(k:Nat) (s:Unit) (i:Int)=>bP u k p0 i) hn (λ_ _ _=>rfl) s hk
def ci(u:Nat)(p0:List ej):Option Bool:=
 (c9 u p0).bind λr1=>some (decide (r1>=0))
def pg(u:Nat)(p0:aA)(x3:Bool):Option Bool:=
 bif x3 then some false else bif decide ((p0.fP.length:Int)<=200) then (ci u p0.fP).bind λr4=>some (!r4) else some false
def k9(u:Nat)(p0:aA):Option Bool:=
 bif decide ((p0.fA.length:Int) > 240) then pg u p0 true else bif decide ((p0.fB.length:Int) > 240) then pg u p0 true else (qO u p0.fR).bind λr1=>bif !r1 then pg u p0 true else (gA u p0 p0.fR.dj).bind λr2=>pg u p0 (decide (p0.fR.aU > (r2.length:Int)))
def pZ(u:Nat)(p0 p1:af):Option Bool:=
 bif p0.aM == p1.aM then bif p0.ar == p1.ar then bif p0.aU == p1.aU then (dW u p0.aG p1.aG).bind λr1=>some r1 else some false else some false else some false
def p5(u:Nat)(p0:aA):Option (Int×(List Int)):=
 (k9 u p0).bind λr1=>bif !r1 then some (0,[]) else (gA u p0 p0.fR.dj).bind λr2=>(fX (er 0 p0.fR.aU r2.length)).bind λ_=>(dR u ((r2.take (sY p0.fR.aU)).drop (sY 0))).bind λr4=>some (p0.fR.aM,r4)
def AD(u:Nat)(p0 p1:List Int):Option Bool:=
 some ((strOfNums p0).toList == (strOfNums p1).toList)
def rt(u:Nat)(p0 p1:List Int):Option Bool:=
 (AD u p0 p1).bind λr1=>some r1
def p6(u:Nat)(p0:aA)(p1:Int)(p2:List Int):Option Bool:=
 (p5 u p0).bind λr1=>bif r1.1 == p1 then (rt u r1.2 p2).bind λr2=>some r2 else some false
def uC(u:Nat)(p0:aA):Option Int:=
 some (gX .i64 1 p0.fR.dj)
def sn(u:Nat)(p0:ej)(q0:Int):Option Bool:=
 some (p0.j3 != q0)
def dO(u:Nat)  : Option Int:=
 some (-1)
def bH(u bB:Nat)(p0:List ej)(p1_0 x2:Int):Option Int:=match bB with
  | 0=>none
  | bB+1=>bif decide (x2 < (p0.length:Int)) then (eS p0 x2).bind λy4=>(sn u y4 p1_0).bind λr5=>bif r5 then some x2 else bH u bB p0 p1_0 (aV .i64 x2 1) else dO u
def cT(u:Nat)(p0:List ej)(p1_0:Int):Option Int:=
 bH u u p0 p1_0 0
def ka(u:Nat)(p0:List ej)(p1_0:Int)(s:Unit):Option Int:=dO u
def kc(u:Nat)(p0:List ej)(p1_0:Int)(y4:ej)(i_:Nat)(s:Unit)(k_:Unit->Option Int):Option Int:=(sn u y4 p1_0).bind λr5=>bif r5 then some (i_:Int) else k_ ()
theorem ke(u:Nat)(p0:List ej)(p1_0:Int)(s:Unit)(k:Nat)(hn:p0.length<=9223372036854775807)(hk:p0.length < k):bH u k p0 p1_0 0=Pu.cE (ka u p0 p1_0) (kc u p0 p1_0) p0 0 s:=Pu.dE (λ(k:Nat) (s:Unit) (i:Int)=>bH u k p0 p1_0 i) hn (λ_ _ _=>rfl) s hk
def b4(u:Nat)(p0:List ej)(p1_0:Int):Option Bool:=
 (cT u p0 p1_0).bind λr1=>some (decide (r1>=0))
def xF(u:Nat)(p0:Int):Option Bool:=
 some true
def ud(u:Nat)(p0:aA)(p1:Int):Option (Nat×aA):=
 bif p1 == 0 then some (0,p0) else some (1,p0)
def ny(u:Nat)(p1:ej)(r1:Nat×aA)(x5:List Int):Option aA:=
 (fX (AS p1.KU x5.length)).bind λ_=>some (aA.mk r1.2.fA (yX x5 p1.fB (sY p1.KU)) r1.2.fR r1.2.fP)
def iA(u gH:Nat)(p1:ej)(r1:Nat×aA)(x3:List Int):Option aA:=match gH with
  | 0=>none
  | gH+1=>bif decide ((x3.length:Int) < (aV .i64 p1.KU (p1.fB.length:Int))) then (fX (decide ((x3.length+([0]:List Int).length)*1<=140737488355328))).bind λ_=>iA u gH p1 r1 (x3++([0]:List Int)) else ny u p1 r1 x3
def nz(u:Nat)(p1:ej)(x9:List Int)(r1:Nat×aA):Option aA:=
 (fX (AS p1.KU x9.length)).bind λ_=>some (aA.mk (yX x9 p1.fB (sY p1.KU)) r1.2.fB r1.2.fR r1.2.fP)
def iB(u gI:Nat)(p1:ej)(x7:List Int)(r1:Nat×aA):Option aA:=match gI with
  | 0=>none
  | gI+1=>bif decide ((x7.length:Int) < (aV .i64 p1.KU (p1.fB.length:Int))) then (fX (decide ((x7.length+([0]:List Int).length)*1<=140737488355328))).bind λ_=>iB u gI p1 (x7++([0]:List Int)) r1 else nz u p1 x7 r1
def gL(u:Nat)(p0:aA)(p1:ej):Option aA:=
 bif p1.j3 == 2 then some (aA.mk p0.fA p0.fB p1.fR p0.fP) else (ud u p0 p1.j3).bind λr1=>bif zXX r1.1 0 then iB u u p1 r1.2.fA r1 else bif zXX r1.1 1 then iA u u p1 r1 r1.2.fB else none
def iV(u:Nat)(x33 x34:List Int)(x35 x36 x37:Int)(x38:List ej):Option aA:=
 some (aA.mk x33 x34 (gy.mk x35 x36 x37) [])
def dH(u:Nat)(tg:aA->Int->List Int->List Int->Int->Int->Int->List ej->Option aA)(p0:aA)(x10:Int)(x27 x28:List Int)(x29 x30 x31:Int)(x32:List ej):Option aA:=
 tg p0 (aV .i64 x10 1) x27 x28 x29 x30 x31 x32
def b8(u cq:Nat)(p0:aA)(x10:Int)(x11 x12:List Int)(x13 x14 x15:Int)(x16:List ej):Option aA:=match cq with
  | 0=>none
  | cq+1=>bif decide (x10 < (p0.fP.length:Int)) then (eS p0.fP x10).bind λy24=>(xF u x10).bind λr25=>bif r25 then (gL u (aA.mk x11 x12 (gy.mk x13 x14 x15) x16) y24).bind λr26=>dH u (b8 u cq) p0 x10 r26.fA r26.fB r26.fR.aM r26.fR.dj r26.fR.aU r26.fP else dH u (b8 u cq) p0 x10 x11 x12 x13 x14 x15 x16 else iV u x11 x12 x13 x14 x15 x16
def gJ(u:Nat)(p0:aA):Option aA:=
 (dM u p0).bind λr1=>(k9 u p0).bind λr2=>bif !r2 then some r1 else b8 u u p0 0 r1.fA r1.fB r1.fR.aM r1.fR.dj r1.fR.aU r1.fP
def mq(u:Nat)(p0:aA)(s:(List Int)×(List Int)×Int×Int×Int×(List ej)):Option aA:=iV u s.1 s.2.1 s.2.2.1 s.2.2.2.1 s.2.2.2.2.1 s.2.2.2.2.2
def ie(u:Nat)(p0:aA)(y24:ej)(i_:Nat)(s:(List Int)×(List Int)×Int×Int×Int×(List ej))(k_:((List Int)×(List Int)×Int×Int×Int×(List ej))->Option aA):Option aA:=(xF u (i_:Int)).bind λr25=>bif r25 then (gL u (aA.mk s.1 s.2.1 (gy.mk s.2.2.1 s.2.2.2.1 s.2.2.2.2.1) s.2.2.2.2.2) y24).bind λr26=>dH u (λz0 z1 z2 z3 z4 z5 z6 z7=>k_ (z2,z3,z4,z5,z6,z7)) p0 (i_:Int) r26.fA r26.fB r26.fR.aM r26.fR.dj r26.fR.aU r26.fP else dH u (λz0 z1 z2 z3 z4 z5 z6 z7=>k_ (z2,z3,z4,z5,z6,z7)) p0 (i_:Int) s.1 s.2.1 s.2.2.1 s.2.2.2.1 s.2.2.2.2.1 s.2.2.2.2.2
theorem s4(u:Nat)(p0:aA)(s:(List Int)×(List Int)×Int×Int×Int×(List ej))(k:Nat)(hn:p0.fP.length<=9223372036854775807)(hk:p0.fP.length < k):b8 u k p0 0 s.1 s.2.1 s.2.2.1 s.2.2.2.1 s.2.2.2.2.1 s.2.2.2.2.2=Pu.cE (mq u p0) (ie u p0) p0.fP 0 s:=Pu.dE (λ(k:Nat) (s:(List Int)×(List Int)×Int×Int×Int×(List ej)) (i:Int)=>b8 u k p0 i s.1 s.2.1 s.2.2.1 s.2.2.2.1 s.2.2.2.2.1 s.2.2.2.2.2) hn (λ_ _ _=>rfl) s hk
def wP(u:Nat)(p0:aA):Option aA:=
 (gJ u p0).bind λr1=>some r1
def qr(u:Nat)(p0 p1:List Int):Option Bool:=
 bif decide ((p0.length:Int)>=(p1.length:Int)) then (fX (er 0 (p1.length:Int) p0.length)).bind λ_=>(AD u ((p0.take (sY (p1.length:Int))).drop (sY 0)) p1).bind λr2=>some r2 else some false
def kl(u:Nat)(p0:aA)(q0:Int)(q1:aY):Option Bool:=
 (gA u p0 q0).bind λr1=>(qr u r1 q1.cu).bind λr2=>some r2
def og(u:Nat)(p3:Int)(p0:aA)(r1 x2:Int)(p1:af)(p2:aY):Option Bool:=
 bif p3 == 2 then (b4 u p0.fP r1).bind λr3=>bif !r3 then (wP u p0).bind λr4=>(kl u r4 x2 p2).bind λr5=>some r5 else some false else bif p3 == 3 then bif (p0.fP.length:Int) == 0 then (kl u p0 x2 p2).bind λr6=>some r6 else some false else bif p3 == 4 then bif (p0.fP.length:Int) == 1 then (eS p0.fP 0).bind λy7=>bif y7.j3 == 2 then (eS p0.fP 0).bind λy8=>bif [y8.fR.aM,y8.fR.dj,y8.fR.aU] == [p1.aM,r1,p1.aU] then (kl u p0 x2 p2).bind λr9=>some r9 else some false else some false else some false else some false
def ru(u:Nat)(p0:aA)(p1:af)(p2:aY)(p3:Int):Option Bool:=
 (uC u p0).bind λr1=>bif r1 == 1 then og u p3 p0 r1 1 p1 p2 else og u p3 p0 r1 0 p1 p2
def lG(u:Nat)(r4 r5:Bool)(y2:aA)(x6:Bool)(y1:aD):Option Bool:=
 bif x6 then bif (y2.fP.length:Int) == 0 then bif r4 then some true else some r5 else some false else bif y1.aR == 1 then bif (y2.fP.length:Int) == 0 then some r4 else some false else bif y1.aR == 5 then bif (y2.fP.length:Int) == 0 then some r5 else some false else bif r4 then (ru u y2 y1.aB y1.bw y1.aR).bind λr7=>some r7 else some false
def lc(u:Nat)(p0:World)(p1:Int):Option Bool:=
 (eS p0.fN p1).bind λy1=>(eS p0.fD p1).bind λy2=>(eS p0.ct p1).bind λy3=>(p6 u y2 0 y3.fB).bind λr4=>(p6 u y2 1 p0.cG).bind λr5=>bif !y1.lu then lG u r4 r5 y2 true y1 else lG u r4 r5 y2 (y1.aR == 0) y1
def rv(u:Nat)(p0:aq)(q0:World):Option Bool:=
 (db u q0.fT p0.gS).bind λr1=>bif !r1 then some true else (db u q0.fT p0.Ca).bind λr2=>some (!r2)
def dn(u:Nat)  : Option Int:=
 some (-1)
def bt(u bp:Nat)(p0:List aq)(p1_0:World)(x2:Int):Option Int:=match bp with
  | 0=>none
  | bp+1=>bif decide (x2 < (p0.length:Int)) then (eS p0 x2).bind λy4=>(rv u y4 p1_0).bind λr5=>bif r5 then some x2 else bt u bp p0 p1_0 (aV .i64 x2 1) else dn u
def cJ(u:Nat)(p0:List aq)(p1_0:World):Option Int:=
 bt u u p0 p1_0 0
def jp(u:Nat)(p0:List aq)(p1_0:World)(s:Unit):Option Int:=dn u
def eE(u:Nat)(p0:List aq)(p1_0:World)(y4:aq)(i_:Nat)(s:Unit)(k_:Unit->Option Int):Option Int:=(rv u y4 p1_0).bind λr5=>bif r5 then some (i_:Int) else k_ ()
theorem jq(u:Nat)(p0:List aq)(p1_0:World)(s:Unit)(k:Nat)(hn:p0.length<=9223372036854775807)(hk:p0.length < k):bt u k p0 p1_0 0=Pu.cE (jp u p0 p1_0) (eE u p0 p1_0) p0 0 s:=Pu.dE (λ(k:Nat) (s:Unit) (i:Int)=>bt u k p0 p1_0 i) hn (λ_ _ _=>rfl) s hk
def bU(u:Nat)(p0:List aq)(p1_0:World):Option Bool:=
 (cJ u p0 p1_0).bind λr1=>some (decide (r1>=0))
def nR(u:Nat)(p0:World):Option Bool:=
 (eS p0.fN 0).bind λy18=>bif y18.lu then (eS p0.fD 0).bind λy19=>(eS p0.ct 0).bind λy20=>(p6 u y19 0 y20.fB).bind λr21=>bif r21 then (eS p0.fD 0).bind λy22=>bif (y22.fP.length:Int) == 0 then bif decide ((p0.cr.length:Int)<=400) then (bU u p0.cr p0).bind λr23=>bif !r23 then bif decide ((p0.fO.length:Int)<=3000) then some (decide (p0.cQ>=0)) else some false else some false else some false else some false else some false else some false
def ue(u:Nat)(ra:World->Int->af->Option Bool)(p0:World)(x8:Int)(x17:Bool)(r6:af):Option Bool:=
 bif x17 then some false else ra p0 (aV .i64 x8 1) r6
def gU(u:Nat)(ra:World->Int->af->Option Bool)(x8:Int)(p0:World)(x15:Bool)(r6:af):Option Bool:=
 bif x15 then some false else bif decide (x8 > 0) then (lc u p0 x8).bind λr16=>ue u ra p0 x8 (!r16) r6 else ue u ra p0 x8 false r6
def fi(u eR:Nat)(p0:World)(x8:Int)(r6:af):Option Bool:=match eR with
  | 0=>none
  | eR+1=>bif decide (x8 < (p0.fN.length:Int)) then (eS p0.fN x8).bind λy10=>(uQ u p0.fT x8 y10).bind λr11=>bif !r11 then gU u (fi u eR) x8 p0 true r6 else (eS p0.fD x8).bind λy12=>(k9 u y12).bind λr13=>bif !r13 then gU u (fi u eR) x8 p0 true r6 else bif y10.aR != 0 then (pZ u y10.aB r6).bind λr14=>gU u (fi u eR) x8 p0 (!r14) r6 else gU u (fi u eR) x8 p0 false r6 else nR u p0
def iN(u:Nat)(x5:Bool)(p0:World):Option Bool:=
 bif x5 then some false else (wN u p0).bind λr6=>fi u u p0 0 r6
def vG(u:Nat)(p0:World):Option Bool:=
 (uO u p0.fC).bind λr1=>bif !r1 then iN u true p0 else (n7 u p0.fT).bind λr2=>bif !r2 then iN u true p0 else (mF u p0.fC.ar (p0.cG.length:Int)).bind λr3=>bif !r3 then iN u true p0 else (o6 u p0.fT p0.ct).bind λr4=>bif !r4 then iN u true p0 else bif (p0.fN.length:Int) != (p0.fT.bC.length:Int) then iN u true p0 else iN u ((p0.fD.length:Int) != (p0.fT.bC.length:Int)) p0
def Hf(u:Nat)(p0:World)(r6:af)(s:Unit):Option Bool:=nR u p0
def AE(u:Nat)(p0:World)(r6:af)(y10:aD)(i_:Nat)(s:Unit)(k_:Unit->Option Bool):Option Bool:=(uQ u p0.fT (i_:Int) y10).bind λr11=>bif !r11 then gU u (λz0 z1 z2=>k_ ()) (i_:Int) p0 true r6 else (eS p0.fD (i_:Int)).bind λy12=>(k9 u y12).bind λr13=>bif !r13 then gU u (λz0 z1 z2=>k_ ()) (i_:Int) p0 true r6 else bif y10.aR != 0 then (pZ u y10.aB r6).bind λr14=>gU u (λz0 z1 z2=>k_ ()) (i_:Int) p0 (!r14) r6 else gU u (λz0 z1 z2=>k_ ()) (i_:Int) p0 false r6
theorem Hg(u:Nat)(p0:World)(r6:af)(s:Unit)(k:Nat)(hn:p0.fN.length<=9223372036854775807)(hk:p0.fN.length < k):fi u k p0 0 r6=Pu.cE (Hf u p0 r6) (AE u p0 r6) p0.fN 0 s:=Pu.dE (λ(k:Nat) (s:Unit) (i:Int)=>fi u k p0 i r6) hn (λ_ _ _=>rfl) s hk
def j8(u:Nat)(r1 r2:Bool)(p0:World)(p1:wC)(x3:Bool):Option Bool:=
 bif x3 then some r2 else bif p1.bG == 4 then bif r2 then some (decide ((p0.cr.length:Int) < 400)) else some false else bif p1.bG == 5 then bif r1 then bif decide (p1.fN > 0) then (eS p0.fN p1.fN).bind λy4=>some y4.lu else some false else some false else bif p1.bG == 6 then bif r1 then (eS p0.fN p1.fN).bind λy5=>some (!y5.lu) else some false else bif p1.bG == 7 then (db u p0.fT p1.fP.gS).bind λr6=>bif r6 then (db u p0.fT p1.fP.Ca).bind λr7=>bif r7 then some (decide ((p0.cr.length:Int) < 400)) else some false else some false else some false
def jB(u:Nat)(p0:World)(p1:wC):Option Bool:=
 (db u p0.fT p1.fN).bind λr1=>(bq u p1.fN 0 (gX .i64 (p0.cr.length:Int) 1)).bind λr2=>bif p1.bG == 1 then some r1 else bif p1.bG == 2 then j8 u r1 r2 p0 p1 (p1.bG == 2) else j8 u r1 r2 p0 p1 (p1.bG == 3)
def zL(u:Nat)(x9:List Kid):Option (List Kid):=
 some x9
def pi(u:Nat)(Kc:Int->List Kid->List Kid->Int->Option (List Kid))(p1:Int)(x8 p0:List Kid)(x4:Int):Option (List Kid):=
 Kc p1 x8 p0 (aV .i64 x4 1)
def lf(u je:Nat)(p1:Int)(x3 p0:List Kid)(x4:Int):Option (List Kid):=match je with
  | 0=>none
  | je+1=>bif decide (x4 < (p0.length:Int)) then (eS p0 x4).bind λy7=>bif decide (y7.sR < p1) then (fX (decide ((x3.length+([(Kid.mk y7.j7 y7.bZ y7.bR (aV .i64 y7.sR 1) 0)]).length)*40<=140737488355328))).bind λ_=>pi u (lf u je) p1 (x3++([(Kid.mk y7.j7 y7.bZ y7.bR (aV .i64 y7.sR 1) 0)])) p0 x4 else pi u (lf u je) p1 x3 p0 x4 else zL u x3
def xG(u:Nat)(p0:List Kid)(p1:Int):Option (List Kid):=
 lf u u p1 ([]:List Kid) p0 0
def IT(u:Nat)(p1:Int)(p0:List Kid)(s:List Kid):Option (List Kid):=zL u s
def BC(u:Nat)(p1:Int)(p0:List Kid)(y7:Kid)(i_:Nat)(s:List Kid)(k_:List Kid->Option (List Kid)):Option (List Kid):=bif decide (y7.sR < p1) then (fX (decide ((s.length+([(Kid.mk y7.j7 y7.bZ y7.bR (aV .i64 y7.sR 1) 0)]).length)*40<=140737488355328))).bind λ_=>pi u (λz0 z1 z2 z3=>k_ z1) p1 (s++([(Kid.mk y7.j7 y7.bZ y7.bR (aV .i64 y7.sR 1) 0)])) p0 (i_:Int) else pi u (λz0 z1 z2 z3=>k_ z1) p1 s p0 (i_:Int)
theorem IU(u:Nat)(p1:Int)(p0:List Kid)(s:List Kid)(k:Nat)(hn:p0.length<=9223372036854775807)(hk:p0.length < k):lf u k p1 s p0 0=Pu.cE (IT u p1 p0) (BC u p1 p0) p0 0 s:=Pu.dE (λ(k:Nat) (s:List Kid) (i:Int)=>lf u k p1 s p0 i) hn (λ_ _ _=>rfl) s hk
def so(u:Nat)(p1 p2:Int)(x5:Bool)(p0:bl):Option Int:=
 bif x5 then (eS p0.bC p1).bind λy6=>some y6 else (eS p0.bC p2).bind λy7=>some y7
def pj(u:Nat)(p1 p2:Int)(x3:Bool)(p0:bl):Option Int:=
 bif x3 then some (-1) else bif p2 == 0 then so u p1 p2 true p0 else (oK u p0 p2 p1).bind λr4=>so u p1 p2 (!r4) p0
def tz(u:Nat)(p0:bl)(p1 p2:Int):Option Int:=
 (n7 u p0).bind λr1=>bif !r1 then pj u p1 p2 true p0 else bif p1 == 0 then pj u p1 p2 true p0 else (db u p0 p1).bind λr2=>pj u p1 p2 (!r2) p0
def zM(u:Nat)(p0:af)(p1:aY):Option Bool:=
 bif p0.aM != 0 then (oe u p0 p1).bind λr1=>bif r1 then (pY u p0 p1).bind λr2=>some (r2 == 0) else some false else some false
def jX(u:Nat)(p0:aA)(p1:ej):Option (aA×Bool):=
 (dM u p0).bind λr1=>(kJ u p1).bind λr2=>(fX (decide ((r1.fP.length+[r2].length)*64<=140737488355328))).bind λ_=>(k9 u (aA.mk r1.fA r1.fB r1.fR (r1.fP++[r2]))).bind λr4=>bif !r4 then (dM u p0).bind λr5=>some (r5,false) else some ((aA.mk r1.fA r1.fB r1.fR (r1.fP++[r2])),true)
def qP(u:Nat)(p0:aA)(p1 p2:Int)(p3:List Int):Option (aA×Bool):=
 (rr u p1).bind λr1=>bif !r1 then (dM u p0).bind λr2=>some (r2,false) else (jX u p0 (ej.mk p1 p2 p3 (gy.mk 0 0 0))).bind λr3=>some (r3.1,r3.2)
def wQ(u:Nat)(x32 x33:List Int)(x34 x35 x36:Int)(x37:List ej):Option (aA×Bool):=
 some ((aA.mk x32 x33 (gy.mk x34 x35 x36) x37),true)
def gY(u kE:Nat)(p1:List Int)(p2 r6 x14:Int)(x15 x16:List Int)(x17 x18 x19:Int)(x20:List ej)(p0:aA):Option (aA×Bool):=match kE with
  | 0=>none
  | kE+1=>bif decide (x14 < r6) then (n8 u p1 p2 x14).bind λr28=>(uC u p0).bind λr29=>(qP u (aA.mk x15 x16 (gy.mk x17 x18 x19) x20) r29 (js .i64 x14 p2) r28.1).bind λr30=>bif !r30.2 then (dM u p0).bind λr31=>some (r31,false) else gY u kE p1 p2 r6 (aV .i64 x14 1) r30.1.fA r30.1.fB r30.1.fR.aM r30.1.fR.dj r30.1.fR.aU r30.1.fP p0 else wQ u x15 x16 x17 x18 x19 x20
def pk(u:Nat)(p1:List Int)(p2:Int)(x3:Bool)(p0:aA):Option (aA×Bool):=
 bif x3 then (dM u p0).bind λr4=>some (r4,false) else (dM u p0).bind λr5=>(mG u p2 (p1.length:Int)).bind λr6=>gY u u p1 p2 r6 0 r5.fA r5.fB r5.fR.aM r5.fR.dj r5.fR.aU r5.fP p0
def tA(u:Nat)(p0:aA)(p1:List Int)(p2:Int):Option (aA×Bool):=
 (k9 u p0).bind λr1=>bif !r1 then pk u p1 p2 true p0 else bif decide ((p0.fP.length:Int) > 0) then pk u p1 p2 true p0 else (mF u p2 (p1.length:Int)).bind λr2=>pk u p1 p2 (!r2) p0
def F3(u:Nat)(p1:List Int)(p2 r6:Int)(p0:aA)(s:(List Int)×(List Int)×Int×Int×Int×(List ej)):Option (aA×Bool):=wQ u s.1 s.2.1 s.2.2.1 s.2.2.2.1 s.2.2.2.2.1 s.2.2.2.2.2
def F4(u:Nat)(p1:List Int)(p2 r6:Int)(p0:aA)(i_:Nat)(s:(List Int)×(List Int)×Int×Int×Int×(List ej))(k_:((List Int)×(List Int)×Int×Int×Int×(List ej))->Option (aA×Bool)):Option (aA×Bool):=(n8 u p1 p2 (i_:Int)).bind λr28=>(uC u p0).bind λr29=>(qP u (aA.mk s.1 s.2.1 (gy.mk s.2.2.1 s.2.2.2.1 s.2.2.2.2.1) s.2.2.2.2.2) r29 (js .i64 (i_:Int) p2) r28.1).bind λr30=>bif !r30.2 then (dM u p0).bind λr31=>some (r31,false) else k_ (r30.1.fA,r30.1.fB,r30.1.fR.aM,r30.1.fR.dj,r30.1.fR.aU,r30.1.fP)
theorem Tu(u:Nat)(p1:List Int)(p2 r6:Int)(p0:aA)(s:(List Int)×(List Int)×Int×Int×Int×(List ej))(k:Nat)(hn:(r6:Int)<=9223372036854775807)(hk:sY r6 < k):gY u k p1 p2 r6 0 s.1 s.2.1 s.2.2.1 s.2.2.2.1 s.2.2.2.2.1 s.2.2.2.2.2 p0=Pu.oU (F3 u p1 p2 r6 p0) (F4 u p1 p2 r6 p0) (sY r6) 0 s:=Pu.pA (λ(k:Nat) (s:(List Int)×(List Int)×Int×Int×Int×(List ej)) (i:Int)=>gY u k p1 p2 r6 i s.1 s.2.1 s.2.2.1 s.2.2.2.1 s.2.2.2.2.1 s.2.2.2.2.2 p0) hn (λ_ _ _=>rfl) s hk
def rx(u:Nat)(p0:aA)(p1:gy):Option (aA×Bool):=
 (jX u p0 (ej.mk 2 0 [] p1)).bind λr1=>some (r1.1,r1.2)
def km(u:Nat)(p3:Int)(p0:aA):Option (aA×Int):=
 (dM u p0).bind λr7=>some (r7,p3)
def qs(u:Nat)(p0:aA)(p1:af)(p2:aY)(p3:Int):Option (aA×Int):=
 bif p3 == 1 then (zM u p1 p2).bind λr1=>bif !r1 then km u p3 p0 else (tA u p0 p2.cu p1.ar).bind λr2=>bif r2.2 then some (r2.1,2) else km u p3 p0 else bif p3 == 2 then (wP u p0).bind λr3=>some (r3,3) else bif p3 == 3 then (uC u p0).bind λr4=>(rx u p0 (gy.mk p1.aM r4 p1.aU)).bind λr5=>bif r5.2 then some (r5.1,4) else km u p3 p0 else bif p3 == 4 then (wP u p0).bind λr6=>some (r6,5) else km u p3 p0
def xH(u:Nat)(p0:aD):Option Int:=
 bif p0.aR == 0 then some 0 else (pY u p0.aB p0.bw).bind λr1=>some r1
def uf(u:Nat)(x9:List Int):Option (List Int):=
 some x9
def l6(u:Nat)(IE:Int->List Int->Int->Option (List Int))(p0:Int)(x8:List Int)(x4:Int):Option (List Int):=
 IE p0 x8 (aV .i64 x4 1)
def jY(u iw:Nat)(p0:Int)(x3:List Int)(x4:Int):Option (List Int):=match iw with
  | 0=>none
  | iw+1=>bif decide (x4 < 40) then (gz u p0 x4).bind λr7=>bif r7 then (fX (decide ((x3.length+([x4]:List Int).length)*8<=140737488355328))).bind λ_=>l6 u (jY u iw) p0 (x3++([x4]:List Int)) x4 else l6 u (jY u iw) p0 x3 x4 else uf u x3
def oh(u:Nat)(p0:Int):Option (List Int):=
 jY u u p0 ([]:List Int) 0
def AF(u:Nat)(p0:Int)(s:List Int):Option (List Int):=uf u s
def AG(u:Nat)(p0:Int)(i_:Nat)(s:List Int)(k_:List Int->Option (List Int)):Option (List Int):=(gz u p0 (i_:Int)).bind λr7=>bif r7 then (fX (decide ((s.length+([(i_:Int)]:List Int).length)*8<=140737488355328))).bind λ_=>l6 u (λz0 z1 z2=>k_ z1) p0 (s++([(i_:Int)]:List Int)) (i_:Int) else l6 u (λz0 z1 z2=>k_ z1) p0 s (i_:Int)
theorem Hh(u:Nat)(p0:Int)(s:List Int)(k:Nat)(hn:(40:Int)<=9223372036854775807)(hk:sY 40 < k):jY u k p0 s 0=Pu.oU (AF u p0) (AG u p0) (sY 40) 0 s:=Pu.pA (λ(k:Nat) (s:List Int) (i:Int)=>jY u k p0 s i) hn (λ_ _ _=>rfl) s hk
def qt(u:Nat)(x12:Int):Option Int:=
 some x12
def nS(u lP:Nat)(x5 x6:Int)(r1:List Int)(x7:Int):Option Int:=match lP with
  | 0=>none
  | lP+1=>bif decide (x7 < (r1.length:Int)) then (eS r1 x7).bind λy11=>bif decide (x5 < 1) then qt u x6 else (fX (decide (0<=y11))).bind λ_=>nS u lP (gX .i64 x5 1) (u9 .i64 x6 (jt .i64 1 y11)) r1 (aV .i64 x7 1) else qt u x6
def vH(u:Nat)(p0 p1:Int):Option Int:=
 (oh u p0).bind λr1=>nS u u p1 0 r1 0
def AH(u:Nat)(r1:List Int)(s:Int×Int):Option Int:=qt u s.2
def vI(u:Nat)(r1:List Int)(y11:Int)(i_:Nat)(s:Int×Int)(k_:(Int×Int)->Option Int):Option Int:=bif decide (s.1 < 1) then qt u s.2 else (fX (decide (0<=y11))).bind λ_=>k_ (gX .i64 s.1 1,u9 .i64 s.2 (jt .i64 1 y11))
theorem Hi(u:Nat)(r1:List Int)(s:Int×Int)(k:Nat)(hn:r1.length<=9223372036854775807)(hk:r1.length < k):nS u k s.1 s.2 r1 0=Pu.cE (AH u r1) (vI u r1) r1 0 s:=Pu.dE (λ(k:Nat) (s:Int×Int) (i:Int)=>nS u k s.1 s.2 r1 i) hn (λ_ _ _=>rfl) s hk
def xI(u:Nat)(p0:aD)(p1:Int):Option Int:=
 (xH u p0).bind λr1=>(vH u r1 p1).bind λr2=>some r2
def tD(u:Nat)(p0:Kid):Option Int:=
 some p0.bR
def kn(u:Nat)(x11:Int):Option Int:=
 some x11
def en(u:Nat)(wB:Int->List Kid->Int->Option Int)(x10:Int)(p0:List Kid)(x4:Int):Option Int:=
 wB x10 p0 (aV .i64 x4 1)
def cW(u cP:Nat)(x3:Int)(p0:List Kid)(x4:Int):Option Int:=match cP with
  | 0=>none
  | cP+1=>bif decide (x4 < (p0.length:Int)) then (eS p0 x4).bind λy7=>(tD u y7).bind λr8=>(dS u r8).bind λr9=>bif r9 then en u (cW u cP) (u9 .i64 x3 r8) p0 x4 else en u (cW u cP) x3 p0 x4 else kn u x3
def ji(u:Nat)(p0:List Kid):Option Int:=
 cW u u 0 p0 0
def oj(u:Nat)(p0:List Kid)(s:Int):Option Int:=kn u s
def jC(u:Nat)(p0:List Kid)(y7:Kid)(i_:Nat)(s:Int)(k_:Int->Option Int):Option Int:=(tD u y7).bind λr8=>(dS u r8).bind λr9=>bif r9 then en u (λz0 z1 z2=>k_ z0) (u9 .i64 s r8) p0 (i_:Int) else en u (λz0 z1 z2=>k_ z0) s p0 (i_:Int)
theorem vJ(u:Nat)(p0:List Kid)(s:Int)(k:Nat)(hn:p0.length<=9223372036854775807)(hk:p0.length < k):cW u k s p0 0=Pu.cE (oj u p0) (jC u p0) p0 0 s:=Pu.dE (λ(k:Nat) (s i:Int)=>cW u k s p0 i) hn (λ_ _ _=>rfl) s hk
def uR(u:Nat)(p0:List Kid):Option Int:=
 (ji u p0).bind λr1=>some r1
def sq(u:Nat)(p0 p1:Int)(x3:Bool):Option Int:=
 bif x3 then some p0 else (fX (decide (0<=p1))).bind λ_=>some (u9 .i64 p0 (jt .i64 1 p1))
def tE(u:Nat)(p0 p1:Int):Option Int:=
 (dS u p0).bind λr1=>bif !r1 then sq u p0 p1 true else (od u p1).bind λr2=>sq u p0 p1 (!r2)
def ug(u:Nat)(x3:Int):Option Int:=
 some x3
def vK(u:Nat)(p0:aD)(p1:Int):Option Int:=
 (uR u p0.aX).bind λr1=>bif p0.aR == 5 then (tE u r1 p1).bind λr2=>ug u r2 else ug u r1
def zd(u:Nat)(p0 p1 p2:Int):Option j4:=
 some (j4.mk 2 p0 (af.mk 0 0 0 []) p1 p2 0 [])
def ko(u:Nat)(p0:j4)(p1 p2 p3:Bool):Option Bool:=
 bif p1 then bif p2 then bif p3 then some true else bif p0.fI == 0 then some ((p0.fB.length:Int) == 0) else some false else bif p0.bZ == 0 then bif p0.bR == 0 then bif p3 then some true else bif p0.fI == 0 then some ((p0.fB.length:Int) == 0) else some false else some false else some false else (jx u p0.aB).bind λr1=>bif r1 then bif p2 then bif p3 then some true else bif p0.fI == 0 then some ((p0.fB.length:Int) == 0) else some false else bif p0.bZ == 0 then bif p0.bR == 0 then bif p3 then some true else bif p0.fI == 0 then some ((p0.fB.length:Int) == 0) else some false else some false else some false else some false
def wR(u:Nat)(p0:j4):Option Bool:=
 bif p0.bG == 1 then (lZ u p0.aB).bind λr1=>bif r1 then bif p0.aB.aM != 0 then bif p0.aM == 0 then (ko u p0 true false false).bind λr2=>some r2 else some false else some false else some false else bif p0.bG == 2 then (pX u p0.aM).bind λr3=>bif r3 then (dS u p0.bZ).bind λr4=>bif r4 then (dS u p0.bR).bind λr5=>bif r5 then (ko u p0 false true false).bind λr6=>some r6 else some false else some false else some false else bif p0.bG == 3 then (bq u p0.aM 1 1000000).bind λr7=>bif r7 then (od u p0.fI).bind λr8=>bif r8 then (bq u (p0.fB.length:Int) 1 6).bind λr9=>bif r9 then (ko u p0 false false true).bind λr10=>some r10 else some false else some false else some false else bif p0.bG == 4 then (pX u p0.aM).bind λr11=>bif r11 then (ko u p0 false false false).bind λr12=>some r12 else some false else some false
def qZ(u:Nat)(x7:List Int)(x8:Int):Option (List Int):=
 (fX (decide ((x7.length+([pa .u8 x8]:List Int).length)*1<=140737488355328))).bind λ_=>some (x7++([pa .u8 x8]:List Int))
def jD(u jQ:Nat)(x3:List Int)(x4:Int):Option (List Int):=match jQ with
  | 0=>none
  | jQ+1=>bif decide (x4>=128) then (fX (decide ((x3.length+([u9 .u8 (pa .u8 x4) 128]:List Int).length)*1<=140737488355328))).bind λ_=>jD u jQ (x3++([u9 .u8 (pa .u8 x4) 128]:List Int)) (ju .i64 x4 7) else qZ u x3 x4
def pn(u:Nat)(p0:List Int)(p1:Int):Option (List Int):=
 jD u u p0 p1
def fd(u:Nat)(p0:List Int)(p1:Int):Option (List Int):=
 (dR u p0).bind λr1=>(bq u p1 0 1000000000000).bind λr2=>bif !r2 then some r1 else (pn u r1 p1).bind λr3=>some r3
def zN(u:Nat)(x14:List Int):Option (List Int):=
 some x14
def po(u m0:Nat)(x8:List Int)(p1:af)(x9:Int):Option (List Int):=match m0 with
  | 0=>none
  | m0+1=>bif decide (x9 < (p1.aG.length:Int)) then (eS p1.aG x9).bind λy12=>(pn u x8 y12.fS).bind λr13=>po u m0 r13 p1 (aV .i64 x9 1) else zN u x8
def xJ(u:Nat)(p0:List Int)(p1:af):Option (List Int):=
 (lZ u p1).bind λr1=>bif !r1 then (dR u p0).bind λr2=>some r2 else (fd u p0 p1.aM).bind λr3=>(fd u r3 p1.ar).bind λr4=>(fd u r4 p1.aU).bind λr5=>po u u r5 p1 0
def BD(u:Nat)(p1:af)(s:List Int):Option (List Int):=zN u s
def wS(u:Nat)(p1:af)(y12:cS)(i_:Nat)(s:List Int)(k_:List Int->Option (List Int)):Option (List Int):=(pn u s y12.fS).bind λr13=>k_ r13
theorem IV(u:Nat)(p1:af)(s:List Int)(k:Nat)(hn:p1.aG.length<=9223372036854775807)(hk:p1.aG.length < k):po u k s p1 0=Pu.cE (BD u p1) (wS u p1) p1.aG 0 s:=Pu.dE (λ(k:Nat) (s:List Int) (i:Int)=>po u k s p1 i) hn (λ_ _ _=>rfl) s hk
def xK(u:Nat)(p0:List Int)(p1:Int):Option (List Int):=
 (fd u p0 (gl .i64 p1 1048575)).bind λr1=>(fd u r1 (ju .i64 p1 20)).bind λr2=>some r2
def ze(u:Nat)(p0 p1:List Int):Option (List Int):=
 (fd u p0 (p1.length:Int)).bind λr1=>(fX (decide ((r1.length+p1.length)*1<=140737488355328))).bind λ_=>some (r1++p1)
def jE(u:Nat)(x11:List Int):Option (List Int):=
 (pQ u x11).bind λr12=>(fd u x11 r12).bind λr13=>some r13
def pR(u:Nat)(p0:j4):Option (List Int):=
 (wR u p0).bind λr1=>bif !r1 then some [] else (fd u [] p0.bG).bind λr2=>bif p0.bG == 1 then (xJ u r2 p0.aB).bind λr3=>jE u r3 else bif p0.bG == 2 then (fd u r2 p0.aM).bind λr4=>(xK u r4 p0.bZ).bind λr5=>(xK u r5 p0.bR).bind λr6=>jE u r6 else bif p0.bG == 3 then (fd u r2 p0.aM).bind λr7=>(fd u r7 p0.fI).bind λr8=>(ze u r8 p0.fB).bind λr9=>jE u r9 else bif p0.bG == 4 then (fd u r2 p0.aM).bind λr10=>jE u r10 else jE u r2
def gV(u:Nat)(p0 p1:Int)(p2:j4):Option aq:=
 (pR u p2).bind λr1=>some (aq.mk p0 p1 r1)
def vL(u:Nat)(p2:Int)(p1:dV)(p3:aD)(p4:aA)(r1:aD)(x5 x6:Int)(r3:List Kid)(r2:aA):Option II:=
 (qs u p4 p3.aB p3.bw p3.aR).bind λr7=>(xI u (aD.mk r1.lu x5 x6 r1.aB r1.bw r7.2 r3 r1.bE) p1.ba).bind λr8=>(vK u (aD.mk r1.lu x5 x6 r1.aB r1.bw r7.2 r3 r1.bE) p2).bind λr9=>(zd u p3.aB.aM r8 r9).bind λr10=>(gV u p2 x5 r10).bind λr11=>some (II.mk (aD.mk r1.lu x5 x6 r1.aB r1.bw r7.2 r3 r1.bE) r7.1 [r11])
def BE(u:Nat)(p0:bl)(p1:dV)(p2:Int)(p3:aD)(p4:aA):Option II:=
 (eB u p3).bind λr1=>(dM u p4).bind λr2=>bif !p3.lu then some (II.mk r1 r2 []) else (xG u p3.aX p1.aZ).bind λr3=>bif p2 == 0 then some (II.mk (aD.mk r1.lu r1.bY r1.bM r1.aB r1.bw r1.aR r3 r1.bE) r2 []) else bif decide (p3.bM>=p1.aW) then (tz u p0 p2 p3.bY).bind λr4=>vL u p2 p1 p3 p4 r1 r4 0 r3 r2 else vL u p2 p1 p3 p4 r1 r1.bY (aV .i64 r1.bM 1) r3 r2
def uh(u:Nat)  : Option (Int×Int×Bool):=
 some (0,0,false)
def gW(u lR:Nat)(p0:List Int)(p1 x3:Int)(p2 x4:Int):Option (Int×Int×Bool):=match lR with
  | 0=>none
  | lR+1=>bif decide (x4 < p2) then (bq u p1 0 (gX .i64 (gX .i64 (p0.length:Int) 1) x4)).bind λr7=>bif !r7 then some (0,0,false) else (eS p0 (aV .i64 p1 x4)).bind λy8=>(fX (decide (0<=(js .i64 7 x4)))).bind λ_=>bif decide (pa .i64 y8 < 128) then bif x4 == 0 then some (u9 .i64 x3 (jt .i64 (gl .i64 (pa .i64 y8) 127) (js .i64 7 x4)),aV .i64 (aV .i64 p1 x4) 1,true) else some (u9 .i64 x3 (jt .i64 (gl .i64 (pa .i64 y8) 127) (js .i64 7 x4)),aV .i64 (aV .i64 p1 x4) 1,decide (pa .i64 y8 > 0)) else gW u lR p0 p1 (u9 .i64 x3 (jt .i64 (gl .i64 (pa .i64 y8) 127) (js .i64 7 x4))) p2 (aV .i64 x4 1) else uh u
def p7(u:Nat)(p0:List Int)(p1 p2:Int):Option (Int×Int×Bool):=
 gW u u p0 p1 0 p2 0
def Hj(u:Nat)(p0:List Int)(p1 p2 s:Int):Option (Int×Int×Bool):=uh u
def Hk(u:Nat)(p0:List Int)(p1 p2:Int)(i_:Nat)(s:Int)(k_:Int->Option (Int×Int×Bool)):Option (Int×Int×Bool):=(bq u p1 0 (gX .i64 (gX .i64 (p0.length:Int) 1) (i_:Int))).bind λr7=>bif !r7 then some (0,0,false) else (eS p0 (aV .i64 p1 (i_:Int))).bind λy8=>(fX (decide (0<=(js .i64 7 (i_:Int))))).bind λ_=>bif decide (pa .i64 y8 < 128) then bif (i_:Int) == 0 then some (u9 .i64 s (jt .i64 (gl .i64 (pa .i64 y8) 127) (js .i64 7 (i_:Int))),aV .i64 (aV .i64 p1 (i_:Int)) 1,true) else some (u9 .i64 s (jt .i64 (gl .i64 (pa .i64 y8) 127) (js .i64 7 (i_:Int))),aV .i64 (aV .i64 p1 (i_:Int)) 1,decide (pa .i64 y8 > 0)) else k_ (u9 .i64 s (jt .i64 (gl .i64 (pa .i64 y8) 127) (js .i64 7 (i_:Int))))
theorem UX(u:Nat)(p0:List Int)(p1 p2 s:Int)(k:Nat)(hn:(p2:Int)<=9223372036854775807)(hk:sY p2 < k):gW u k p0 p1 s p2 0=Pu.oU (Hj u p0 p1 p2) (Hk u p0 p1 p2) (sY p2) 0 s:=Pu.pA (λ(k:Nat) (s i:Int)=>gW u k p0 p1 s p2 i) hn (λ_ _ _=>rfl) s hk
def ry(u:Nat)(r1:Int×Int×Bool)(x2:Bool):Option (Int×Int×Bool):=
 bif x2 then some (0,0,false) else some (r1.1,r1.2.1,true)
def om(u:Nat)(p0:List Int)(p1:Int):Option (Int×Int×Bool):=
 (p7 u p0 p1 6).bind λr1=>bif !r1.2.2 then ry u r1 true else ry u r1 (decide (r1.1 > 1000000000000))
def pp(u:Nat)(x11:Int)(x12:List Int):Option ((List Int)×Int×Bool):=
 some (x12,x11,true)
def fp(u fZ:Nat)(p0:List Int)(x4:Int)(x5:List Int)(p2 x6:Int):Option ((List Int)×Int×Bool):=match fZ with
  | 0=>none
  | fZ+1=>bif decide (x6 < p2) then (om u p0 x4).bind λr10=>bif !r10.2.2 then some ([],0,false) else (fX (decide ((x5.length+([r10.1]:List Int).length)*8<=140737488355328))).bind λ_=>fp u fZ p0 r10.2.1 (x5++([r10.1]:List Int)) p2 (aV .i64 x6 1) else pp u x4 x5
def kK(u:Nat)(p0:List Int)(p1 p2:Int):Option ((List Int)×Int×Bool):=
 fp u u p0 p1 ([]:List Int) p2 0
def F5(u:Nat)(p0:List Int)(p2:Int)(s:Int×(List Int)):Option ((List Int)×Int×Bool):=pp u s.1 s.2
def F6(u:Nat)(p0:List Int)(p2:Int)(i_:Nat)(s:Int×(List Int))(k_:(Int×(List Int))->Option ((List Int)×Int×Bool)):Option ((List Int)×Int×Bool):=(om u p0 s.1).bind λr10=>bif !r10.2.2 then some ([],0,false) else (fX (decide ((s.2.length+([r10.1]:List Int).length)*8<=140737488355328))).bind λ_=>k_ (r10.2.1,s.2++([r10.1]:List Int))
theorem Tv(u:Nat)(p0:List Int)(p2:Int)(s:Int×(List Int))(k:Nat)(hn:(p2:Int)<=9223372036854775807)(hk:sY p2 < k):fp u k p0 s.1 s.2 p2 0=Pu.oU (F5 u p0 p2) (F6 u p0 p2) (sY p2) 0 s:=Pu.pA (λ(k:Nat) (s:Int×(List Int)) (i:Int)=>fp u k p0 s.1 s.2 p2 i) hn (λ_ _ _=>rfl) s hk
def rz(u:Nat)(x19 y2:Int)(y3 y4:Int)(x20:List cS):Option (af×Int×Bool):=
 (lZ u (af.mk y2 y3 y4 x20)).bind λr21=>bif !r21 then some ((af.mk 0 0 0 []),0,false) else some ((af.mk y2 y3 y4 x20),x19,true)
def nc(u:Nat)(Kd:List Int->Int->Int->Int->Int->Int->Int->List cS->Option (af×Int×Bool))(p0:List Int)(x9:Int)(r15:Int×Int×Bool)(r16:(List Int)×Bool)(r5 x10:Int)(x17:Bool)(y2 y3 y4:Int)(x11:List cS):Option (af×Int×Bool):=
 bif x17 then some ((af.mk 0 0 0 []),0,false) else (lY u r16.1).bind λr18=>(fX (decide ((x11.length+[r18].length)*16<=140737488355328))).bind λ_=>Kd p0 r15.2.1 r5 (aV .i64 x10 1) y2 y3 y4 (x11++[r18])
def eM(u eJ:Nat)(p0:List Int)(x9 r5:Int)(x10 y2:Int)(y3 y4:Int)(x11:List cS):Option (af×Int×Bool):=match eJ with
  | 0=>none
  | eJ+1=>bif decide (x10 < r5) then (p7 u p0 x9 8).bind λr15=>(n9 u r15.1).bind λr16=>bif !r15.2.2 then nc u (eM u eJ) p0 x9 r15 r16 r5 x10 true y2 y3 y4 x11 else nc u (eM u eJ) p0 x9 r15 r16 r5 x10 (!r16.2) y2 y3 y4 x11 else rz u x9 y2 y3 y4 x11
def rA(u:Nat)(p0:List Int)(p1:Int):Option (af×Int×Bool):=
 (kK u p0 p1 3).bind λr1=>bif !r1.2.2 then some ((af.mk 0 0 0 []),0,false) else (eS r1.1 0).bind λy2=>(eS r1.1 1).bind λy3=>(eS r1.1 2).bind λy4=>(mG u y3 y4).bind λr5=>eM u u p0 r1.2.1 r5 0 y2 y3 y4 []
def IW(u:Nat)(p0:List Int)(r5 y2:Int)(y3 y4:Int)(s:Int×(List cS)):Option (af×Int×Bool):=rz u s.1 y2 y3 y4 s.2
def IX(u:Nat)(p0:List Int)(r5 y2:Int)(y3 y4:Int)(i_:Nat)(s:Int×(List cS))(k_:(Int×(List cS))->Option (af×Int×Bool)):Option (af×Int×Bool):=(p7 u p0 s.1 8).bind λr15=>(n9 u r15.1).bind λr16=>bif !r15.2.2 then nc u (λz0 z1 z2 z3 z4 z5 z6 z7=>k_ (z1,z7)) p0 s.1 r15 r16 r5 (i_:Int) true y2 y3 y4 s.2 else nc u (λz0 z1 z2 z3 z4 z5 z6 z7=>k_ (z1,z7)) p0 s.1 r15 r16 r5 (i_:Int) (!r16.2) y2 y3 y4 s.2
theorem VF(u:Nat)(p0:List Int)(r5 y2:Int)(y3 y4:Int)(s:Int×(List cS))(k:Nat)(hn:(r5:Int)<=9223372036854775807)(hk:sY r5 < k):eM u k p0 s.1 r5 0 y2 y3 y4 s.2=Pu.oU (IW u p0 r5 y2 y3 y4) (IX u p0 r5 y2 y3 y4) (sY r5) 0 s:=Pu.pA (λ(k:Nat) (s:Int×(List cS)) (i:Int)=>eM u k p0 s.1 r5 i y2 y3 y4 s.2) hn (λ_ _ _=>rfl) s hk
def qu(u:Nat)(p0:List Int)(r1:Int×Int×Bool)(x2:Bool):Option ((List Int)×Int×Bool):=
 bif x2 then some ([],0,false) else (pW u p0 r1.2.1 r1.1).bind λr3=>bif !r3.2 then some ([],0,false) else some (r3.1,aV .i64 r1.2.1 r1.1,true)
def p8(u:Nat)(p0:List Int)(p1 p2:Int):Option ((List Int)×Int×Bool):=
 (om u p0 p1).bind λr1=>bif !r1.2.2 then qu u p0 r1 true else qu u p0 r1 (decide (r1.1 > p2))
def jZ(u:Nat)(x13:Bool)(p1 x14:Int)(x15 x16 x17:Int)(x18:List cS)(x19 x20 x21:Int)(x22:List Int):Option (j4×Bool):=
 some ((j4.mk p1 x14 (af.mk x15 x16 x17 x18) x19 x20 x21 x22),x13)
def fV(u:Nat)(p0:List Int)(p1 p2:Int):Option (j4×Bool):=
 bif p1 == 1 then (rA u p0 p2).bind λr1=>jZ u r1.2.2 p1 0 r1.1.aM r1.1.ar r1.1.aU r1.1.aG 0 0 0 [] else bif p1 == 2 then (kK u p0 p2 5).bind λr2=>bif !r2.2.2 then some ((j4.mk 0 0 (af.mk 0 0 0 []) 0 0 0 []),false) else (eS r2.1 0).bind λy3=>(eS r2.1 1).bind λy4=>(eS r2.1 2).bind λy5=>(eS r2.1 3).bind λy6=>(eS r2.1 4).bind λy7=>jZ u true p1 y3 0 0 0 [] (u9 .i64 y4 (jt .i64 y5 20)) (u9 .i64 y6 (jt .i64 y7 20)) 0 [] else bif p1 == 3 then (kK u p0 p2 2).bind λr8=>bif !r8.2.2 then some ((j4.mk 0 0 (af.mk 0 0 0 []) 0 0 0 []),false) else (eS r8.1 0).bind λy9=>(eS r8.1 1).bind λy10=>(p8 u p0 r8.2.1 6).bind λr11=>jZ u r11.2.2 p1 y9 0 0 0 [] 0 0 y10 r11.1 else bif p1 == 4 then (om u p0 p2).bind λr12=>jZ u r12.2.2 p1 r12.1 0 0 0 [] 0 0 0 [] else jZ u false p1 0 0 0 0 [] 0 0 0 []
def pq(u:Nat)(x7:Bool)(r3:j4×Bool):Option (j4×Bool):=
 bif x7 then some ((j4.mk 0 0 (af.mk 0 0 0 []) 0 0 0 []),false) else some (r3.1,true)
def rB(u:Nat)(p0:List Int)(r1:Int×Int×Bool)(x2:Bool):Option (j4×Bool):=
 bif x2 then some ((j4.mk 0 0 (af.mk 0 0 0 []) 0 0 0 []),false) else (fV u p0 r1.1 r1.2.1).bind λr3=>bif !r3.2 then pq u true r3 else (wR u r3.1).bind λr4=>bif !r4 then pq u true r3 else (pR u r3.1).bind λr5=>(rt u r5 p0).bind λr6=>pq u (!r6) r3
def oo(u:Nat)(p0:List Int):Option (j4×Bool):=
 (om u p0 0).bind λr1=>bif !r1.2.2 then rB u p0 r1 true else rB u p0 r1 (decide ((p0.length:Int) > 400))
def jN(u:Nat)(nB:List aq->Int->World->List aq->List di->Int->Option World)(p1:List aq)(x5:Int)(p0:World)(x18:List aq)(x19:List di)(x20:Int):Option World:=
 nB p1 (aV .i64 x5 1) p0 x18 x19 x20
def gq(u:Nat)(nB:List aq->Int->World->List aq->List di->Int->Option World)(p1:List aq)(x5:Int)(x17:Bool)(p0:World)(x6:List aq)(r14:aq)(x7:List di)(x8:Int)(y13:aq)(r16:j4×Bool):Option World:=
 bif x17 then (fX (decide ((x7.length+([(di.mk y13.gS y13.Ca r16.1.fI)]).length)*24<=140737488355328))).bind λ_=>jN u nB p1 x5 p0 (x6++[r14]) (x7++([(di.mk y13.gS y13.Ca r16.1.fI)])) x8 else jN u nB p1 x5 p0 (x6++[r14]) x7 x8
def cV(u dD:Nat)(p1:List aq)(x5:Int)(p0:World)(x6:List aq)(x7:List di)(x8:Int):Option World:=match dD with
  | 0=>none
  | dD+1=>bif decide (x5 < (p1.length:Int)) then (eS p1 x5).bind λy13=>bif decide ((x6.length:Int)>=400) then jN u (cV u dD) p1 x5 p0 x6 x7 (aV .i64 x8 1) else (ff u y13).bind λr14=>(fX (decide ((x6.length+[r14].length)*40<=140737488355328))).bind λ_=>(oo u y13.fB).bind λr16=>bif r16.2 then bif r16.1.bG == 3 then gq u (cV u dD) p1 x5 (decide ((x7.length:Int) < 3000)) p0 x6 r14 x7 x8 y13 r16 else gq u (cV u dD) p1 x5 false p0 x6 r14 x7 x8 y13 r16 else gq u (cV u dD) p1 x5 false p0 x6 r14 x7 x8 y13 r16 else some (World.mk p0.fC p0.fT p0.cG p0.ct p0.fN p0.fD x6 x7 x8)
def pr(u:Nat)(p0:World)(p1:List aq):Option World:=
 cV u u p1 0 p0 p0.cr p0.fO p0.cQ
def Dd(u:Nat)(p1:List aq)(p0:World)(s:(List aq)×(List di)×Int):Option World:=some (World.mk p0.fC p0.fT p0.cG p0.ct p0.fN p0.fD s.1 s.2.1 s.2.2)
def De(u:Nat)(p1:List aq)(p0:World)(y13:aq)(i_:Nat)(s:(List aq)×(List di)×Int)(k_:((List aq)×(List di)×Int)->Option World):Option World:=bif decide ((s.1.length:Int)>=400) then jN u (λz0 z1 z2 z3 z4 z5=>k_ (z3,z4,z5)) p1 (i_:Int) p0 s.1 s.2.1 (aV .i64 s.2.2 1) else (ff u y13).bind λr14=>(fX (decide ((s.1.length+[r14].length)*40<=140737488355328))).bind λ_=>(oo u y13.fB).bind λr16=>bif r16.2 then bif r16.1.bG == 3 then gq u (λz0 z1 z2 z3 z4 z5=>k_ (z3,z4,z5)) p1 (i_:Int) (decide ((s.2.1.length:Int) < 3000)) p0 s.1 r14 s.2.1 s.2.2 y13 r16 else gq u (λz0 z1 z2 z3 z4 z5=>k_ (z3,z4,z5)) p1 (i_:Int) false p0 s.1 r14 s.2.1 s.2.2 y13 r16 else gq u (λz0 z1 z2 z3 z4 z5=>k_ (z3,z4,z5)) p1 (i_:Int) false p0 s.1 r14 s.2.1 s.2.2 y13 r16
theorem RE(u:Nat)(p1:List aq)(p0:World)(s:(List aq)×(List di)×Int)(k:Nat)(hn:p1.length<=9223372036854775807)(hk:p1.length < k):cV u k p1 0 p0 s.1 s.2.1 s.2.2=Pu.cE (Dd u p1 p0) (De u p1 p0) p1 0 s:=Pu.dE (λ(k:Nat) (s:(List aq)×(List di)×Int) (i:Int)=>cV u k p1 i p0 s.1 s.2.1 s.2.2) hn (λ_ _ _=>rfl) s hk
def pt(u:Nat)(p0:World)(p1:Int):Option World:=
 (eS p0.fN p1).bind λy1=>(eS p0.fD p1).bind λy2=>(BE u p0.fT p0.fC p1 y1 y2).bind λr3=>(eS p0.fN p1).bind λy4=>(eS p0.fD p1).bind λy5=>(pr u (World.mk p0.fC p0.fT p0.cG p0.ct (p0.fN.set (sY p1) r3.fN) (p0.fD.set (sY p1) r3.fD) p0.cr p0.fO p0.cQ) r3.sQ).bind λr6=>some r6
def eD(u:Nat)(p0:List aq)(p1 p2:Int):Option (List aq):=
 bif decide (0<=p1) && decide (p1 < p2) && decide (p2<=p0.length) then some (p0.take p1.toNat++p0.drop p2.toNat) else none
def mT(u:Nat)(p0:World)(p1:Int):Option (aq×World):=
 (eS p0.cr p1).bind λy1=>(eD u p0.cr p1 (aV .i64 p1 1)).bind λr2=>some (y1,(World.mk p0.fC p0.fT p0.cG p0.ct p0.fN p0.fD r2 p0.fO p0.cQ))
def zf(u:Nat)(p0:Kid)(q0:Int):Option Bool:=
 some (p0.j7 == q0)
def d9(u:Nat)  : Option Int:=
 some (-1)
def bT(u bN:Nat)(p0:List Kid)(p1_0 x2:Int):Option Int:=match bN with
  | 0=>none
  | bN+1=>bif decide (x2 < (p0.length:Int)) then (eS p0 x2).bind λy4=>(zf u y4 p1_0).bind λr5=>bif r5 then some x2 else bT u bN p0 p1_0 (aV .i64 x2 1) else d9 u
def de(u:Nat)(p0:List Kid)(p1_0:Int):Option Int:=
 bT u u p0 p1_0 0
def lw(u:Nat)(p0:List Kid)(p1_0:Int)(s:Unit):Option Int:=d9 u
def lx(u:Nat)(p0:List Kid)(p1_0:Int)(y4:Kid)(i_:Nat)(s:Unit)(k_:Unit->Option Int):Option Int:=(zf u y4 p1_0).bind λr5=>bif r5 then some (i_:Int) else k_ ()
theorem ly(u:Nat)(p0:List Kid)(p1_0:Int)(s:Unit)(k:Nat)(hn:p0.length<=9223372036854775807)(hk:p0.length < k):bT u k p0 p1_0 0=Pu.cE (lw u p0 p1_0) (lx u p0 p1_0) p0 0 s:=Pu.dE (λ(k:Nat) (s:Unit) (i:Int)=>bT u k p0 p1_0 i) hn (λ_ _ _=>rfl) s hk
def uD(u:Nat)(p0:List Kid)(p1:Int):Option Int:=
 (de u p0 p1).bind λr1=>some r1
def AI(u:Nat)(p0:Kid)(q0:Int):Option Bool:=
 some (decide (p0.j7 > q0))
def eb(u:Nat)  : Option Int:=
 some (-1)
def bV(u bQ:Nat)(p0:List Kid)(p1_0 x2:Int):Option Int:=match bQ with
  | 0=>none
  | bQ+1=>bif decide (x2 < (p0.length:Int)) then (eS p0 x2).bind λy4=>(AI u y4 p1_0).bind λr5=>bif r5 then some x2 else bV u bQ p0 p1_0 (aV .i64 x2 1) else eb u
def cH(u:Nat)(p0:List Kid)(p1_0:Int):Option Int:=
 bV u u p0 p1_0 0
def l7(u:Nat)(p0:List Kid)(p1_0:Int)(s:Unit):Option Int:=eb u
def l8(u:Nat)(p0:List Kid)(p1_0:Int)(y4:Kid)(i_:Nat)(s:Unit)(k_:Unit->Option Int):Option Int:=(AI u y4 p1_0).bind λr5=>bif r5 then some (i_:Int) else k_ ()
theorem l9(u:Nat)(p0:List Kid)(p1_0:Int)(s:Unit)(k:Nat)(hn:p0.length<=9223372036854775807)(hk:p0.length < k):bV u k p0 p1_0 0=Pu.cE (l7 u p0 p1_0) (l8 u p0 p1_0) p0 0 s:=Pu.dE (λ(k:Nat) (s:Unit) (i:Int)=>bV u k p0 p1_0 i) hn (λ_ _ _=>rfl) s hk
def gk(u:Nat)(p0:List Kid)(p1:Int)(p2:List Kid):Option (List Kid):=
 bif decide (0<=p1) && decide (p1<=p0.length) && decide (p2.length=1) && decide ((p0.length+p2.length)*40<=140737488355328) then some (p0.take p1.toNat++p2++p0.drop p1.toNat) else none
def vM(u:Nat)(p2 p3:Int)(x10:List Kid)(x11:Int):Option (List Kid):=
 (eS x10 x11).bind λy12=>some (((x10.set (sY x11) (Kid.mk y12.j7 p2 y12.bR y12.sR y12.kF)).set (sY x11) (Kid.mk y12.j7 p2 y12.bR 0 y12.kF)).set (sY x11) (Kid.mk y12.j7 p2 (u9 .i64 y12.bR p3) 0 y12.kF))
def vN(u:Nat)(p2 p3 p1:Int)(r1:List Kid)(x8:Int):Option (List Kid):=
 (gk u r1 x8 [(Kid.mk p1 0 0 0 0)]).bind λr9=>vM u p2 p3 r9 x8
def vO(u:Nat)(p0:List Kid)(p2 p3:Int)(r1:List Kid)(x5:Bool)(p1:Int):Option (List Kid):=
 bif x5 then some r1 else (uD u p0 p1).bind λr6=>bif decide (r6 < 0) then (cH u p0 p1).bind λr7=>bif decide (r7 < 0) then vN u p2 p3 p1 r1 (p0.length:Int) else vN u p2 p3 p1 r1 r7 else vM u p2 p3 r1 r6
def BF(u:Nat)(p0:List Kid)(p1 p2 p3:Int):Option (List Kid):=
 (cM u p0).bind λr1=>(wO u p1).bind λr2=>bif !r2 then vO u p0 p2 p3 r1 true p1 else (dS u p2).bind λr3=>bif !r3 then vO u p0 p2 p3 r1 true p1 else (dS u p3).bind λr4=>vO u p0 p2 p3 r1 (!r4) p1
def rC(u:Nat)(p0:aD):Option Int:=
 some p0.bw.bj
def pu(u:Nat)(p0:List Kid)(p2 r1:Int)(x7:Bool):Option Int:=
 bif x7 then some 0 else (eS p0 r1).bind λy8=>(eS p0 r1).bind λy9=>some (wd .i64 (gl .i64 y8.bZ p2) y9.kF)
def rD(u:Nat)(p0:List Kid)(p1 p2:Int):Option Int:=
 (uD u p0 p1).bind λr1=>bif decide (r1 < 0) then pu u p0 p2 r1 true else (dS u p2).bind λr2=>bif !r2 then pu u p0 p2 r1 true else (eS p0 r1).bind λy3=>(dS u y3.bZ).bind λr4=>bif !r4 then pu u p0 p2 r1 true else (eS p0 r1).bind λy5=>(dS u y5.kF).bind λr6=>pu u p0 p2 r1 (!r6)
def ui(u:Nat)(p2:Int)(x3:Bool)(p0:af)(p1:aY):Option ((List Int)×Bool):=
 bif x3 then some ([],false) else (jA u p1 p0 p2).bind λr4=>(dR u r4).bind λr5=>some (r5,true)
def p9(u:Nat)(p0:af)(p1:aY)(p2:Int):Option ((List Int)×Bool):=
 (oe u p0 p1).bind λr1=>bif !r1 then ui u p2 true p0 p1 else (gz u p1.bj p2).bind λr2=>ui u p2 (!r2) p0 p1
def oq(u:Nat)(p0 p1:Int)(p2:List Int):Option j4:=
 (dR u p2).bind λr1=>some (j4.mk 3 p0 (af.mk 0 0 0 []) 0 0 p1 r1)
def pv(u:Nat)(x9:List Kid):Option (List Kid):=
 some x9
def mU(u:Nat)(p2:Int)(r1:List Kid)(r2:Int)(x6:Bool):Option (List Kid):=
 bif x6 then (eS r1 r2).bind λy7=>(eS r1 r2).bind λy8=>pv u (r1.set (sY r2) (Kid.mk y8.j7 y8.bZ y8.bR y8.sR (u9 .i64 y7.kF p2))) else pv u r1
def kL(u:Nat)(p0:List Kid)(p1 p2:Int):Option (List Kid):=
 (cM u p0).bind λr1=>(uD u p0 p1).bind λr2=>bif decide (r2>=0) then (dS u p2).bind λr3=>bif r3 then (eS p0 r2).bind λy4=>(dS u y4.kF).bind λr5=>mU u p2 r1 r2 r5 else mU u p2 r1 r2 false else mU u p2 r1 r2 false
def q5(u:Nat)(p2 r3:Int)(p0 r1:aD)(x16:List aq):Option Act:=
 (kL u p0.aX p2 r3).bind λr17=>some (Act.mk (aD.mk r1.lu r1.bY r1.bM r1.aB r1.bw r1.aR r17 r1.bE) x16)
def lH(u:Nat)(Fq:Int->Int->Int->List Int->Int->aD->aD->List aq->Option Act)(p1 p2 r3:Int)(r4:List Int)(x7:Int)(p0 r1:aD)(x15:List aq):Option Act:=
 Fq p1 p2 r3 r4 (aV .i64 x7 1) p0 r1 x15
def iq(u gv:Nat)(p1 p2 r3:Int)(r4:List Int)(x7:Int)(p0 r1:aD)(x8:List aq):Option Act:=match gv with
  | 0=>none
  | gv+1=>bif decide (x7 < (r4.length:Int)) then (eS r4 x7).bind λy11=>(p9 u p0.aB p0.bw y11).bind λr12=>bif r12.2 then (oq u p0.aB.aM y11 r12.1).bind λr13=>(gV u p1 p2 r13).bind λr14=>(fX (decide ((x8.length+[r14].length)*40<=140737488355328))).bind λ_=>lH u (iq u gv) p1 p2 r3 r4 x7 p0 r1 (x8++[r14]) else lH u (iq u gv) p1 p2 r3 r4 x7 p0 r1 x8 else q5 u p2 r3 p0 r1 x8
def rE(u:Nat)(p0:aD)(p1 p2:Int):Option Act:=
 (eB u p0).bind λr1=>(rC u p0).bind λr2=>(rD u p0.aX p2 r2).bind λr3=>(oh u r3).bind λr4=>iq u u p1 p2 r3 r4 0 p0 r1 []
def yT(u:Nat)(p1 p2 r3:Int)(r4:List Int)(p0 r1:aD)(s:List aq):Option Act:=q5 u p2 r3 p0 r1 s
def yU(u:Nat)(p1 p2 r3:Int)(r4:List Int)(p0 r1:aD)(y11:Int)(i_:Nat)(s:List aq)(k_:List aq->Option Act):Option Act:=(p9 u p0.aB p0.bw y11).bind λr12=>bif r12.2 then (oq u p0.aB.aM y11 r12.1).bind λr13=>(gV u p1 p2 r13).bind λr14=>(fX (decide ((s.length+[r14].length)*40<=140737488355328))).bind λ_=>lH u (λz0 z1 z2 z3 z4 z5 z6 z7=>k_ z7) p1 p2 r3 r4 (i_:Int) p0 r1 (s++[r14]) else lH u (λz0 z1 z2 z3 z4 z5 z6 z7=>k_ z7) p1 p2 r3 r4 (i_:Int) p0 r1 s
theorem Fb(u:Nat)(p1 p2 r3:Int)(r4:List Int)(p0 r1:aD)(s:List aq)(k:Nat)(hn:r4.length<=9223372036854775807)(hk:r4.length < k):iq u k p1 p2 r3 r4 0 p0 r1 s=Pu.cE (yT u p1 p2 r3 r4 p0 r1) (yU u p1 p2 r3 r4 p0 r1) r4 0 s:=Pu.dE (λ(k:Nat) (s:List aq) (i:Int)=>iq u k p1 p2 r3 r4 i p0 r1 s) hn (λ_ _ _=>rfl) s hk
def ng(u:Nat)(p1 p2:Int)(x4:Bool)(x5 x6:Int)(x7 x8 x9:Int)(x10:List cS)(x11:Int)(x12:List Int)(x13:Int)(x14:List Kid)(x15:Int)(x16:List aq)(x17 x18:Int)(x19 x20 x21:Int)(x22:List cS):Option Act:=
 (gV u p1 p2 (j4.mk x17 x18 (af.mk x19 x20 x21 x22) 0 0 0 [])).bind λr23=>some (Act.mk (aD.mk x4 x5 x6 (af.mk x7 x8 x9 x10) (aY.mk x11 x12) x13 x14 x15) [r23])
def qv(u:Nat)(p0:aD)(p1 p2:Int)(p3:j4):Option Act:=
 (eB u p0).bind λr1=>bif p2 == p1 then some (Act.mk r1 []) else (BF u p0.aX p2 p3.bZ p3.bR).bind λr2=>bif p0.aR == 0 then ng u p1 p2 r1.lu r1.bY r1.bM r1.aB.aM r1.aB.ar r1.aB.aU r1.aB.aG r1.bw.bj r1.bw.cu r1.aR r2 r1.bE [] 4 0 0 0 0 [] else bif p3.aM != p0.aB.aM then ng u p1 p2 r1.lu r1.bY r1.bM r1.aB.aM r1.aB.ar r1.aB.aU r1.aB.aG r1.bw.bj r1.bw.cu r1.aR r2 r1.bE [] 1 0 p0.aB.aM p0.aB.ar p0.aB.aU p0.aB.aG else (rE u (aD.mk r1.lu r1.bY r1.bM r1.aB r1.bw r1.aR r2 r1.bE) p1 p2).bind λr3=>bif decide ((r3.sQ.length:Int) > 0) then some r3 else ng u p1 p2 r3.fN.lu r3.fN.bY r3.fN.bM r3.fN.aB.aM r3.fN.aB.ar r3.fN.aB.aU r3.fN.aB.aG r3.fN.bw.bj r3.fN.bw.cu r3.fN.aR r3.fN.aX r3.fN.bE r3.sQ 4 p0.aB.aM 0 0 0 []
def rF(u:Nat)(p0:aA)(p1:af):Option Bool:=
 (p5 u p0).bind λr1=>bif r1.1 == p1.aM then (wM u p1 r1.2).bind λr2=>some r2 else some false
def ma(u:Nat)(r1:aD)(x9 x10 x11:Int)(x12:List cS)(x13:Int)(x14:List Int)(x15 x16:Int):Option aD:=
 some (aD.mk r1.lu r1.bY r1.bM (af.mk x9 x10 x11 x12) (aY.mk x13 x14) x15 r1.aX x16)
def uj(u:Nat)(x4:Bool)(p1:aA)(p2:af)(r1:aD):Option aD:=
 bif x4 then (p5 u p1).bind λr5=>(mz u p2).bind λr6=>(pb u p2 r5.2).bind λr7=>(rF u p1 p2).bind λr8=>bif r8 then ma u r1 r6.aM r6.ar r6.aU r6.aG r7.bj r7.cu 5 r1.bE else ma u r1 r6.aM r6.ar r6.aU r6.aG r7.bj r7.cu 1 r1.bE else ma u r1 r1.aB.aM r1.aB.ar r1.aB.aU r1.aB.aG r1.bw.bj r1.bw.cu r1.aR r1.bE
def vP(u:Nat)(p0:aD)(p1:aA)(p2:af):Option aD:=
 (eB u p0).bind λr1=>bif p0.aR != 0 then (pZ u p2 p0.aB).bind λr2=>bif !r2 then ma u r1 r1.aB.aM r1.aB.ar r1.aB.aU r1.aB.aG r1.bw.bj r1.bw.cu r1.aR (aV .i64 r1.bE 1) else ma u r1 r1.aB.aM r1.aB.ar r1.aB.aU r1.aB.aG r1.bw.bj r1.bw.cu r1.aR r1.bE else (lZ u p2).bind λr3=>bif r3 then uj u (p2.aM != 0) p1 p2 r1 else uj u false p1 p2 r1
def mV(u:Nat)(p2:Int)(p3:List Int)(x7:Bool)(r1:aY)(p0:af):Option (aY×Bool):=
 bif x7 then some (r1,false) else (l5 u r1 p0 p2 p3).bind λr8=>some (r8,true)
def tF(u:Nat)(p0:af)(p1:aY)(p2:Int)(p3:List Int):Option (aY×Bool):=
 (kY u p1).bind λr1=>(oe u p0 p1).bind λr2=>bif !r2 then mV u p2 p3 true r1 p0 else (bq u p2 0 (gX .i64 (p0.aG.length:Int) 1)).bind λr3=>bif !r3 then mV u p2 p3 true r1 p0 else (gz u p1.bj p2).bind λr4=>bif r4 then mV u p2 p3 true r1 p0 else (lY u p3).bind λr5=>(eS p0.aG p2).bind λy6=>mV u p2 p3 (!([r5.fW,r5.fS] == [y6.fW,y6.fS])) r1 p0
def yq(u:Nat)(r1:aD)(x23:List Kid)(x24:List aq):Option Act:=
 some (Act.mk (aD.mk r1.lu r1.bY r1.bM r1.aB r1.bw r1.aR x23 r1.bE) x24)
def nT(u:Nat)(ID:Int->Int->((List Int)×Bool)->aD->Int->aD->List Kid->List aq->Option Act)(p1 p2:Int)(r2:(List Int)×Bool)(p0:aD)(x6:Int)(r1:aD)(x21:List Kid)(x22:List aq):Option Act:=
 ID p1 p2 r2 p0 (aV .i64 x6 1) r1 x21 x22
def j0(u iv:Nat)(p1 p2:Int)(r2:(List Int)×Bool)(p0:aD)(x6:Int)(r1:aD)(x7:List Kid)(x8:List aq):Option Act:=match iv with
  | 0=>none
  | iv+1=>bif decide (x6 < (p0.aX.length:Int)) then (eS p0.aX x6).bind λy12=>(rC u p0).bind λr13=>(rD u x7 y12.j7 r13).bind λr14=>(gz u r14 p2).bind λr15=>bif r15 then (oq u p0.aB.aM p2 r2.1).bind λr16=>(gV u p1 y12.j7 r16).bind λr17=>(fX (decide ((x8.length+[r17].length)*40<=140737488355328))).bind λ_=>(fX (decide (0<=p2))).bind λ_=>(kL u x7 y12.j7 (jt .i64 1 p2)).bind λr20=>nT u (j0 u iv) p1 p2 r2 p0 x6 r1 r20 (x8++[r17]) else nT u (j0 u iv) p1 p2 r2 p0 x6 r1 x7 x8 else yq u r1 x7 x8
def vQ(u:Nat)(p0:aD)(p1 p2:Int):Option Act:=
 (eB u p0).bind λr1=>(p9 u p0.aB p0.bw p2).bind λr2=>bif !r2.2 then some (Act.mk r1 []) else j0 u u p1 p2 r2 p0 0 r1 r1.aX []
def Hl(u:Nat)(p1 p2:Int)(r2:(List Int)×Bool)(p0 r1:aD)(s:(List Kid)×(List aq)):Option Act:=yq u r1 s.1 s.2
def AJ(u:Nat)(p1 p2:Int)(r2:(List Int)×Bool)(p0 r1:aD)(y12:Kid)(i_:Nat)(s:(List Kid)×(List aq))(k_:((List Kid)×(List aq))->Option Act):Option Act:=(rC u p0).bind λr13=>(rD u s.1 y12.j7 r13).bind λr14=>(gz u r14 p2).bind λr15=>bif r15 then (oq u p0.aB.aM p2 r2.1).bind λr16=>(gV u p1 y12.j7 r16).bind λr17=>(fX (decide ((s.2.length+[r17].length)*40<=140737488355328))).bind λ_=>(fX (decide (0<=p2))).bind λ_=>(kL u s.1 y12.j7 (jt .i64 1 p2)).bind λr20=>nT u (λz0 z1 z2 z3 z4 z5 z6 z7=>k_ (z6,z7)) p1 p2 r2 p0 (i_:Int) r1 r20 (s.2++[r17]) else nT u (λz0 z1 z2 z3 z4 z5 z6 z7=>k_ (z6,z7)) p1 p2 r2 p0 (i_:Int) r1 s.1 s.2
theorem Hm(u:Nat)(p1 p2:Int)(r2:(List Int)×Bool)(p0 r1:aD)(s:(List Kid)×(List aq))(k:Nat)(hn:p0.aX.length<=9223372036854775807)(hk:p0.aX.length < k):j0 u k p1 p2 r2 p0 0 r1 s.1 s.2=Pu.cE (Hl u p1 p2 r2 p0 r1) (AJ u p1 p2 r2 p0 r1) p0.aX 0 s:=Pu.dE (λ(k:Nat) (s:(List Kid)×(List aq)) (i:Int)=>j0 u k p1 p2 r2 p0 i r1 s.1 s.2) hn (λ_ _ _=>rfl) s hk
def su(u:Nat)(p1:Int)(x2:Bool)(p0:aD)(p2:j4)(r1:aD):Option Act:=
 bif x2 then some (Act.mk (aD.mk r1.lu r1.bY r1.bM r1.aB r1.bw r1.aR r1.aX (aV .i64 r1.bE 1)) []) else (gz u p0.bw.bj p2.fI).bind λr3=>bif r3 then some (Act.mk r1 []) else (tF u p0.aB p0.bw p2.fI p2.fB).bind λr4=>bif !r4.2 then some (Act.mk (aD.mk r1.lu r1.bY r1.bM r1.aB r1.bw r1.aR r1.aX (aV .i64 r1.bE 1)) []) else (vQ u (aD.mk r1.lu r1.bY r1.bM r1.aB r4.1 r1.aR r1.aX r1.bE) p1 p2.fI).bind λr5=>some r5
def tG(u:Nat)(p0:aD)(p1:Int)(p2:j4):Option Act:=
 (eB u p0).bind λr1=>bif p0.aR == 0 then su u p1 true p0 p2 r1 else su u p1 (p2.aM != p0.aB.aM) p0 p2 r1
def sv(u:Nat)(r1:aD)(x4:Int):Option Act:=
 some (Act.mk (aD.mk r1.lu r1.bY 0 r1.aB r1.bw r1.aR r1.aX x4) [])
def tH(u:Nat)(p0:aD)(p1:Int)(p2:aA)(p3:j4):Option Act:=
 (eB u p0).bind λr1=>bif p3.bG == 1 then (vP u (aD.mk r1.lu r1.bY 0 r1.aB r1.bw r1.aR r1.aX r1.bE) p2 p3.aB).bind λr2=>some (Act.mk r2 []) else bif p3.bG == 3 then (tG u (aD.mk r1.lu r1.bY 0 r1.aB r1.bw r1.aR r1.aX r1.bE) p1 p3).bind λr3=>some r3 else bif p3.bG == 2 then sv u r1 (aV .i64 r1.bE 1) else sv u r1 r1.bE
def vR(u:Nat)(p1:Int)(x4:Bool)(p2:aD)(p3:aA)(p4:aq)(r1:aD)(r2:j4×Bool):Option Act:=
 bif x4 then some (Act.mk (aD.mk r1.lu r1.bY r1.bM r1.aB r1.bw r1.aR r1.aX (aV .i64 r1.bE 1)) []) else bif r2.1.bG == 2 then (qv u p2 p1 p4.gS r2.1).bind λr5=>some r5 else bif p4.gS == p2.bY then (tH u p2 p1 p3 r2.1).bind λr6=>some r6 else some (Act.mk (aD.mk r1.lu r1.bY r1.bM r1.aB r1.bw r1.aR r1.aX (aV .i64 r1.bE 1)) [])
def BG(u:Nat)(p0:bl)(p1:Int)(p2:aD)(p3:aA)(p4:aq):Option Act:=
 (eB u p2).bind λr1=>bif !p2.lu then some (Act.mk r1 []) else (oo u p4.fB).bind λr2=>bif !r2.2 then vR u p1 true p2 p3 p4 r1 r2 else (db u p0 p4.gS).bind λr3=>bif !r3 then vR u p1 true p2 p3 p4 r1 r2 else vR u p1 (p4.gS == p1) p2 p3 p4 r1 r2
def mW(u:Nat)(p0:World)(p1:Int):Option World:=
 (mT u p0 p1).bind λr1=>(eS r1.2.fN r1.1.Ca).bind λy2=>(eS r1.2.fD r1.1.Ca).bind λy3=>(BG u r1.2.fT r1.1.Ca y2 y3 r1.1).bind λr4=>(eS r1.2.fN r1.1.Ca).bind λy5=>(pr u (World.mk r1.2.fC r1.2.fT r1.2.cG r1.2.ct (r1.2.fN.set (sY r1.1.Ca) r4.fN) r1.2.fD r1.2.cr r1.2.fO r1.2.cQ) r4.sQ).bind λr6=>some r6
def Be(u:Nat)(p0:aD):Option aD:=
 some (aD.mk false 0 0 (af.mk 0 0 0 []) (aY.mk 0 []) 0 [] 0)
def AK(u:Nat)(p0 q0:Int):Option Bool:=
 (gz u q0 p0).bind λr1=>some r1
def iW(u:Nat)(x33 x34:List Int)(x35 x36 x37:Int)(x38:List ej):Option aA:=
 some (aA.mk x33 x34 (gy.mk x35 x36 x37) [])
def ey(u:Nat)(te:Int->aA->Int->List Int->List Int->Int->Int->Int->List ej->Option aA)(p1_0:Int)(p0:aA)(x10:Int)(x27 x28:List Int)(x29 x30 x31:Int)(x32:List ej):Option aA:=
 te p1_0 p0 (aV .i64 x10 1) x27 x28 x29 x30 x31 x32
def cF(u co:Nat)(p1_0:Int)(p0:aA)(x10:Int)(x11 x12:List Int)(x13 x14 x15:Int)(x16:List ej):Option aA:=match co with
  | 0=>none
  | co+1=>bif decide (x10 < (p0.fP.length:Int)) then (eS p0.fP x10).bind λy24=>(AK u x10 p1_0).bind λr25=>bif r25 then (gL u (aA.mk x11 x12 (gy.mk x13 x14 x15) x16) y24).bind λr26=>ey u (cF u co) p1_0 p0 x10 r26.fA r26.fB r26.fR.aM r26.fR.dj r26.fR.aU r26.fP else ey u (cF u co) p1_0 p0 x10 x11 x12 x13 x14 x15 x16 else iW u x11 x12 x13 x14 x15 x16
def j5(u:Nat)(p0:aA)(p1_0:Int):Option aA:=
 (dM u p0).bind λr1=>(k9 u p0).bind λr2=>bif !r2 then some r1 else cF u u p1_0 p0 0 r1.fA r1.fB r1.fR.aM r1.fR.dj r1.fR.aU r1.fP
def s5(u:Nat)(p1_0:Int)(p0:aA)(s:(List Int)×(List Int)×Int×Int×Int×(List ej)):Option aA:=iW u s.1 s.2.1 s.2.2.1 s.2.2.2.1 s.2.2.2.2.1 s.2.2.2.2.2
def s6(u:Nat)(p1_0:Int)(p0:aA)(y24:ej)(i_:Nat)(s:(List Int)×(List Int)×Int×Int×Int×(List ej))(k_:((List Int)×(List Int)×Int×Int×Int×(List ej))->Option aA):Option aA:=(AK u (i_:Int) p1_0).bind λr25=>bif r25 then (gL u (aA.mk s.1 s.2.1 (gy.mk s.2.2.1 s.2.2.2.1 s.2.2.2.2.1) s.2.2.2.2.2) y24).bind λr26=>ey u (λz0 z1 z2 z3 z4 z5 z6 z7 z8=>k_ (z3,z4,z5,z6,z7,z8)) p1_0 p0 (i_:Int) r26.fA r26.fB r26.fR.aM r26.fR.dj r26.fR.aU r26.fP else ey u (λz0 z1 z2 z3 z4 z5 z6 z7 z8=>k_ (z3,z4,z5,z6,z7,z8)) p1_0 p0 (i_:Int) s.1 s.2.1 s.2.2.1 s.2.2.2.1 s.2.2.2.2.1 s.2.2.2.2.2
theorem Fc(u:Nat)(p1_0:Int)(p0:aA)(s:(List Int)×(List Int)×Int×Int×Int×(List ej))(k:Nat)(hn:p0.fP.length<=9223372036854775807)(hk:p0.fP.length < k):cF u k p1_0 p0 0 s.1 s.2.1 s.2.2.1 s.2.2.2.1 s.2.2.2.2.1 s.2.2.2.2.2=Pu.cE (s5 u p1_0 p0) (s6 u p1_0 p0) p0.fP 0 s:=Pu.dE (λ(k:Nat) (s:(List Int)×(List Int)×Int×Int×Int×(List ej)) (i:Int)=>cF u k p1_0 p0 i s.1 s.2.1 s.2.2.1 s.2.2.2.1 s.2.2.2.2.1 s.2.2.2.2.2) hn (λ_ _ _=>rfl) s hk
def IY(u:Nat)(p0:aA)(p1:Int):Option aA:=
 (j5 u p0 p1).bind λr1=>some r1
def IZ(u:Nat)(p0:aA)(p1:Int):Option aA:=
 (IY u p0 p1).bind λr1=>some r1
def gD(u:Nat)(x17 x18:Int)(x19 x20:Int)(x21 x22:List Int)(x23:List aL)(x24:List aD)(x25:List aA)(x26:List aq)(x27:List di)(x28:Int):Option (Bool×World):=
 some (true,(World.mk (dV.mk x17 x18 x19 x20) (bl.mk x21) x22 x23 x24 x25 x26 x27 x28))
def gf(u:Nat)(p0:World)(p1:wC):Option (Bool×World):=
 (jB u p0 p1).bind λr1=>bif !r1 then some (false,p0) else bif p1.bG == 1 then (pt u p0 p1.fN).bind λr2=>gD u r2.fC.ar r2.fC.ba r2.fC.aW r2.fC.aZ r2.fT.bC r2.cG r2.ct r2.fN r2.fD r2.cr r2.fO r2.cQ else bif p1.bG == 2 then (mW u p0 p1.fN).bind λr3=>gD u r3.fC.ar r3.fC.ba r3.fC.aW r3.fC.aZ r3.fT.bC r3.cG r3.ct r3.fN r3.fD r3.cr r3.fO r3.cQ else bif p1.bG == 3 then (mT u p0 p1.fN).bind λr4=>gD u r4.2.fC.ar r4.2.fC.ba r4.2.fC.aW r4.2.fC.aZ r4.2.fT.bC r4.2.cG r4.2.ct r4.2.fN r4.2.fD r4.2.cr r4.2.fO (aV .i64 r4.2.cQ 1) else bif p1.bG == 4 then (eS p0.cr p1.fN).bind λy5=>(ff u y5).bind λr6=>(fX (decide ((p0.cr.length+[r6].length)*40<=140737488355328))).bind λ_=>gD u p0.fC.ar p0.fC.ba p0.fC.aW p0.fC.aZ p0.fT.bC p0.cG p0.ct p0.fN p0.fD (p0.cr++[r6]) p0.fO p0.cQ else bif p1.bG == 5 then (eS p0.fN p1.fN).bind λy8=>(Be u y8).bind λr9=>(eS p0.fN p1.fN).bind λy10=>(eS p0.fD p1.fN).bind λy11=>(IZ u y11 p1.fS).bind λr12=>(eS p0.fD p1.fN).bind λy13=>gD u p0.fC.ar p0.fC.ba p0.fC.aW p0.fC.aZ p0.fT.bC p0.cG p0.ct (p0.fN.set (sY p1.fN) r9) (p0.fD.set (sY p1.fN) r12) p0.cr p0.fO p0.cQ else bif p1.bG == 6 then (oJ u p0.fT p1.fN).bind λr14=>(eS p0.fN p1.fN).bind λy15=>gD u p0.fC.ar p0.fC.ba p0.fC.aW p0.fC.aZ p0.fT.bC p0.cG p0.ct (p0.fN.set (sY p1.fN) r14) p0.fD p0.cr p0.fO p0.cQ else bif p1.bG == 7 then (ff u p1.fP).bind λr16=>(fX (decide ((p0.cr.length+[r16].length)*40<=140737488355328))).bind λ_=>gD u p0.fC.ar p0.fC.ba p0.fC.aW p0.fC.aZ p0.fT.bC p0.cG p0.ct p0.fN p0.fD (p0.cr++[r16]) p0.fO p0.cQ else gD u p0.fC.ar p0.fC.ba p0.fC.aW p0.fC.aZ p0.fT.bC p0.cG p0.ct p0.fN p0.fD p0.cr p0.fO p0.cQ
def ed(u gp:Nat)(p1 x14:Int)(x15 x16:Int)(x17 x18:Int)(x19 x20:List Int)(x21:List aL)(x22:List aD)(x23:List aA)(x24:List aq)(x25:List di)(x26:Int):Option World:=match gp with
  | 0=>none
  | gp+1=>bif decide (x14 < p1) then (gf u (World.mk (dV.mk x15 x16 x17 x18) (bl.mk x19) x20 x21 x22 x23 x24 x25 x26) (wC.mk 2 0 0 (aq.mk 0 0 []))).bind λr40=>bif !r40.1 then some r40.2 else ed u gp p1 (aV .i64 x14 1) r40.2.fC.ar r40.2.fC.ba r40.2.fC.aW r40.2.fC.aZ r40.2.fT.bC r40.2.cG r40.2.ct r40.2.fN r40.2.fD r40.2.cr r40.2.fO r40.2.cQ else some (World.mk (dV.mk x15 x16 x17 x18) (bl.mk x19) x20 x21 x22 x23 x24 x25 x26)
def oX(u:Nat)(p0:World)(p1:Int):Option World:=
 ed u u p1 0 p0.fC.ar p0.fC.ba p0.fC.aW p0.fC.aZ p0.fT.bC p0.cG p0.ct p0.fN p0.fD p0.cr p0.fO p0.cQ
def Bf(u:Nat)(p1:Int)(s:Int×Int×Int×Int×(List Int)×(List Int)×(List aL)×(List aD)×(List aA)×(List aq)×(List di)×Int):Option World:=some (World.mk (dV.mk s.1 s.2.1 s.2.2.1 s.2.2.2.1) (bl.mk s.2.2.2.2.1) s.2.2.2.2.2.1 s.2.2.2.2.2.2.1 s.2.2.2.2.2.2.2.1 s.2.2.2.2.2.2.2.2.1 s.2.2.2.2.2.2.2.2.2.1 s.2.2.2.2.2.2.2.2.2.2.1 s.2.2.2.2.2.2.2.2.2.2.2)
def Bg(u:Nat)(p1:Int)(i_:Nat)(s:Int×Int×Int×Int×(List Int)×(List Int)×(List aL)×(List aD)×(List aA)×(List aq)×(List di)×Int)(k_:(Int×Int×Int×Int×(List Int)×(List Int)×(List aL)×(List aD)×(List aA)×(List aq)×(List di)×Int)->Option World):Option World:=(gf u (World.mk (dV.mk s.1 s.2.1 s.2.2.1 s.2.2.2.1) (bl.mk s.2.2.2.2.1) s.2.2.2.2.2.1 s.2.2.2.2.2.2.1 s.2.2.2.2.2.2.2.1 s.2.2.2.2.2.2.2.2.1 s.2.2.2.2.2.2.2.2.2.1 s.2.2.2.2.2.2.2.2.2.2.1 s.2.2.2.2.2.2.2.2.2.2.2) (wC.mk 2 0 0 (aq.mk 0 0 []))).bind λr40=>bif !r40.1 then some r40.2 else k_ (r40.2.fC.ar,r40.2.fC.ba,r40.2.fC.aW,r40.2.fC.aZ,r40.2.fT.bC,r40.2.cG,r40.2.ct,r40.2.fN,r40.2.fD,r40.2.cr,r40.2.fO,r40.2.cQ)
theorem OB(u:Nat)(p1:Int)(s:Int×Int×Int×Int×(List Int)×(List Int)×(List aL)×(List aD)×(List aA)×(List aq)×(List di)×Int)(k:Nat)(hn:(p1:Int)<=9223372036854775807)(hk:sY p1 < k):ed u k p1 0 s.1 s.2.1 s.2.2.1 s.2.2.2.1 s.2.2.2.2.1 s.2.2.2.2.2.1 s.2.2.2.2.2.2.1 s.2.2.2.2.2.2.2.1 s.2.2.2.2.2.2.2.2.1 s.2.2.2.2.2.2.2.2.2.1 s.2.2.2.2.2.2.2.2.2.2.1 s.2.2.2.2.2.2.2.2.2.2.2=Pu.oU (Bf u p1) (Bg u p1) (sY p1) 0 s:=Pu.pA (λ(k:Nat) (s:Int×Int×Int×Int×(List Int)×(List Int)×(List aL)×(List aD)×(List aA)×(List aq)×(List di)×Int) (i:Int)=>ed u k p1 i s.1 s.2.1 s.2.2.1 s.2.2.2.1 s.2.2.2.2.1 s.2.2.2.2.2.1 s.2.2.2.2.2.2.1 s.2.2.2.2.2.2.2.1 s.2.2.2.2.2.2.2.2.1 s.2.2.2.2.2.2.2.2.2.1 s.2.2.2.2.2.2.2.2.2.2.1 s.2.2.2.2.2.2.2.2.2.2.2) hn (λ_ _ _=>rfl) s hk
def ot(u:Nat)(x41 x42:Int)(x43 x44:Int)(x45 x46:List Int)(x47:List aL)(x48:List aD)(x49:List aA)(x50:List aq)(x51:List di)(x52:Int):Option World:=
 (oX u (World.mk (dV.mk x41 x42 x43 x44) (bl.mk x45) x46 x47 x48 x49 x50 x51 x52) 6000).bind λr53=>some r53
def eN(u hU:Nat)(p0:World)(x14 x15:Int)(x16 x17 x18:Int)(x19 x20:List Int)(x21:List aL)(x22:List aD)(x23:List aA)(x24:List aq)(x25:List di)(x26:Int):Option World:=match hU with
  | 0=>none
  | hU+1=>bif decide (x14 < (p0.fN.length:Int)) then (gf u (World.mk (dV.mk x15 x16 x17 x18) (bl.mk x19) x20 x21 x22 x23 x24 x25 x26) (wC.mk 1 x14 0 (aq.mk 0 0 []))).bind λr40=>eN u hU p0 (aV .i64 x14 1) r40.2.fC.ar r40.2.fC.ba r40.2.fC.aW r40.2.fC.aZ r40.2.fT.bC r40.2.cG r40.2.ct r40.2.fN r40.2.fD r40.2.cr r40.2.fO r40.2.cQ else ot u x15 x16 x17 x18 x19 x20 x21 x22 x23 x24 x25 x26
def ou(u:Nat)(p0:World):Option World:=
 eN u u p0 0 p0.fC.ar p0.fC.ba p0.fC.aW p0.fC.aZ p0.fT.bC p0.cG p0.ct p0.fN p0.fD p0.cr p0.fO p0.cQ
def Cc(u:Nat)(p0:World)(s:Int×Int×Int×Int×(List Int)×(List Int)×(List aL)×(List aD)×(List aA)×(List aq)×(List di)×Int):Option World:=ot u s.1 s.2.1 s.2.2.1 s.2.2.2.1 s.2.2.2.2.1 s.2.2.2.2.2.1 s.2.2.2.2.2.2.1 s.2.2.2.2.2.2.2.1 s.2.2.2.2.2.2.2.2.1 s.2.2.2.2.2.2.2.2.2.1 s.2.2.2.2.2.2.2.2.2.2.1 s.2.2.2.2.2.2.2.2.2.2.2
def Cd(u:Nat)(p0:World)(i_:Nat)(s:Int×Int×Int×Int×(List Int)×(List Int)×(List aL)×(List aD)×(List aA)×(List aq)×(List di)×Int)(k_:(Int×Int×Int×Int×(List Int)×(List Int)×(List aL)×(List aD)×(List aA)×(List aq)×(List di)×Int)->Option World):Option World:=(gf u (World.mk (dV.mk s.1 s.2.1 s.2.2.1 s.2.2.2.1) (bl.mk s.2.2.2.2.1) s.2.2.2.2.2.1 s.2.2.2.2.2.2.1 s.2.2.2.2.2.2.2.1 s.2.2.2.2.2.2.2.2.1 s.2.2.2.2.2.2.2.2.2.1 s.2.2.2.2.2.2.2.2.2.2.1 s.2.2.2.2.2.2.2.2.2.2.2) (wC.mk 1 (i_:Int) 0 (aq.mk 0 0 []))).bind λr40=>k_ (r40.2.fC.ar,r40.2.fC.ba,r40.2.fC.aW,r40.2.fC.aZ,r40.2.fT.bC,r40.2.cG,r40.2.ct,r40.2.fN,r40.2.fD,r40.2.cr,r40.2.fO,r40.2.cQ)
theorem Qg(u:Nat)(p0:World)(s:Int×Int×Int×Int×(List Int)×(List Int)×(List aL)×(List aD)×(List aA)×(List aq)×(List di)×Int)(k:Nat)(hn:((p0.fN.length:Int):Int)<=9223372036854775807)(hk:sY (p0.fN.length:Int) < k):eN u k p0 0 s.1 s.2.1 s.2.2.1 s.2.2.2.1 s.2.2.2.2.1 s.2.2.2.2.2.1 s.2.2.2.2.2.2.1 s.2.2.2.2.2.2.2.1 s.2.2.2.2.2.2.2.2.1 s.2.2.2.2.2.2.2.2.2.1 s.2.2.2.2.2.2.2.2.2.2.1 s.2.2.2.2.2.2.2.2.2.2.2=Pu.oU (Cc u p0) (Cd u p0) (sY (p0.fN.length:Int)) 0 s:=Pu.pA (λ(k:Nat) (s:Int×Int×Int×Int×(List Int)×(List Int)×(List aL)×(List aD)×(List aA)×(List aq)×(List di)×Int) (i:Int)=>eN u k p0 i s.1 s.2.1 s.2.2.1 s.2.2.2.1 s.2.2.2.2.1 s.2.2.2.2.2.1 s.2.2.2.2.2.2.1 s.2.2.2.2.2.2.2.1 s.2.2.2.2.2.2.2.2.1 s.2.2.2.2.2.2.2.2.2.1 s.2.2.2.2.2.2.2.2.2.2.1 s.2.2.2.2.2.2.2.2.2.2.2) hn (λ_ _ _=>rfl) s hk
def vS(u:Nat)(x45 x46:Int)(x47 x48:Int)(x49 x50:List Int)(x51:List aL)(x52:List aD)(x53:List aA)(x54:List aq)(x55:List di)(x56:Int):Option World:=
 some (World.mk (dV.mk x45 x46 x47 x48) (bl.mk x49) x50 x51 x52 x53 x54 x55 x56)
def jF(u m2:Nat)(p1 x18:Int)(x19 x20:Int)(x21 x22:Int)(x23 x24:List Int)(x25:List aL)(x26:List aD)(x27:List aA)(x28:List aq)(x29:List di)(x30:Int):Option World:=match m2 with
  | 0=>none
  | m2+1=>bif decide (x18 < p1) then (ou u (World.mk (dV.mk x19 x20 x21 x22) (bl.mk x23) x24 x25 x26 x27 x28 x29 x30)).bind λr44=>jF u m2 p1 (aV .i64 x18 1) r44.fC.ar r44.fC.ba r44.fC.aW r44.fC.aZ r44.fT.bC r44.cG r44.ct r44.fN r44.fD r44.cr r44.fO r44.cQ else vS u x19 x20 x21 x22 x23 x24 x25 x26 x27 x28 x29 x30
def vT(u:Nat)(p1:Int)(x4:Bool)(r1:World):Option World:=
 bif x4 then jF u u p1 0 r1.fC.ar r1.fC.ba r1.fC.aW r1.fC.aZ r1.fT.bC r1.cG r1.ct r1.fN r1.fD r1.cr r1.fO r1.cQ else vS u r1.fC.ar r1.fC.ba r1.fC.aW r1.fC.aZ r1.fT.bC r1.cG r1.ct r1.fN r1.fD r1.cr r1.fO r1.cQ
def xL(u:Nat)(p0:World)(p1:Int):Option World:=
 (pf u p0).bind λr1=>(vG u p0).bind λr2=>bif r2 then (bq u p1 0 500).bind λr3=>vT u p1 r3 r1 else vT u p1 false r1
def I0(u:Nat)(p1:Int)(s:Int×Int×Int×Int×(List Int)×(List Int)×(List aL)×(List aD)×(List aA)×(List aq)×(List di)×Int):Option World:=vS u s.1 s.2.1 s.2.2.1 s.2.2.2.1 s.2.2.2.2.1 s.2.2.2.2.2.1 s.2.2.2.2.2.2.1 s.2.2.2.2.2.2.2.1 s.2.2.2.2.2.2.2.2.1 s.2.2.2.2.2.2.2.2.2.1 s.2.2.2.2.2.2.2.2.2.2.1 s.2.2.2.2.2.2.2.2.2.2.2
def I1(u:Nat)(p1:Int)(i_:Nat)(s:Int×Int×Int×Int×(List Int)×(List Int)×(List aL)×(List aD)×(List aA)×(List aq)×(List di)×Int)(k_:(Int×Int×Int×Int×(List Int)×(List Int)×(List aL)×(List aD)×(List aA)×(List aq)×(List di)×Int)->Option World):Option World:=(ou u (World.mk (dV.mk s.1 s.2.1 s.2.2.1 s.2.2.2.1) (bl.mk s.2.2.2.2.1) s.2.2.2.2.2.1 s.2.2.2.2.2.2.1 s.2.2.2.2.2.2.2.1 s.2.2.2.2.2.2.2.2.1 s.2.2.2.2.2.2.2.2.2.1 s.2.2.2.2.2.2.2.2.2.2.1 s.2.2.2.2.2.2.2.2.2.2.2)).bind λr44=>k_ (r44.fC.ar,r44.fC.ba,r44.fC.aW,r44.fC.aZ,r44.fT.bC,r44.cG,r44.ct,r44.fN,r44.fD,r44.cr,r44.fO,r44.cQ)
theorem VG(u:Nat)(p1:Int)(s:Int×Int×Int×Int×(List Int)×(List Int)×(List aL)×(List aD)×(List aA)×(List aq)×(List di)×Int)(k:Nat)(hn:(p1:Int)<=9223372036854775807)(hk:sY p1 < k):jF u k p1 0 s.1 s.2.1 s.2.2.1 s.2.2.2.1 s.2.2.2.2.1 s.2.2.2.2.2.1 s.2.2.2.2.2.2.1 s.2.2.2.2.2.2.2.1 s.2.2.2.2.2.2.2.2.1 s.2.2.2.2.2.2.2.2.2.1 s.2.2.2.2.2.2.2.2.2.2.1 s.2.2.2.2.2.2.2.2.2.2.2=Pu.oU (I0 u p1) (I1 u p1) (sY p1) 0 s:=Pu.pA (λ(k:Nat) (s:Int×Int×Int×Int×(List Int)×(List Int)×(List aL)×(List aD)×(List aA)×(List aq)×(List di)×Int) (i:Int)=>jF u k p1 i s.1 s.2.1 s.2.2.1 s.2.2.2.1 s.2.2.2.2.1 s.2.2.2.2.2.1 s.2.2.2.2.2.2.1 s.2.2.2.2.2.2.2.1 s.2.2.2.2.2.2.2.2.1 s.2.2.2.2.2.2.2.2.2.1 s.2.2.2.2.2.2.2.2.2.2.1 s.2.2.2.2.2.2.2.2.2.2.2) hn (λ_ _ _=>rfl) s hk
def xM(u:Nat)(p0:World):Option World:=
 (ro u p0).bind λr1=>(xL u p0 r1).bind λr2=>some r2
def tJ(u:Nat)(p0:World):Option (List Int):=
 bif (p0.fN.length:Int) == 0 then some [] else (eS p0.fN 0).bind λy1=>(uR u y1.aX).bind λr2=>(oh u r2).bind λr3=>some r3
def xN(u:Nat)(p0:aD):Option Bool:=
 some p0.lu
def fE(u:Nat)(x10:List Int):Option (List Int):=
 some x10
def dy(u:Nat)(sP:List Int->World->Int->Option (List Int))(x9:List Int)(p0:World)(x4:Int):Option (List Int):=
 sP x9 p0 (aV .i64 x4 1)
def cB(u cg:Nat)(x3:List Int)(p0:World)(x4:Int):Option (List Int):=match cg with
  | 0=>none
  | cg+1=>bif decide (x4 < (p0.fN.length:Int)) then (eS p0.fN x4).bind λy7=>(xN u y7).bind λr8=>bif r8 then (fX (decide ((x3.length+([x4]:List Int).length)*8<=140737488355328))).bind λ_=>dy u (cB u cg) (x3++([x4]:List Int)) p0 x4 else dy u (cB u cg) x3 p0 x4 else fE u x3
def gE(u:Nat)(p0:World):Option (List Int):=
 cB u u ([]:List Int) p0 0
def lI(u:Nat)(p0:World)(s:List Int):Option (List Int):=fE u s
def lJ(u:Nat)(p0:World)(y7:aD)(i_:Nat)(s:List Int)(k_:List Int->Option (List Int)):Option (List Int):=(xN u y7).bind λr8=>bif r8 then (fX (decide ((s.length+([(i_:Int)]:List Int).length)*8<=140737488355328))).bind λ_=>dy u (λz0 z1 z2=>k_ z0) (s++([(i_:Int)]:List Int)) p0 (i_:Int) else dy u (λz0 z1 z2=>k_ z0) s p0 (i_:Int)
theorem sA(u:Nat)(p0:World)(s:List Int)(k:Nat)(hn:p0.fN.length<=9223372036854775807)(hk:p0.fN.length < k):cB u k s p0 0=Pu.cE (lI u p0) (lJ u p0) p0.fN 0 s:=Pu.dE (λ(k:Nat) (s:List Int) (i:Int)=>cB u k s p0 i) hn (λ_ _ _=>rfl) s hk
def zt(u:Nat)(p0:World):Option (List Int):=
 (gE u p0).bind λr1=>some r1
def uk(u:Nat)(p1:Int)(x3:Bool)(p0:World):Option Int:=
 bif x3 then some (-1) else (eS p0.fD p1).bind λy4=>(eS p0.ct p1).bind λy5=>(p6 u y4 0 y5.fB).bind λr6=>bif r6 then some 0 else (eS p0.fD p1).bind λy7=>(p6 u y7 1 p0.cG).bind λr8=>bif r8 then some 1 else some (-1)
def vU(u:Nat)(p0:World)(p1:Int):Option Int:=
 (bq u p1 0 (gX .i64 (p0.fD.length:Int) 1)).bind λr1=>bif !r1 then uk u p1 true p0 else (bq u p1 0 (gX .i64 (p0.ct.length:Int) 1)).bind λr2=>uk u p1 (!r2) p0
def oL(u:Nat)(p0:Int)(q0:World):Option Bool:=
 bif p0 == 0 then some true else (vU u q0 p0).bind λr1=>some (r1 == 1)
def fq(u:Nat)  : Option Int:=
 some (-1)
def cD(u cm:Nat)(p0:List Int)(p1_0:World)(x2:Int):Option Int:=match cm with
  | 0=>none
  | cm+1=>bif decide (x2 < (p0.length:Int)) then (eS p0 x2).bind λy4=>(oL u y4 p1_0).bind λr5=>bif r5 then some x2 else cD u cm p0 p1_0 (aV .i64 x2 1) else fq u
def ep(u:Nat)(p0:List Int)(p1_0:World):Option Int:=
 cD u u p0 p1_0 0
def oM(u:Nat)(p0:List Int)(p1_0:World)(s:Unit):Option Int:=fq u
def iG(u:Nat)(p0:List Int)(p1_0:World)(y4:Int)(i_:Nat)(s:Unit)(k_:Unit->Option Int):Option Int:=(oL u y4 p1_0).bind λr5=>bif r5 then some (i_:Int) else k_ ()
theorem oN(u:Nat)(p0:List Int)(p1_0:World)(s:Unit)(k:Nat)(hn:p0.length<=9223372036854775807)(hk:p0.length < k):cD u k p0 p1_0 0=Pu.cE (oM u p0 p1_0) (iG u p0 p1_0) p0 0 s:=Pu.dE (λ(k:Nat) (s:Unit) (i:Int)=>cD u k p0 p1_0 i) hn (λ_ _ _=>rfl) s hk
def iT(u:Nat)(x16:List Int)(x17:Int):Option (List Int):=
 (fX (AS x17 x16.length)).bind λ_=>(fX (er 0 x17 (x16.take (sY x17)++zQZ (x16.length - sY x17) 0).length)).bind λ_=>some (((x16.take (sY x17)++zQZ (x16.length - sY x17) 0).take (sY x17)).drop (sY 0))
def fb(u:Nat)(oI:List Int->World->Int->Int->Option (List Int))(x14:List Int)(p1_0:World)(x15 x7:Int):Option (List Int):=
 oI x14 p1_0 x15 (aV .i64 x7 1)
def bm(u bA:Nat)(x5:List Int)(p1_0:World)(x6 x7:Int):Option (List Int):=match bA with
  | 0=>none
  | bA+1=>bif decide (x7 < (x5.length:Int)) then (eS x5 x7).bind λy11=>(oL u y11 p1_0).bind λr12=>bif !r12 then (eS x5 x6).bind λy13=>fb u (bm u bA) (x5.set (sY x6) y11) p1_0 (aV .i64 x6 1) x7 else fb u (bm u bA) x5 p1_0 x6 x7 else iT u x5 x6
def df(u:Nat)(p0:List Int)(p1_0:World):Option (List Int):=
 (ep u p0 p1_0).bind λr1=>bif r1 == (-1) then some p0 else bm u u p0 p1_0 r1 (aV .i64 r1 1)
def xO(u:Nat)(p0:World):Option (List Int):=
 (zt u p0).bind λr1=>(df u r1 p0).bind λr2=>some r2
def xP(u:Nat)(p0:World):Option Bool:=
 (xO u p0).bind λr1=>some ((r1.length:Int) == 0)
def vV(u:Nat)(p0:World):Option Bool:=
 some ((p0.cr.length:Int) == 0)
def nU(u:Nat)(p0:Int)(q0:List Int):Option Bool:=
 bif decide (p0 > 0) then (fU u q0 p0).bind λr1=>some (!r1) else some false
def eU(u:Nat)  : Option Int:=
 some (-1)
def cj(u b7:Nat)(p0 p1_0:List Int)(x2:Int):Option Int:=match b7 with
  | 0=>none
  | b7+1=>bif decide (x2 < (p0.length:Int)) then (eS p0 x2).bind λy4=>(nU u y4 p1_0).bind λr5=>bif r5 then some x2 else cj u b7 p0 p1_0 (aV .i64 x2 1) else eU u
def d6(u:Nat)(p0 p1_0:List Int):Option Int:=
 cj u u p0 p1_0 0
def nH(u:Nat)(p0 p1_0:List Int)(s:Unit):Option Int:=eU u
def ia(u:Nat)(p0 p1_0:List Int)(y4:Int)(i_:Nat)(s:Unit)(k_:Unit->Option Int):Option Int:=(nU u y4 p1_0).bind λr5=>bif r5 then some (i_:Int) else k_ ()
theorem nI(u:Nat)(p0 p1_0:List Int)(s:Unit)(k:Nat)(hn:p0.length<=9223372036854775807)(hk:p0.length < k):cj u k p0 p1_0 0=Pu.cE (nH u p0 p1_0) (ia u p0 p1_0) p0 0 s:=Pu.dE (λ(k:Nat) (s:Unit) (i:Int)=>cj u k p0 p1_0 i) hn (λ_ _ _=>rfl) s hk
def dP(u:Nat)(p0 p1_0:List Int):Option Bool:=
 (d6 u p0 p1_0).bind λr1=>some (decide (r1>=0))
def tK(u:Nat)(p0:World):Option Bool:=
 (tJ u p0).bind λr1=>(xP u p0).bind λr2=>bif r2 then (vV u p0).bind λr3=>bif r3 then (zt u p0).bind λr4=>(dP u r4 r1).bind λr5=>some (!r5) else some false else some false
def zO(u:Nat)(x9:Int):Option Int:=
 some x9
def nh(u:Nat)(Kh:List Int->Bool->Int->af->Int->Option Int)(p0:List Int)(p2:Bool)(x8:Int)(p1:af)(x4:Int):Option Int:=
 Kh p0 p2 x8 p1 (aV .i64 x4 1)
def lg(u jg:Nat)(p0:List Int)(p2:Bool)(x3:Int)(p1:af)(x4:Int):Option Int:=match jg with
  | 0=>none
  | jg+1=>bif decide (x4 < (if (p1.aG.length:Int) < 40 then (p1.aG.length:Int) else 40)) then (oa u p0 p1 x4).bind λr7=>bif (decide (r7>=0)) == p2 then (fX (decide (0<=x4))).bind λ_=>nh u (lg u jg) p0 p2 (u9 .i64 x3 (jt .i64 1 x4)) p1 x4 else nh u (lg u jg) p0 p2 x3 p1 x4 else zO u x3
def xQ(u:Nat)(p0:List Int)(p1:af)(p2:Bool):Option Int:=
 lg u u p0 p2 0 p1 0
def I2(u:Nat)(p0:List Int)(p2:Bool)(p1:af)(s:Int):Option Int:=zO u s
def BH(u:Nat)(p0:List Int)(p2:Bool)(p1:af)(i_:Nat)(s:Int)(k_:Int->Option Int):Option Int:=(oa u p0 p1 (i_:Int)).bind λr7=>bif (decide (r7>=0)) == p2 then (fX (decide (0<=(i_:Int)))).bind λ_=>nh u (λz0 z1 z2 z3 z4=>k_ z2) p0 p2 (u9 .i64 s (jt .i64 1 (i_:Int))) p1 (i_:Int) else nh u (λz0 z1 z2 z3 z4=>k_ z2) p0 p2 s p1 (i_:Int)
theorem I3(u:Nat)(p0:List Int)(p2:Bool)(p1:af)(s:Int)(k:Nat)(hn:((if (p1.aG.length:Int) < 40 then (p1.aG.length:Int) else 40):Int)<=9223372036854775807)(hk:sY (if (p1.aG.length:Int) < 40 then (p1.aG.length:Int) else 40) < k):lg u k p0 p2 s p1 0=Pu.oU (I2 u p0 p2 p1) (BH u p0 p2 p1) (sY (if (p1.aG.length:Int) < 40 then (p1.aG.length:Int) else 40)) 0 s:=Pu.pA (λ(k:Nat) (s i:Int)=>lg u k p0 p2 s p1 i) hn (λ_ _ _=>rfl) s hk
def vW(u:Nat)(p0:List Int)(p1:af):Option Int:=
 (xQ u p0 p1 false).bind λr1=>some r1
def oz(u:Nat)(x11:Int):Option Int:=
 some x11
def i4(u hP:Nat)(x5:Int)(r2:List Int)(x6:Int)(p1:af):Option Int:=match hP with
  | 0=>none
  | hP+1=>bif decide (x6 < (r2.length:Int)) then (eS r2 x6).bind λy9=>(io u p1.ar p1.aU y9).bind λr10=>i4 u hP (aV .i64 x5 r10.2) r2 (aV .i64 x6 1) p1 else oz u x5
def oA(u:Nat)(p0:List Int)(p1:af):Option Int:=
 (vW u p0 p1).bind λr1=>(oh u r1).bind λr2=>i4 u u 0 r2 0 p1
def qa(u:Nat)(r2:List Int)(p1:af)(s:Int):Option Int:=oz u s
def qb(u:Nat)(r2:List Int)(p1:af)(y9:Int)(i_:Nat)(s:Int)(k_:Int->Option Int):Option Int:=(io u p1.ar p1.aU y9).bind λr10=>k_ (aV .i64 s r10.2)
theorem Ce(u:Nat)(r2:List Int)(p1:af)(s:Int)(k:Nat)(hn:r2.length<=9223372036854775807)(hk:r2.length < k):i4 u k s r2 0 p1=Pu.cE (qa u r2 p1) (qb u r2 p1) r2 0 s:=Pu.dE (λ(k:Nat) (s i:Int)=>i4 u k s r2 i p1) hn (λ_ _ _=>rfl) s hk
def uS(u:Nat)(p0:World)(p1:Int):Option Int:=
 (bq u p1 0 (gX .i64 (p0.ct.length:Int) 1)).bind λr1=>bif !r1 then some 0 else (eS p0.ct p1).bind λy2=>(wN u p0).bind λr3=>(oA u y2.fB r3).bind λr4=>some r4
def ul(u:Nat)(x8:Int):Option Int:=
 some x8
def iO(u lQ:Nat)(x3 x4:Int)(p0:World):Option Int:=match lQ with
  | 0=>none
  | lQ+1=>bif decide (x4 < (p0.ct.length:Int)) then (uS u p0 x4).bind λr7=>iO u lQ (aV .i64 x3 r7) (aV .i64 x4 1) p0 else ul u x3
def vX(u:Nat)(p0:World):Option Int:=
 iO u u 0 1 p0
def Hn(u:Nat)(p0:World)(s:Int):Option Int:=ul u s
def Ho(u:Nat)(p0:World)(i_:Nat)(s:Int)(k_:Int->Option Int):Option Int:=(uS u p0 (i_:Int)).bind λr7=>k_ (aV .i64 s r7)
theorem UY(u:Nat)(p0:World)(s:Int)(k:Nat)(hn:((p0.ct.length:Int):Int)<=9223372036854775807)(hk:sY (p0.ct.length:Int) < k):iO u k s 0 p0=Pu.oU (Hn u p0) (Ho u p0) (sY (p0.ct.length:Int)) 0 s:=Pu.pA (λ(k:Nat) (s i:Int)=>iO u k s i p0) hn (λ_ _ _=>rfl) s hk
def ms(u:Nat)(x9:List aL)(r2:World×Int):Option Bool:=
 (tv u r2.1.fC r2.1.fT r2.1.cG x9).bind λr10=>(xM u r10).bind λr11=>(tK u r11).bind λr12=>bif r12 then bif (r11.fO.length:Int) == 0 then (vX u r11).bind λr13=>some (r13 == 0) else some false else some false
def fe(u iE:Nat)(x5:List aL)(x6:Int)(r2:World×Int):Option Bool:=match iE with
  | 0=>none
  | iE+1=>bif decide (x6 < (r2.1.fN.length:Int)) then (fX (decide ((x5.length+([(aL.mk r2.1.cG)]).length)*24<=140737488355328))).bind λ_=>fe u iE (x5++([(aL.mk r2.1.cG)])) (aV .i64 x6 1) r2 else ms u x5 r2
def mX(u:Nat)(p0:List Int):Option Bool:=
 (G3 u p0).bind λr1=>bif r1 then some true else (tp u p0).bind λr2=>fe u u ([]:List aL) 0 r2
def Df(u:Nat)(r2:World×Int)(s:List aL):Option Bool:=ms u s r2
def Dg(u:Nat)(r2:World×Int)(i_:Nat)(s:List aL)(k_:List aL->Option Bool):Option Bool:=(fX (decide ((s.length+([(aL.mk r2.1.cG)]).length)*24<=140737488355328))).bind λ_=>k_ (s++([(aL.mk r2.1.cG)]))
theorem RF(u:Nat)(r2:World×Int)(s:List aL)(k:Nat)(hn:((r2.1.fN.length:Int):Int)<=9223372036854775807)(hk:sY (r2.1.fN.length:Int) < k):fe u k s 0 r2=Pu.oU (Df u r2) (Dg u r2) (sY (r2.1.fN.length:Int)) 0 s:=Pu.pA (λ(k:Nat) (s:List aL) (i:Int)=>fe u k s i r2) hn (λ_ _ _=>rfl) s hk
end Go.Tm
