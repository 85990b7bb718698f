/- Go functions as pure functions (printed). -/
import Derived.Test.YtdcoelkflgpfgaaGreatCFnSoundsF3
set_option maxRecDepth 100000
set_option maxHeartbeats 20000000
set_option linter.unusedVariables false
set_option linter.unusedSimpArgs false
open Int renaming toNat->sY
open List renaming replicate->zQh
namespace Go.Tm
structure aG where
  fB:List Int
  fI:Int
  fH:Int
  deriving DecidableEq
def bq(x:aG):List T:=[.sl 1 (x.fB.map (aj .u8)),.int .i64 x.fI,.int .i64 x.fH]
def aG.wf(x:aG):Prop:=(IF (jj .u8)) x.fB/\(jj .i64) x.fI/\(jj .i64) x.fH/\True
structure cS where
  b9:List Int
  deriving DecidableEq
def pM(x:cS):List T:=[.sl 1 (x.b9.map (aj .i64))]
def cS.wf(x:cS):Prop:=(IF (jj .i64)) x.b9/\True
structure aW where
  fB:List Int
  deriving DecidableEq
def aM(x:aW):List T:=[.sl 1 (x.fB.map (aj .u8))]
def aW.wf(x:aW):Prop:=(IF (jj .u8)) x.fB/\True
structure hZ where
  av:Int
  aQ:Int
  aE:Int
  aN:Int
  deriving DecidableEq
def mb(x:hZ):List T:=[.int .i64 x.av,.int .i64 x.aQ,.int .i64 x.aE,.int .i64 x.aN]
def hZ.wf(x:hZ):Prop:=(jj .i64) x.av/\(jj .i64) x.aQ/\(jj .i64) x.aE/\(jj .i64) x.aN/\True
structure cV where
  fW:Int
  fS:Int
  deriving DecidableEq
def a9(x:cV):List T:=[.int .i64 x.fW,.int .i64 x.fS]
def cV.wf(x:cV):Prop:=(jj .i64) x.fW/\(jj .i64) x.fS/\True
structure ai where
  aP:Int
  av:Int
  aX:Int
  aO:List cV
  deriving DecidableEq
def aI(x:ai):List T:=[.int .i64 x.aP,.int .i64 x.av,.int .i64 x.aX,.sl 2 (x.aO.map a9)]
def ai.wf(x:ai):Prop:=(jj .i64) x.aP/\(jj .i64) x.av/\(jj .i64) x.aX/\(IF cV.wf) x.aO/\True
structure bF where
  bn:Int
  ca:List Int
  deriving DecidableEq
def ip(x:bF):List T:=[.int .i64 x.bn,.sl 1 (x.ca.map (aj .u8))]
def bF.wf(x:bF):Prop:=(jj .i64) x.bn/\(IF (jj .u8)) x.ca/\True
structure bM where
  oa:Int
  ck:Int
  bY:Int
  we:Int
  n7:Int
  deriving DecidableEq
def aT(x:bM):List T:=[.int .i64 x.oa,.int .i64 x.ck,.int .i64 x.bY,.int .i64 x.we,.int .i64 x.n7]
def bM.wf(x:bM):Prop:=(jj .i64) x.oa/\(jj .i64) x.ck/\(jj .i64) x.bY/\(jj .i64) x.we/\(jj .i64) x.n7/\True
structure aA where
  fq:Bool
  bP:Int
  bC:Int
  aw:ai
  bu:bF
  aY:Int
  bd:List bM
  bx:Int
  deriving DecidableEq
def am(x:aA):List T:=[.bool x.fq,.int .i64 x.bP,.int .i64 x.bC,.int .i64 x.aw.aP,.int .i64 x.aw.av,.int .i64 x.aw.aX,.sl 2 (x.aw.aO.map a9),.int .i64 x.bu.bn,.sl 1 (x.bu.ca.map (aj .u8)),.int .i64 x.aY,.sl 5 (x.bd.map aT),.int .i64 x.bx]
def aA.wf(x:aA):Prop:=(λ_=>True) x.fq/\(jj .i64) x.bP/\(jj .i64) x.bC/\ai.wf x.aw/\bF.wf x.bu/\(jj .i64) x.aY/\(IF bM.wf) x.bd/\(jj .i64) x.bx/\True
structure dc where
  aP:Int
  bX:Int
  aX:Int
  deriving DecidableEq
def qM(x:dc):List T:=[.int .i64 x.aP,.int .i64 x.bX,.int .i64 x.aX]
def dc.wf(x:dc):Prop:=(jj .i64) x.aP/\(jj .i64) x.bX/\(jj .i64) x.aX/\True
structure c8 where
  iA:Int
  zS:Int
  fB:List Int
  fR:dc
  deriving DecidableEq
def bg(x:c8):List T:=[.int .i64 x.iA,.int .i64 x.zS,.sl 1 (x.fB.map (aj .u8)),.int .i64 x.fR.aP,.int .i64 x.fR.bX,.int .i64 x.fR.aX]
def c8.wf(x:c8):Prop:=(jj .i64) x.iA/\(jj .i64) x.zS/\(IF (jj .u8)) x.fB/\dc.wf x.fR/\True
structure ar where
  fA:List Int
  fB:List Int
  fR:dc
  fP:List c8
  deriving DecidableEq
def al(x:ar):List T:=[.sl 1 (x.fA.map (aj .u8)),.sl 1 (x.fB.map (aj .u8)),.int .i64 x.fR.aP,.int .i64 x.fR.bX,.int .i64 x.fR.aX,.sl 6 (x.fP.map bg)]
def ar.wf(x:ar):Prop:=(IF (jj .u8)) x.fA/\(IF (jj .u8)) x.fB/\dc.wf x.fR/\(IF c8.wf) x.fP/\True
structure ah where
  dn:Int
  qL:Int
  fB:List Int
  deriving DecidableEq
def ag(x:ah):List T:=[.int .i64 x.dn,.int .i64 x.qL,.sl 1 (x.fB.map (aj .u8))]
def ah.wf(x:ah):Prop:=(jj .i64) x.dn/\(jj .i64) x.qL/\(IF (jj .u8)) x.fB/\True
structure cE where
  dn:Int
  qL:Int
  fI:Int
  deriving DecidableEq
def bi(x:cE):List T:=[.int .i64 x.dn,.int .i64 x.qL,.int .i64 x.fI]
def cE.wf(x:cE):Prop:=(jj .i64) x.dn/\(jj .i64) x.qL/\(jj .i64) x.fI/\True
structure World where
  fC:hZ
  fT:cS
  bN:List Int
  bI:List aW
  fN:List aA
  fD:List ar
  bk:List ah
  cL:List cE
  bj:Int
  deriving DecidableEq
def bt(x:World):List T:=[.int .i64 x.fC.av,.int .i64 x.fC.aQ,.int .i64 x.fC.aE,.int .i64 x.fC.aN,.sl 1 (x.fT.b9.map (aj .i64)),.sl 1 (x.bN.map (aj .u8)),.sl 1 (x.bI.map aM),.sl 12 (x.fN.map am),.sl 6 (x.fD.map al),.sl 3 (x.bk.map ag),.sl 3 (x.cL.map bi),.int .i64 x.bj]
def gN(t:T)(x:World):List T:=[.int .i64 x.fC.av,.int .i64 x.fC.aQ,.int .i64 x.fC.aE,.int .i64 x.fC.aN,.sl 1 (x.fT.b9.map (aj .i64)),.sl 1 (x.bN.map (aj .u8)),t,.sl 12 (x.fN.map am),.sl 6 (x.fD.map al),.sl 3 (x.bk.map ag),.sl 3 (x.cL.map bi),.int .i64 x.bj]
def World.wf(x:World):Prop:=hZ.wf x.fC/\cS.wf x.fT/\(IF (jj .u8)) x.bN/\(IF aW.wf) x.bI/\(IF aA.wf) x.fN/\(IF ar.wf) x.fD/\(IF ah.wf) x.bk/\(IF cE.wf) x.cL/\(jj .i64) x.bj/\True
structure cq where
  bl:Int
  fN:Int
  fS:Int
  fP:ah
  deriving DecidableEq
def cI(x:cq):List T:=[.int .i64 x.bl,.int .i64 x.fN,.int .i64 x.fS,.int .i64 x.fP.dn,.int .i64 x.fP.qL,.sl 1 (x.fP.fB.map (aj .u8))]
def cq.wf(x:cq):Prop:=(jj .i64) x.bl/\(jj .i64) x.fN/\(jj .i64) x.fS/\ah.wf x.fP/\True
structure fe where
  bl:Int
  aP:Int
  aw:ai
  ck:Int
  bY:Int
  fI:Int
  fB:List Int
  deriving DecidableEq
def ew(x:fe):List T:=[.int .i64 x.bl,.int .i64 x.aP,.int .i64 x.aw.aP,.int .i64 x.aw.av,.int .i64 x.aw.aX,.sl 2 (x.aw.aO.map a9),.int .i64 x.ck,.int .i64 x.bY,.int .i64 x.fI,.sl 1 (x.fB.map (aj .u8))]
def fe.wf(x:fe):Prop:=(jj .i64) x.bl/\(jj .i64) x.aP/\ai.wf x.aw/\(jj .i64) x.ck/\(jj .i64) x.bY/\(jj .i64) x.fI/\(IF (jj .u8)) x.fB/\True
structure EH where
  fN:aA
  fD:ar
  iB:List ah
  deriving DecidableEq
def RD(x:EH):List T:=[.bool x.fN.fq,.int .i64 x.fN.bP,.int .i64 x.fN.bC,.int .i64 x.fN.aw.aP,.int .i64 x.fN.aw.av,.int .i64 x.fN.aw.aX,.sl 2 (x.fN.aw.aO.map a9),.int .i64 x.fN.bu.bn,.sl 1 (x.fN.bu.ca.map (aj .u8)),.int .i64 x.fN.aY,.sl 5 (x.fN.bd.map aT),.int .i64 x.fN.bx,.sl 1 (x.fD.fA.map (aj .u8)),.sl 1 (x.fD.fB.map (aj .u8)),.int .i64 x.fD.fR.aP,.int .i64 x.fD.fR.bX,.int .i64 x.fD.fR.aX,.sl 6 (x.fD.fP.map bg),.sl 3 (x.iB.map ag)]
def EH.wf(x:EH):Prop:=aA.wf x.fN/\ar.wf x.fD/\(IF ah.wf) x.iB/\True
structure Act where
  fN:aA
  iB:List ah
  deriving DecidableEq
def wi(x:Act):List T:=[.bool x.fN.fq,.int .i64 x.fN.bP,.int .i64 x.fN.bC,.int .i64 x.fN.aw.aP,.int .i64 x.fN.aw.av,.int .i64 x.fN.aw.aX,.sl 2 (x.fN.aw.aO.map a9),.int .i64 x.fN.bu.bn,.sl 1 (x.fN.bu.ca.map (aj .u8)),.int .i64 x.fN.aY,.sl 5 (x.fN.bd.map aT),.int .i64 x.fN.bx,.sl 3 (x.iB.map ag)]
def Act.wf(x:Act):Prop:=aA.wf x.fN/\(IF ah.wf) x.iB/\True
def CS(u:Nat)(p0:List Int):Option Bool :=
  some (decide (((p0.length:Int)) > 1048576))
def tp(u:Nat)(p0:List Int)(x9:Int):Option aG :=
  some ((aG.mk p0 0 x9))
def pN(u:Nat)(HN:(List Int)->Int->Int->Option aG)(p0:List Int)(x3 x4:Int)(x7:Bool):Option aG :=
  bif x7 then ((dV p0 x4).bind λy8=>HN p0 (fG .i64 (be .i64 (be .i64 (lH .i64 x3 137) (IntKind.wrap .i64 y8)) 11) 1073741823) (be .i64 x4 1)) else (tp u p0 x3)
def iX(u iv:Nat)(p0:List Int)(x3 x4:Int):Option aG:=match iv with
  | 0=>none
  | iv+1=>bif decide (x4 < ((p0.length:Int))) then (pN u (λz0 z1 z2=>iX u iv z0 z1 z2) p0 x3 x4 (decide (x4 < 4000))) else (pN u (λz0 z1 z2=>iX u iv z0 z1 z2) p0 x3 x4 false)
def sK(u:Nat)(p0:List Int):Option aG :=
  iX u u p0 (be .i64 162416 ((p0.length:Int))) 0
def tF(u:Nat)(p0:List Int)(p1:Int):Option Int :=
  bif decide ((be .i64 3 (NA .i64 ((p0.length:Int)) 12)) > p1) then (some p1) else (some (be .i64 3 (NA .i64 ((p0.length:Int)) 12)))
def oc(u:Nat)(x2:Int)(p0:aG)(x3:Int):Option (Int×aG) :=
  some ((x2,(aG.mk p0.fB x3 (be .i64 (lH .i64 p0.fH 6364136223846793005) 1442695040888963407))))
def jR(u:Nat)(p0:aG):Option (Int×aG) :=
  bif decide (p0.fI < ((p0.fB.length:Int))) then ((dV p0.fB p0.fI).bind λy1=>oc u (fG .i64 (be .i64 (fG .i64 (Mb .i64 (m7 .i64 (be .i64 (lH .i64 p0.fH 6364136223846793005) 1442695040888963407) 33) (m7 .i64 (be .i64 (lH .i64 p0.fH 6364136223846793005) 1442695040888963407) 47)) 255) (IntKind.wrap .i64 y1)) 255) p0 (be .i64 p0.fI 1)) else (oc u (fG .i64 (Mb .i64 (m7 .i64 (be .i64 (lH .i64 p0.fH 6364136223846793005) 1442695040888963407) 33) (m7 .i64 (be .i64 (lH .i64 p0.fH 6364136223846793005) 1442695040888963407) 47)) 255) p0 p0.fI)
def bc(u:Nat)(p0:aG)(p1:Int):Option (Int×aG) :=
  bif decide (p1<=0) then (some ((0,p0))) else (bif decide (p1<=256) then ((jR u p0).bind λr1=>(ed (!(p1 == 0))).bind λ_=>some ((tY .i64 r1.1 p1,r1.2))) else ((jR u p0).bind λr3=>(jR u r3.2).bind λr4=>(jR u r4.2).bind λr5=>(ed (!(p1 == 0))).bind λ_=>some ((tY .i64 (be .i64 (be .i64 (lH .i64 r3.1 65536) (lH .i64 r4.1 256)) r5.1) p1,r5.2))))
def i8(u:Nat)(p0:aG)(p1:Int):Option (Bool×aG) :=
  (bc u p0 p1).bind λr1=>some ((r1.1 == 0,r1.2))
def ql(u:Nat)(x23 x24:List Int)(x25 x26:Int):Option (cS×aG) :=
  some (((cS.mk x23),(aG.mk x24 x25 x26)))
def na(u:Nat)(EG:Int->(List Int)->(List Int)->Int->Int->Option (cS×aG))(x6 x19:Int)(x7 x20:List Int)(x21 x22:Int):Option (cS×aG) :=
  (ed (decide ((x7.length+(([x19]:List Int)).length)*8<=140737488355328))).bind λ_=>EG (be .i64 x6 1) (x7++(([x19]:List Int))) x20 x21 x22
def ft(u gm:Nat)(x6:Int)(x7 x8:List Int)(x9 x10:Int):Option (cS×aG):=match gm with
  | 0=>none
  | gm+1=>(bc u ((aG.mk x8 x9 x10)) 7).bind λr16=>bif decide (x6 < (be .i64 1 r16.1)) then ((i8 u r16.2 2).bind λr17=>bif r17.1 then ((bc u r17.2 x6).bind λr18=>na u (λz0 z1 z2 z3 z4=>ft u gm z0 z1 z2 z3 z4) x6 r18.1 x7 r18.2.fB r18.2.fI r18.2.fH) else (na u (λz0 z1 z2 z3 z4=>ft u gm z0 z1 z2 z3 z4) x6 (eH .i64 x6 1) x7 r17.2.fB r17.2.fI r17.2.fH)) else (ql u x7 r16.2.fB r16.2.fI r16.2.fH)
def oU(u:Nat)(p0:aG):Option (cS×aG) :=
  ft u u 1 (([-1]:List Int)) p0.fB p0.fI p0.fH
def dG(u:Nat)(p0:aG)(p1:List Int):Option (Int×aG) :=
  (bc u p0 ((p1.length:Int))).bind λr1=>(dV p1 r1.1).bind λy2=>some ((y2,r1.2))
def qm(u:Nat)(x18 x19:List Int)(x20 x21:Int):Option ((List Int)×aG) :=
  some ((x18,(aG.mk x19 x20 x21)))
def fu(u jD:Nat)(x7:List Int)(x8:Int)(x9:List Int)(x10 x11:Int):Option ((List Int)×aG):=match jD with
  | 0=>none
  | jD+1=>bif decide (x8 > 0) then ((dG u ((aG.mk x9 x10 x11)) (([97,98,99,0,255]:List Int))).bind λr17=>(ed (decide ((x7.length+(([IntKind.wrap .u8 r17.1]:List Int)).length)*1<=140737488355328))).bind λ_=>(λz0 z1 z2 z3 z4=>fu u jD z0 z1 z2 z3 z4) (x7++(([IntKind.wrap .u8 r17.1]:List Int))) (eH .i64 x8 1) r17.2.fB r17.2.fI r17.2.fH) else (qm u x7 x9 x10 x11)
def gD(u:Nat)(p0:aG)(p1:Int):Option ((List Int)×aG) :=
  (bc u p0 (be .i64 p1 1)).bind λr1=>fu u u (([]:List Int)) r1.1 r1.2.fB r1.2.fI r1.2.fH
def lu(u:Nat)(p0:aG):Option ((List Int)×aG) :=
  (gD u p0 16).bind λr1=>some ((r1.1,r1.2))
def cn(u:Nat)(x15 x16:List Int)(x17 x18:Int):Option ((List Int)×aG) :=
  some ((x15,(aG.mk x16 x17 x18)))
def mN(u:Nat)(p0:aG)(p1:List Int):Option ((List Int)×aG) :=
  (ed (decide (((([]:List Int)).length+p1.length)*1<=140737488355328))).bind λ_=>(bc u p0 6).bind λr2=>bif r2.1 == 0 then (bif decide (((((([]:List Int))++p1).length:Int)) > 0) then ((bc u r2.2 ((((([]:List Int))++p1).length:Int))).bind λr3=>(bc u r3.2 256).bind λr4=>(dV ((([]:List Int))++p1) r3.1).bind λy5=>cn u (((([]:List Int))++p1).set (sY r3.1) (IntKind.wrap .u8 r4.1)) r4.2.fB r4.2.fI r4.2.fH) else (cn u ((([]:List Int))++p1) r2.2.fB r2.2.fI r2.2.fH)) else (bif r2.1 == 1 then ((bc u r2.2 (be .i64 ((((([]:List Int))++p1).length:Int)) 1)).bind λr6=>(ed (cO 0 r6.1 ((([]:List Int))++p1).length)).bind λ_=>cn u ((((([]:List Int))++p1).take (sY r6.1)).drop (sY 0)) r6.2.fB r6.2.fI r6.2.fH) else (bif r2.1 == 2 then ((dG u r2.2 (([0,1,128,255]:List Int))).bind λr8=>(ed (decide ((((([]:List Int))++p1).length+(([IntKind.wrap .u8 r8.1]:List Int)).length)*1<=140737488355328))).bind λ_=>cn u (((([]:List Int))++p1)++(([IntKind.wrap .u8 r8.1]:List Int))) r8.2.fB r8.2.fI r8.2.fH) else (bif r2.1 == 3 then (bif decide (((((([]:List Int))++p1).length:Int)) > 0) then ((bc u r2.2 ((((([]:List Int))++p1).length:Int))).bind λr10=>(dV ((([]:List Int))++p1) r10.1).bind λy11=>(bc u r10.2 8).bind λr12=>(ed (decide (0<=r12.1))).bind λ_=>(dV ((([]:List Int))++p1) r10.1).bind λy14=>cn u (((([]:List Int))++p1).set (sY r10.1) (Mb .u8 y11 (lI .u8 1 r12.1))) r12.2.fB r12.2.fI r12.2.fH) else (cn u ((([]:List Int))++p1) r2.2.fB r2.2.fI r2.2.fH)) else (cn u ((([]:List Int))++p1) r2.2.fB r2.2.fI r2.2.fH))))
def qN(u:Nat)(p0:aG)(p1:List Int):Option ((List Int)×aG) :=
  (bc u p0 5).bind λr1=>bif r1.1 == 0 then ((gD u r1.2 16).bind λr2=>some ((r2.1,r2.2))) else (bif r1.1 == 1 then ((ed (decide (((([]:List Int)).length+p1.length)*1<=140737488355328))).bind λ_=>some (((([]:List Int))++p1,r1.2))) else (bif r1.1 == 2 then ((bc u r1.2 (be .i64 ((p1.length:Int)) 1)).bind λr4=>(ed (cO r4.1 ((p1.length:Int)) p1.length)).bind λ_=>(ed (decide (((([120]:List Int)).length+((p1.take (sY ((p1.length:Int)))).drop (sY r4.1)).length)*1<=140737488355328))).bind λ_=>(ed (cO 0 r4.1 p1.length)).bind λ_=>(ed (decide ((((([120]:List Int))++((p1.take (sY ((p1.length:Int)))).drop (sY r4.1))).length+((p1.take (sY r4.1)).drop (sY 0)).length)*1<=140737488355328))).bind λ_=>some ((((([120]:List Int))++((p1.take (sY ((p1.length:Int)))).drop (sY r4.1)))++((p1.take (sY r4.1)).drop (sY 0)),r4.2))) else (bif r1.1 == 3 then (some ((([]:List Int),r1.2))) else ((gD u r1.2 3).bind λr9=>(mN u r9.2 p1).bind λr10=>(ed (decide ((r9.1.length+r10.1.length)*1<=140737488355328))).bind λ_=>some ((r9.1++r10.1,r10.2))))))
def oV(u:Nat)(p0:aG):Option (hZ×aG) :=
  (bc u p0 5).bind λr1=>(dG u r1.2 (([1,2,3,8,40]:List Int))).bind λr2=>(bc u r2.2 3).bind λr3=>(bc u r3.2 3).bind λr4=>some (((hZ.mk (be .i64 2 r1.1) r2.1 (be .i64 1 r3.1) (be .i64 2 r4.1)),r4.2))
def bJ(u:Nat)(p0 p1 p2:Int):Option Bool :=
  bif decide (p0>=p1) then (some (decide (p0<=p2))) else (some false)
def tG(u:Nat)(p0:hZ):Option Bool :=
  (bJ u p0.av 2 6).bind λr1=>bif r1 then ((bJ u p0.aQ 1 40).bind λr2=>bif r2 then ((bJ u p0.aE 1 5).bind λr3=>bif r3 then ((bJ u p0.aN 2 8).bind λr4=>some r4) else (some false)) else (some false)) else (some false)
def vj(u:Nat)  : Option Bool :=
  some true
def i9(u kC:Nat)(x5:Int)(p0:cS):Option Bool:=match kC with
  | 0=>none
  | kC+1=>bif decide (x5 < ((p0.b9.length:Int))) then ((dV p0.b9 x5).bind λy7=>(bJ u y7 0 (eH .i64 x5 1)).bind λr8=>bif !r8 then (some false) else ((λz0 z1=>i9 u kC z0 z1) (be .i64 x5 1) p0)) else (vj u)
def rk(u:Nat)(x3:Bool)(p0:cS):Option Bool :=
  bif x3 then (some false) else (i9 u u 1 p0)
def od(u:Nat)(p0:cS):Option Bool :=
  (bJ u ((p0.b9.length:Int)) 1 7).bind λr1=>bif !r1 then (rk u true p0) else ((dV p0.b9 0).bind λy2=>rk u (y2 != (-1)) p0)
def xj(u:Nat)(p0:cS)(s:Unit):Option Bool:=(vj u)
def sL(u:Nat)(p0:cS)(y7:Int)(i_:Nat)(s:Unit)(k_:Unit->Option Bool):Option Bool:=(bJ u y7 0 (eH .i64 (i_:Int) 1)).bind λr8=>bif !r8 then (some false) else ((λz0 z1=>k_ ()) (be .i64 (i_:Int) 1) p0)
theorem QB(u:Nat)(p0:cS)(s:Unit)(k:Nat)(hn:p0.b9.length<=9223372036854775807)(hk:p0.b9.length < k):i9 u k 0 p0=Pu.cy (xj u p0) (sL u p0) p0.b9 0 s:=Pu.eI (λ(k:Nat) (s:Unit) (i:Int)=>i9 u k i p0) hn (λ_ _ _=>rfl) s hk
def lv(u:Nat)(p0 p1:Int):Option Bool :=
  (bJ u p0 2 6).bind λr1=>bif r1 then ((bJ u p1 0 (lH .i64 p0 40)).bind λr2=>some r2) else (some false)
def ub(u:Nat)(p0:List aW)(p1:Int):Option Bool :=
  some (((p0.length:Int)) == p1)
def kZ(u jC:Nat)(p0:List aW)(p1 x2:Int):Option Bool:=match jC with
  | 0=>none
  | jC+1=>bif decide (x2 < ((p0.length:Int))) then ((dV p0 x2).bind λy4=>bif decide (((y4.fB.length:Int)) > 240) then (some false) else ((λz0 z1 z2=>kZ u jC z0 z1 z2) p0 p1 (be .i64 x2 1))) else (ub u p0 p1)
def rm(u:Nat)(p0:List aW)(p1:Int):Option Bool :=
  kZ u u p0 p1 0
def CT(u:Nat)(p0:List aW)(p1:Int)(s:Unit):Option Bool:=(ub u p0 p1)
def wj(u:Nat)(p0:List aW)(p1:Int)(y4:aW)(i_:Nat)(s:Unit)(k_:Unit->Option Bool):Option Bool:=bif decide (((y4.fB.length:Int)) > 240) then (some false) else ((λz0 z1 z2=>k_ ()) p0 p1 (be .i64 (i_:Int) 1))
theorem CU(u:Nat)(p0:List aW)(p1:Int)(s:Unit)(k:Nat)(hn:p0.length<=9223372036854775807)(hk:p0.length < k):kZ u k p0 p1 0=Pu.cy (CT u p0 p1) (wj u p0 p1) p0 0 s:=Pu.eI (λ(k:Nat) (s:Unit) (i:Int)=>kZ u k p0 p1 i) hn (λ_ _ _=>rfl) s hk
def lw(u:Nat)(x8:List aW):Option ((List aW)) :=
  some x8
def ey(u ei:Nat)(p0 x3:List aW)(x4:Int):Option ((List aW)):=match ei with
  | 0=>none
  | ei+1=>bif decide (x4 < ((p0.length:Int))) then ((dV p0 x4).bind λy7=>(ed (decide (((([]:List Int)).length+y7.fB.length)*1<=140737488355328))).bind λ_=>(ed (decide ((x3.length+([(aW.mk ((([]:List Int))++y7.fB))]).length)*24<=140737488355328))).bind λ_=>(λz0 z1 z2=>ey u ei z0 z1 z2) p0 (x3++([(aW.mk ((([]:List Int))++y7.fB))])) (be .i64 x4 1)) else (lw u x3)
def gp(u:Nat)(p0:List aW):Option ((List aW)) :=
  ey u u p0 (([]:List aW)) 0
def Bp(u:Nat)(p0:List aW)(s:(List aW)):Option ((List aW)):=(lw u s)
def uB(u:Nat)(p0:List aW)(y7:aW)(i_:Nat)(s:(List aW))(k_:((List aW))->Option ((List aW))):Option ((List aW)):=(ed (decide (((([]:List Int)).length+y7.fB.length)*1<=140737488355328))).bind λ_=>(ed (decide ((s.length+([(aW.mk ((([]:List Int))++y7.fB))]).length)*24<=140737488355328))).bind λ_=>(λz0 z1 z2=>k_ z1) p0 (s++([(aW.mk ((([]:List Int))++y7.fB))])) (be .i64 (i_:Int) 1)
theorem Bq(u:Nat)(p0:List aW)(s:(List aW))(k:Nat)(hn:p0.length<=9223372036854775807)(hk:p0.length < k):ey u k p0 s 0=Pu.cy (Bp u p0) (uB u p0) p0 0 s:=Pu.eI (λ(k:Nat) (s:(List aW)) (i:Int)=>ey u k p0 s i) hn (λ_ _ _=>rfl) s hk
def rn(u:Nat)(p0:Int):Option aA :=
  some ((aA.mk true p0 0 ((ai.mk 0 0 0 ([]))) ((bF.mk 0 ([]))) 0 ([]) 0))
def oX(u:Nat)(p1:Int)(x3:Bool)(p0:cS):Option aA :=
  bif x3 then (some ((aA.mk false 0 0 ((ai.mk 0 0 0 ([]))) ((bF.mk 0 ([]))) 0 ([]) 0))) else ((dV p0.b9 p1).bind λy4=>(rn u y4).bind λr5=>some r5)
def lO(u:Nat)(p0:cS)(p1:Int):Option aA :=
  (od u p0).bind λr1=>bif !r1 then (oX u p1 true p0) else ((bJ u p1 1 (eH .i64 ((p0.b9.length:Int)) 1)).bind λr2=>oX u p1 (!r2) p0)
def qn(u:Nat)(p0 p1:Int)(x3:Bool):Option Int :=
  bif x3 then (some 0) else ((ed (!(p1 == 0))).bind λ_=>some (NA .i64 (eH .i64 (be .i64 p0 p1) 1) p1))
def ro(u:Nat)(p0 p1:Int):Option Int :=
  (bJ u p0 0 1000000000000).bind λr1=>bif !r1 then (qn u p0 p1 true) else ((bJ u p1 1 1000000000000).bind λr2=>qn u p0 p1 (!r2))
def lx(u:Nat)(p0 p1:Int):Option Int :=
  (lv u p0 p1).bind λr1=>bif !r1 then (some 0) else ((ro u p1 p0).bind λr2=>some r2)
def sM(u:Nat)(p0 p1:Int):Option Int :=
  bif decide (p1 < p0) then (some p1) else (some p0)
def fm(u:Nat)(p0 p1 p2:Int):Option (Int×Int) :=
  (lx u p0 p1).bind λr1=>(bJ u p2 0 (eH .i64 r1 1)).bind λr2=>bif !r2 then (some ((0,0))) else ((sM u p0 (eH .i64 p1 (lH .i64 p2 p0))).bind λr3=>some ((lH .i64 p2 p0,r3)))
def jL(u:Nat)(p0:List Int)(p1 p2:Int):Option ((List Int)×Bool) :=
  (fm u p1 ((p0.length:Int)) p2).bind λr1=>bif r1.2 == 0 then (some ((([]:List Int),false))) else ((ed (cO r1.1 (be .i64 r1.1 r1.2) p0.length)).bind λ_=>(ed (decide (((([]:List Int)).length+((p0.take (sY (be .i64 r1.1 r1.2))).drop (sY r1.1)).length)*1<=140737488355328))).bind λ_=>some (((([]:List Int))++((p0.take (sY (be .i64 r1.1 r1.2))).drop (sY r1.1)),true)))
def oe(u:Nat)(x11 x12:Int):Option Int :=
  some (be .i64 x11 (lH .i64 251 x12))
def mc(u kD:Nat)(p0:List Int)(x4 x5 x6:Int):Option Int:=match kD with
  | 0=>none
  | kD+1=>bif decide (x6 < ((p0.length:Int))) then ((dV p0 x6).bind λy10=>(λz0 z1 z2 z3=>mc u kD z0 z1 z2 z3) p0 (tY .i64 (be .i64 x4 (IntKind.wrap .i64 y10)) 251) (tY .i64 (be .i64 x5 (tY .i64 (be .i64 x4 (IntKind.wrap .i64 y10)) 251)) 251) (be .i64 x6 1)) else (oe u x4 x5)
def mO(u:Nat)(p0:List Int):Option Int :=
  mc u u p0 0 0 0
def xk(u:Nat)(p0:List Int)(s:Int×Int):Option Int:=(oe u s.1 s.2)
def sN(u:Nat)(p0:List Int)(y10:Int)(i_:Nat)(s:Int×Int)(k_:(Int×Int)->Option Int):Option Int:=(λz0 z1 z2 z3=>k_ (z1,z2)) p0 (tY .i64 (be .i64 s.1 (IntKind.wrap .i64 y10)) 251) (tY .i64 (be .i64 s.2 (tY .i64 (be .i64 s.1 (IntKind.wrap .i64 y10)) 251)) 251) (be .i64 (i_:Int) 1)
theorem EI(u:Nat)(p0:List Int)(s:Int×Int)(k:Nat)(hn:p0.length<=9223372036854775807)(hk:p0.length < k):mc u k p0 s.1 s.2 0=Pu.cy (xk u p0) (sN u p0) p0 0 s:=Pu.eI (λ(k:Nat) (s:Int×Int) (i:Int)=>mc u k p0 s.1 s.2 i) hn (λ_ _ _=>rfl) s hk
def pO(u:Nat)(p0:List Int)(x8:Int):Option cV :=
  (mO u p0).bind λr9=>some ((cV.mk r9 x8))
def nA(u lq:Nat)(p0:List Int)(x3 x4:Int):Option cV:=match lq with
  | 0=>none
  | lq+1=>bif decide (x4 < ((p0.length:Int))) then ((dV p0 x4).bind λy7=>(λz0 z1 z2=>nA u lq z0 z1 z2) p0 (be .i64 (lH .i64 256 x3) (IntKind.wrap .i64 y7)) (be .i64 x4 1)) else (pO u p0 x3)
def gO(u:Nat)(p0:List Int):Option cV :=
  bif decide (((p0.length:Int)) > 6) then (some ((cV.mk 0 0))) else (nA u u p0 1 0)
def ze(u:Nat)(p0:List Int)(s:Int):Option cV:=(pO u p0 s)
def uc(u:Nat)(p0:List Int)(y7:Int)(i_:Nat)(s:Int)(k_:Int->Option cV):Option cV:=(λz0 z1 z2=>k_ z1) p0 (be .i64 (lH .i64 256 s) (IntKind.wrap .i64 y7)) (be .i64 (i_:Int) 1)
theorem GJ(u:Nat)(p0:List Int)(s:Int)(k:Nat)(hn:p0.length<=9223372036854775807)(hk:p0.length < k):nA u k p0 s 0=Pu.cy (ze u p0) (uc u p0) p0 0 s:=Pu.eI (λ(k:Nat) (s i:Int)=>nA u k p0 s i) hn (λ_ _ _=>rfl) s hk
def rq(u:Nat)(x10:List cV):Option ((List cV)) :=
  some x10
def ja(u fO:Nat)(p0:List Int)(p1:Int)(x3:List cV)(x4:Int):Option ((List cV)):=match fO with
  | 0=>none
  | fO+1=>(lx u p1 ((p0.length:Int))).bind λr7=>bif decide (x4 < r7) then ((jL u p0 p1 x4).bind λr8=>(gO u r8.1).bind λr9=>(ed (decide ((x3.length+([r9]).length)*16<=140737488355328))).bind λ_=>(λz0 z1 z2 z3=>ja u fO z0 z1 z2 z3) p0 p1 (x3++([r9])) (be .i64 x4 1)) else (rq u x3)
def mP(u:Nat)(p0:List Int)(p1:Int):Option ((List cV)) :=
  ja u u p0 p1 (([]:List cV)) 0
def tq(u:Nat)(p0:Int)(p1:List Int)(p2:Int)(x3:Bool):Option ai :=
  bif x3 then (some ((ai.mk 0 0 0 ([])))) else ((mP u p1 p2).bind λr4=>some ((ai.mk p0 p2 ((p1.length:Int)) r4)))
def sO(u:Nat)(p0:Int)(p1:List Int)(p2:Int):Option ai :=
  (bJ u p0 1 1000000).bind λr1=>bif !r1 then (tq u p0 p1 p2 true) else ((lv u p2 ((p1.length:Int))).bind λr2=>tq u p0 p1 p2 (!r2))
def sP(u:Nat)(p0:World):Option ai :=
  (sO u 1 p0.bN p0.fC.av).bind λr1=>some r1
def ud(u:Nat)(x8:List Int):Option ((List Int)×Bool) :=
  some ((x8,true))
def k6(u jz:Nat)(x4:Int)(x5:List Int):Option ((List Int)×Bool):=match jz with
  | 0=>none
  | jz+1=>bif decide (x4 > 1) then (bif decide (x4 < 256) then (some ((([]:List Int),false))) else ((ed (decide (((([IntKind.wrap .u8 (fG .i64 x4 255)]:List Int)).length+x5.length)*1<=140737488355328))).bind λ_=>(λz0 z1=>k6 u jz z0 z1) (m7 .i64 x4 8) ((([IntKind.wrap .u8 (fG .i64 x4 255)]:List Int))++x5))) else (ud u x5)
def mU(u:Nat)(p0:Int):Option ((List Int)×Bool) :=
  (bJ u p0 1 562949953421311).bind λr1=>bif !r1 then (some ((([]:List Int),false))) else (k6 u u p0 (([]:List Int)))
def wT(u:Nat)  : Option Bool :=
  some true
def jS(u:Nat)(HM:Int->ai->Option Bool)(x6:Int)(x13:Bool)(p0:ai):Option Bool :=
  bif x13 then (some false) else (HM (be .i64 x6 1) p0)
def iY(u gI:Nat)(x6:Int)(p0:ai):Option Bool:=match gI with
  | 0=>none
  | gI+1=>bif decide (x6 < ((p0.aO.length:Int))) then ((dV p0.aO x6).bind λy8=>(mU u y8.fS).bind λr9=>(fm u p0.av p0.aX x6).bind λr10=>bif !r9.2 then (jS u (λz0 z1=>iY u gI z0 z1) x6 true p0) else (bif ((r9.1.length:Int)) != r10.2 then (jS u (λz0 z1=>iY u gI z0 z1) x6 true p0) else ((gO u r9.1).bind λr11=>(dV p0.aO x6).bind λy12=>jS u (λz0 z1=>iY u gI z0 z1) x6 (!([r11.fW,r11.fS] == [y12.fW,y12.fS])) p0))) else (wT u)
def pP(u:Nat)(x4:Bool)(p0:ai):Option Bool :=
  bif x4 then (some false) else (iY u u 0 p0)
def ia(u:Nat)(p0:ai):Option Bool :=
  bif p0.aP == 0 then (bif p0.av == 0 then (bif p0.aX == 0 then (some (((p0.aO.length:Int)) == 0)) else (some false)) else (some false)) else ((bJ u p0.aP 1 1000000).bind λr1=>bif !r1 then (pP u true p0) else ((lv u p0.av p0.aX).bind λr2=>bif !r2 then (pP u true p0) else ((lx u p0.av p0.aX).bind λr3=>pP u (((p0.aO.length:Int)) != r3) p0)))
def zf(u:Nat)(p0:ai)(s:Unit):Option Bool:=(wT u)
def ue(u:Nat)(p0:ai)(y8:cV)(i_:Nat)(s:Unit)(k_:Unit->Option Bool):Option Bool:=(mU u y8.fS).bind λr9=>(fm u p0.av p0.aX (i_:Int)).bind λr10=>bif !r9.2 then (jS u (λz0 z1=>k_ ()) (i_:Int) true p0) else (bif ((r9.1.length:Int)) != r10.2 then (jS u (λz0 z1=>k_ ()) (i_:Int) true p0) else ((gO u r9.1).bind λr11=>(dV p0.aO (i_:Int)).bind λy12=>jS u (λz0 z1=>k_ ()) (i_:Int) (!([r11.fW,r11.fS] == [y12.fW,y12.fS])) p0))
theorem GK(u:Nat)(p0:ai)(s:Unit)(k:Nat)(hn:p0.aO.length<=9223372036854775807)(hk:p0.aO.length < k):iY u k 0 p0=Pu.cy (zf u p0) (ue u p0) p0.aO 0 s:=Pu.eI (λ(k:Nat) (s:Unit) (i:Int)=>iY u k i p0) hn (λ_ _ _=>rfl) s hk
def qO(u:Nat)  : Option Bool :=
  some true
def iC(u gZ:Nat)(p0 p1:List cV)(x2:Int):Option Bool:=match gZ with
  | 0=>none
  | gZ+1=>bif decide (x2 < ((p0.length:Int))) then ((dV p0 x2).bind λy4=>(dV p1 x2).bind λy5=>bif !([y4.fW,y4.fS] == [y5.fW,y5.fS]) then (some false) else ((λz0 z1 z2=>iC u gZ z0 z1 z2) p0 p1 (be .i64 x2 1))) else (qO u)
def k7(u:Nat)(p0 p1:List cV):Option Bool :=
  bif ((p0.length:Int)) != ((p1.length:Int)) then (some false) else (iC u u p0 p1 0)
def zT(u:Nat)(p0 p1:List cV)(s:Unit):Option Bool:=(qO u)
def tH(u:Nat)(p0 p1:List cV)(y4:cV)(i_:Nat)(s:Unit)(k_:Unit->Option Bool):Option Bool:=(dV p1 (i_:Int)).bind λy5=>bif !([y4.fW,y4.fS] == [y5.fW,y5.fS]) then (some false) else ((λz0 z1 z2=>k_ ()) p0 p1 (be .i64 (i_:Int) 1))
theorem zU(u:Nat)(p0 p1:List cV)(s:Unit)(k:Nat)(hn:p0.length<=9223372036854775807)(hk:p0.length < k):iC u k p0 p1 0=Pu.cy (zT u p0 p1) (tH u p0 p1) p0 0 s:=Pu.eI (λ(k:Nat) (s:Unit) (i:Int)=>iC u k p0 p1 i) hn (λ_ _ _=>rfl) s hk
def sQ(u:Nat)(p0:ai)(p1:List Int):Option Bool :=
  bif ((p1.length:Int)) == p0.aX then ((mP u p1 p0.av).bind λr1=>(k7 u r1 p0.aO).bind λr2=>some r2) else (some false)
def ly(u:Nat)(p0:ai):Option ai :=
  (ed (decide (((([]:List cV)).length+p0.aO.length)*16<=140737488355328))).bind λ_=>some ((ai.mk p0.aP p0.av p0.aX ((([]:List cV))++p0.aO)))
def pQ(u:Nat)(p0:ai):Option bF :=
  (ia u p0).bind λr1=>bif !r1 then (some ((bF.mk 0 ([])))) else ((ed (decide (0<=p0.aX) && (p0.aX == 0 || p0.aX == p0.aX))).bind λ_=>(ed (decide (sY p0.aX*1<=140737488355328))).bind λ_=>some ((bF.mk 0 (zQh (sY p0.aX) (0:Int)))))
def uX(u:Nat)(p0:Int):Option Bool :=
  (bJ u p0 0 63000).bind λr1=>some r1
def nc(u:Nat)(p0:Int):Option (Int×Int) :=
  (uX u p0).bind λr1=>bif !r1 then (some ((0,0))) else (some ((tY .i64 p0 251,NA .i64 p0 251)))
def sR(u:Nat)(p0 p1:Int):Option Int :=
  (bJ u p1 1 1000000000000).bind λr1=>bif !r1 then (some 0) else ((ed (!(p1 == 0))).bind λ_=>(ed (!(p1 == 0))).bind λ_=>some (tY .i64 (be .i64 (tY .i64 p0 p1) p1) p1))
def oY(u:Nat)(p0 p1:Int)(p2 p3:Int)(x5:Bool):Option Int :=
  bif x5 then (some p0) else ((nc u p0).bind λr6=>(sR u (eH .i64 r6.2 (lH .i64 (tY .i64 p1 251) p2)) 251).bind λr7=>(sR u (be .i64 (eH .i64 r6.1 p2) p3) 251).bind λr8=>(sR u (be .i64 r7 r8) 251).bind λr9=>some (be .i64 r8 (lH .i64 251 r9)))
def uY(u:Nat)(p0 p1:Int)(p2 p3:Int):Option Int :=
  (uX u p0).bind λr1=>bif !r1 then (oY u p0 p1 p2 p3 true) else ((bJ u p1 1 1000000000000).bind λr2=>bif !r2 then (oY u p0 p1 p2 p3 true) else ((bJ u p2 0 255).bind λr3=>bif !r3 then (oY u p0 p1 p2 p3 true) else ((bJ u p3 0 255).bind λr4=>oY u p0 p1 p2 p3 (!r4))))
def qo(u:Nat)(x17:List Int):Option ((List Int)) :=
  some x17
def gE(u jA:Nat)(p0:List Int)(p1:Int)(x8:List Int)(x9 x10:Int):Option ((List Int)):=match jA with
  | 0=>none
  | jA+1=>bif decide (x10 < ((p0.length:Int))) then ((dV p0 (eH .i64 x10 p1)).bind λy14=>(dV p0 x10).bind λy15=>(uY u x9 p1 (IntKind.wrap .i64 y14) (IntKind.wrap .i64 y15)).bind λr16=>(ed (decide ((x8.length+(([r16]:List Int)).length)*8<=140737488355328))).bind λ_=>(λz0 z1 z2 z3 z4=>gE u jA z0 z1 z2 z3 z4) p0 p1 (x8++(([r16]:List Int))) r16 (be .i64 x10 1)) else (qo u x8)
def qp(u:Nat)(p0:List Int)(p1:Int)(x1:Bool):Option ((List Int)) :=
  bif x1 then (some (([]:List Int))) else ((ed (cO 0 p1 p0.length)).bind λ_=>(mO u ((p0.take (sY p1)).drop (sY 0))).bind λr3=>(ed (decide (((([]:List Int)).length+(([r3]:List Int)).length)*8<=140737488355328))).bind λ_=>gE u u p0 p1 ((([]:List Int))++(([r3]:List Int))) r3 p1)
def rr(u:Nat)(p0:List Int)(p1:Int):Option ((List Int)) :=
  bif decide (p1 < 1) then (qp u p0 p1 true) else (qp u p0 p1 (decide (p1 > ((p0.length:Int)))))
def CW(u:Nat)(p0:List Int)(p1:Int)(s:(List Int)×Int):Option ((List Int)):=(qo u s.1)
def CX(u:Nat)(p0:List Int)(p1:Int)(i_:Nat)(s:(List Int)×Int)(k_:((List Int)×Int)->Option ((List Int))):Option ((List Int)):=(dV p0 (eH .i64 (i_:Int) p1)).bind λy14=>(dV p0 (i_:Int)).bind λy15=>(uY u s.2 p1 (IntKind.wrap .i64 y14) (IntKind.wrap .i64 y15)).bind λr16=>(ed (decide ((s.1.length+(([r16]:List Int)).length)*8<=140737488355328))).bind λ_=>(λz0 z1 z2 z3 z4=>k_ (z2,z3)) p0 p1 (s.1++(([r16]:List Int))) r16 (be .i64 (i_:Int) 1)
theorem PZ(u:Nat)(p0:List Int)(p1:Int)(s:(List Int)×Int)(k:Nat)(hn:(((p0.length:Int)):Int)<=9223372036854775807)(hk:sY (((p0.length:Int))) < k):gE u k p0 p1 s.1 s.2 0=Pu.qg (CW u p0 p1) (CX u p0 p1) (sY (((p0.length:Int)))) 0 s:=Pu.sg (λ(k:Nat) (s:(List Int)×Int) (i:Int)=>gE u k p0 p1 s.1 s.2 i) hn (λ_ _ _=>rfl) s hk
def qq(u:Nat)  : Option Int :=
  some (-1)
def k8(u:Nat)(ED:(List Int)->Int->((List Int))->Int->cV->Option Int)(p0:List Int)(p2:Int)(r2:(List Int))(x4:Int)(x9:Bool)(p1:cV):Option Int :=
  bif x9 then (some x4) else (ED p0 p2 r2 (be .i64 x4 1) p1)
def eN(u gk:Nat)(p0:List Int)(p2:Int)(r2:(List Int))(x4:Int)(p1:cV):Option Int:=match gk with
  | 0=>none
  | gk+1=>bif decide (x4 < ((r2.length:Int))) then ((dV r2 x4).bind λy6=>bif y6 == p1.fW then ((ed (cO x4 (be .i64 x4 p2) p0.length)).bind λ_=>(gO u ((p0.take (sY (be .i64 x4 p2))).drop (sY x4))).bind λr8=>k8 u (λz0 z1 z2 z3 z4=>eN u gk z0 z1 z2 z3 z4) p0 p2 r2 x4 ([r8.fW,r8.fS] == [p1.fW,p1.fS]) p1) else (k8 u (λz0 z1 z2 z3 z4=>eN u gk z0 z1 z2 z3 z4) p0 p2 r2 x4 false p1)) else (qq u)
def rt(u:Nat)(p0:List Int)(p1:cV)(p2:Int):Option Int :=
  (bJ u p2 1 6).bind λr1=>bif !r1 then (some (-1)) else ((rr u p0 p2).bind λr2=>eN u u p0 p2 r2 0 p1)
def CY(u:Nat)(p0:List Int)(p2:Int)(r2:(List Int))(p1:cV)(s:Unit):Option Int:=(qq u)
def CZ(u:Nat)(p0:List Int)(p2:Int)(r2:(List Int))(p1:cV)(y6:Int)(i_:Nat)(s:Unit)(k_:Unit->Option Int):Option Int:=bif y6 == p1.fW then ((ed (cO (i_:Int) (be .i64 (i_:Int) p2) p0.length)).bind λ_=>(gO u ((p0.take (sY (be .i64 (i_:Int) p2))).drop (sY (i_:Int)))).bind λr8=>k8 u (λz0 z1 z2 z3 z4=>k_ ()) p0 p2 r2 (i_:Int) ([r8.fW,r8.fS] == [p1.fW,p1.fS]) p1) else (k8 u (λz0 z1 z2 z3 z4=>k_ ()) p0 p2 r2 (i_:Int) false p1)
theorem P0(u:Nat)(p0:List Int)(p2:Int)(r2:(List Int))(p1:cV)(s:Unit)(k:Nat)(hn:r2.length<=9223372036854775807)(hk:r2.length < k):eN u k p0 p2 r2 0 p1=Pu.cy (CY u p0 p2 r2 p1) (CZ u p0 p2 r2 p1) r2 0 s:=Pu.eI (λ(k:Nat) (s:Unit) (i:Int)=>eN u k p0 p2 r2 i p1) hn (λ_ _ _=>rfl) s hk
def qr(u:Nat)(p0:List Int)(p2:Int)(r1:Int×Int)(x2:Bool)(p1:ai):Option Int :=
  bif x2 then (some (-1)) else ((dV p1.aO p2).bind λy3=>(rt u p0 y3 r1.2).bind λr4=>some r4)
def oZ(u:Nat)(p0:List Int)(p1:ai)(p2:Int):Option Int :=
  (fm u p1.av p1.aX p2).bind λr1=>bif r1.2 == 0 then (qr u p0 p2 r1 true p1) else (qr u p0 p2 r1 (decide (p2>=((p1.aO.length:Int)))) p1)
def eo(u:Nat)(p0:Int):Option Bool :=
  (bJ u p0 0 1099511627775).bind λr1=>some r1
def eD(u:Nat)(p0 p1:Int):Option Bool :=
  (eo u p0).bind λr1=>bif r1 then ((bJ u p1 0 39).bind λr2=>bif r2 then ((ed (decide (0<=p1))).bind λ_=>some ((fG .i64 (m7 .i64 p0 p1) 1) == 1)) else (some false)) else (some false)
def md(u:Nat)(p0 p1:Int)(x3:Bool):Option Int :=
  bif x3 then (some p0) else ((ed (decide (0<=p1))).bind λ_=>some (u3 .i64 p0 (lI .i64 1 p1)))
def hH(u:Nat)(p0 p1:Int):Option Int :=
  (eo u p0).bind λr1=>bif !r1 then (md u p0 p1 true) else ((bJ u p1 0 39).bind λr2=>md u p0 p1 (!r2))
def tr(u:Nat)(p2:Int)(p1:bF)(x15:List Int):Option (Bool×bF) :=
  (hH u p1.bn p2).bind λr16=>some ((true,(bF.mk r16 x15)))
def nB(u lr:Nat)(p2:Int)(p3:List Int)(r6:Int×Int)(x9:Int)(p1:bF)(x10:List Int):Option (Bool×bF):=match lr with
  | 0=>none
  | lr+1=>bif decide (x9 < ((p3.length:Int))) then ((dV p3 x9).bind λy13=>(dV x10 (be .i64 r6.1 x9)).bind λy14=>(λz0 z1 z2 z3 z4 z5=>nB u lr z0 z1 z2 z3 z4 z5) p2 p3 r6 (be .i64 x9 1) p1 (x10.set (sY (be .i64 r6.1 x9)) y13)) else (tr u p2 p1 x10)
def nC(u:Nat)(p2:Int)(p3:List Int)(x5:Bool)(p0:ai)(p1:bF):Option (Bool×bF) :=
  bif x5 then (some ((false,p1))) else ((fm u p0.av p0.aX p2).bind λr6=>nB u u p2 p3 r6 0 p1 p1.ca)
def qP(u:Nat)(p0:ai)(p1:bF)(p2:Int)(p3:List Int):Option (Bool×bF) :=
  (bJ u p2 0 (eH .i64 ((p0.aO.length:Int)) 1)).bind λr1=>bif !r1 then (nC u p2 p3 true p0 p1) else ((eD u p1.bn p2).bind λr2=>bif r2 then (nC u p2 p3 true p0 p1) else ((gO u p3).bind λr3=>(dV p0.aO p2).bind λy4=>bif !([r3.fW,r3.fS] == [y4.fW,y4.fS]) then (nC u p2 p3 true p0 p1) else (nC u p2 p3 (decide (((p3.length:Int)) > 6)) p0 p1)))
def uf(u:Nat)(p2:Int)(p3:List Int)(r6:Int×Int)(p1:bF)(s:(List Int)):Option (Bool×bF):=(tr u p2 p1 s)
def ug(u:Nat)(p2:Int)(p3:List Int)(r6:Int×Int)(p1:bF)(y13:Int)(i_:Nat)(s:(List Int))(k_:((List Int))->Option (Bool×bF)):Option (Bool×bF):=(dV s (be .i64 r6.1 (i_:Int))).bind λy14=>(λz0 z1 z2 z3 z4 z5=>k_ z5) p2 p3 r6 (be .i64 (i_:Int) 1) p1 (s.set (sY (be .i64 r6.1 (i_:Int))) y13)
theorem GL(u:Nat)(p2:Int)(p3:List Int)(r6:Int×Int)(p1:bF)(s:(List Int))(k:Nat)(hn:p3.length<=9223372036854775807)(hk:p3.length < k):nB u k p2 p3 r6 0 p1 s=Pu.cy (uf u p2 p3 r6 p1) (ug u p2 p3 r6 p1) p3 0 s:=Pu.eI (λ(k:Nat) (s:(List Int)) (i:Int)=>nB u k p2 p3 r6 i p1 s) hn (λ_ _ _=>rfl) s hk
def ru(u:Nat)(x18:Int)(x19:List Int):Option bF :=
  some ((bF.mk x18 x19))
def jt(u:Nat)(By:(List Int)->Int->ai->Int->(List Int)->Option bF)(p1:List Int)(x6:Int)(p0:ai)(x16:Int)(x17:List Int):Option bF :=
  By p1 (be .i64 x6 1) p0 x16 x17
def fZ(u eW:Nat)(p1:List Int)(x6:Int)(p0:ai)(x7:Int)(x8:List Int):Option bF:=match eW with
  | 0=>none
  | eW+1=>bif decide (x6 < ((p0.aO.length:Int))) then ((oZ u p1 p0 x6).bind λr12=>(fm u p0.av p0.aX x6).bind λr13=>bif decide (r12>=0) then ((ed (cO r12 (be .i64 r12 r13.2) p1.length)).bind λ_=>(qP u p0 ((bF.mk x7 x8)) x6 ((p1.take (sY (be .i64 r12 r13.2))).drop (sY r12))).bind λr15=>jt u (λz0 z1 z2 z3 z4=>fZ u eW z0 z1 z2 z3 z4) p1 x6 p0 r15.2.bn r15.2.ca) else (jt u (λz0 z1 z2 z3 z4=>fZ u eW z0 z1 z2 z3 z4) p1 x6 p0 x7 x8)) else (ru u x7 x8)
def mf(u:Nat)(p0:ai)(p1:List Int):Option bF :=
  (pQ u p0).bind λr1=>(ia u p0).bind λr2=>bif !r2 then (some r1) else (fZ u u p1 0 p0 r1.bn r1.ca)
def uC(u:Nat)(p1:List Int)(p0:ai)(s:Int×(List Int)):Option bF:=(ru u s.1 s.2)
def pJ(u:Nat)(p1:List Int)(p0:ai)(i_:Nat)(s:Int×(List Int))(k_:(Int×(List Int))->Option bF):Option bF:=(oZ u p1 p0 (i_:Int)).bind λr12=>(fm u p0.av p0.aX (i_:Int)).bind λr13=>bif decide (r12>=0) then ((ed (cO r12 (be .i64 r12 r13.2) p1.length)).bind λ_=>(qP u p0 ((bF.mk s.1 s.2)) (i_:Int) ((p1.take (sY (be .i64 r12 r13.2))).drop (sY r12))).bind λr15=>jt u (λz0 z1 z2 z3 z4=>k_ (z3,z4)) p1 (i_:Int) p0 r15.2.bn r15.2.ca) else (jt u (λz0 z1 z2 z3 z4=>k_ (z3,z4)) p1 (i_:Int) p0 s.1 s.2)
theorem Br(u:Nat)(p1:List Int)(p0:ai)(s:Int×(List Int))(k:Nat)(hn:(((p0.aO.length:Int)):Int)<=9223372036854775807)(hk:sY (((p0.aO.length:Int))) < k):fZ u k p1 0 p0 s.1 s.2=Pu.qg (uC u p1 p0) (pJ u p1 p0) (sY (((p0.aO.length:Int)))) 0 s:=Pu.sg (λ(k:Nat) (s:Int×(List Int)) (i:Int)=>fZ u k p1 i p0 s.1 s.2) hn (λ_ _ _=>rfl) s hk
def mh(u:Nat)(p1:List Int)(x3:Bool)(p0:ai):Option aA :=
  bif x3 then (some ((aA.mk false 0 0 ((ai.mk 0 0 0 ([]))) ((bF.mk 0 ([]))) 0 ([]) 0))) else ((ly u p0).bind λr4=>(mf u p0 p1).bind λr5=>some ((aA.mk true (-1) 0 r4 r5 6 ([]) 0)))
def nD(u:Nat)(p0:ai)(p1:List Int):Option aA :=
  bif p0.aP == 0 then (mh u p1 true p0) else ((ia u p0).bind λr1=>bif !r1 then (mh u p1 true p0) else ((sQ u p0 p1).bind λr2=>mh u p1 (!r2) p0))
def nd(u:Nat)(p0:Int)(p1:List Int)(x2:Bool):Option ar :=
  bif x2 then (some ((ar.mk ([]) ([]) ((dc.mk 0 0 0)) ([])))) else ((ed (decide (((([]:List Int)).length+p1.length)*1<=140737488355328))).bind λ_=>some ((ar.mk ((([]:List Int))++p1) ([]) ((dc.mk p0 0 ((p1.length:Int)))) ([]))))
def lz(u:Nat)(p0:Int)(p1:List Int):Option ar :=
  (bJ u p0 0 1000000).bind λr1=>bif !r1 then (nd u p0 p1 true) else (nd u p0 p1 (decide (((p1.length:Int)) > 240)))
def o3(u:Nat)(p0:hZ)(p1:cS)(p2:List Int)(r8:(List aW))(x36:List aA)(x37:List ar):Option World :=
  some ((World.mk p0 ((cS.mk ((([]:List Int))++p1.b9))) ((([]:List Int))++p2) r8 x36 x37 ([]) ([]) 0))
def iD(u:Nat)(CQ:(List Int)->(List aW)->Int->hZ->cS->((List aW))->(List aA)->(List ar)->Option World)(p2:List Int)(p3:List aW)(x12:Int)(p0:hZ)(p1:cS)(r8:(List aW))(x13:List aA)(x14:List ar)(x21:Bool)(x22 x23:Int)(x24 x25 x26:Int)(x27:List cV)(x28:Int)(x29:List Int)(x30:Int)(x31:List bM)(x32:Int):Option World :=
  (ed (decide ((x13.length+([(aA.mk x21 x22 x23 ((ai.mk x24 x25 x26 x27)) ((bF.mk x28 x29)) x30 x31 x32)]).length)*144<=140737488355328))).bind λ_=>(dV p3 x12).bind λy34=>(lz u 0 y34.fB).bind λr35=>(ed (decide ((x14.length+([r35]).length)*96<=140737488355328))).bind λ_=>CQ p2 p3 (be .i64 x12 1) p0 p1 r8 (x13++([(aA.mk x21 x22 x23 ((ai.mk x24 x25 x26 x27)) ((bF.mk x28 x29)) x30 x31 x32)])) (x14++([r35]))
def dH(u fp:Nat)(p2:List Int)(p3:List aW)(x12:Int)(p0:hZ)(p1:cS)(r8:(List aW))(x13:List aA)(x14:List ar):Option World:=match fp with
  | 0=>none
  | fp+1=>bif decide (x12 < ((p1.b9.length:Int))) then ((lO u p1 x12).bind λr18=>bif x12 == 0 then ((sP u ((World.mk p0 ((cS.mk ((([]:List Int))++p1.b9))) ((([]:List Int))++p2) r8 x13 x14 ([]) ([]) 0))).bind λr19=>(nD u r19 p2).bind λr20=>iD u (λz0 z1 z2 z3 z4 z5 z6 z7=>dH u fp z0 z1 z2 z3 z4 z5 z6 z7) p2 p3 x12 p0 p1 r8 x13 x14 r20.fq r20.bP r20.bC r20.aw.aP r20.aw.av r20.aw.aX r20.aw.aO r20.bu.bn r20.bu.ca r20.aY r20.bd r20.bx) else (iD u (λz0 z1 z2 z3 z4 z5 z6 z7=>dH u fp z0 z1 z2 z3 z4 z5 z6 z7) p2 p3 x12 p0 p1 r8 x13 x14 r18.fq r18.bP r18.bC r18.aw.aP r18.aw.av r18.aw.aX r18.aw.aO r18.bu.bn r18.bu.ca r18.aY r18.bd r18.bx)) else (o3 u p0 p1 p2 r8 x13 x14)
def ki(u:Nat)(p2:List Int)(p3:List aW)(x5:Bool)(p0:hZ)(p1:cS):Option World :=
  bif x5 then (some ((World.mk ((hZ.mk 0 0 0 0)) ((cS.mk ([]))) ([]) ([]) ([]) ([]) ([]) ([]) 0))) else ((ed (decide (((([]:List Int)).length+p1.b9.length)*8<=140737488355328))).bind λ_=>(ed (decide (((([]:List Int)).length+p2.length)*1<=140737488355328))).bind λ_=>(gp u p3).bind λr8=>dH u u p2 p3 0 p0 p1 r8 ([]) ([]))
def pR(u:Nat)(p0:hZ)(p1:cS)(p2:List Int)(p3:List aW):Option World :=
  (tG u p0).bind λr1=>bif !r1 then (ki u p2 p3 true p0 p1) else ((od u p1).bind λr2=>bif !r2 then (ki u p2 p3 true p0 p1) else ((lv u p0.av ((p2.length:Int))).bind λr3=>bif !r3 then (ki u p2 p3 true p0 p1) else ((rm u p3 ((p1.b9.length:Int))).bind λr4=>ki u p2 p3 (!r4) p0 p1)))
def B1(u:Nat)(p2:List Int)(p3:List aW)(p0:hZ)(p1:cS)(r8:(List aW))(s:(List aA)×(List ar)):Option World:=(o3 u p0 p1 p2 r8 s.1 s.2)
def B2(u:Nat)(p2:List Int)(p3:List aW)(p0:hZ)(p1:cS)(r8:(List aW))(i_:Nat)(s:(List aA)×(List ar))(k_:((List aA)×(List ar))->Option World):Option World:=(lO u p1 (i_:Int)).bind λr18=>bif (i_:Int) == 0 then ((sP u ((World.mk p0 ((cS.mk ((([]:List Int))++p1.b9))) ((([]:List Int))++p2) r8 s.1 s.2 ([]) ([]) 0))).bind λr19=>(nD u r19 p2).bind λr20=>iD u (λz0 z1 z2 z3 z4 z5 z6 z7=>k_ (z6,z7)) p2 p3 (i_:Int) p0 p1 r8 s.1 s.2 r20.fq r20.bP r20.bC r20.aw.aP r20.aw.av r20.aw.aX r20.aw.aO r20.bu.bn r20.bu.ca r20.aY r20.bd r20.bx) else (iD u (λz0 z1 z2 z3 z4 z5 z6 z7=>k_ (z6,z7)) p2 p3 (i_:Int) p0 p1 r8 s.1 s.2 r18.fq r18.bP r18.bC r18.aw.aP r18.aw.av r18.aw.aX r18.aw.aO r18.bu.bn r18.bu.ca r18.aY r18.bd r18.bx)
theorem OM(u:Nat)(p2:List Int)(p3:List aW)(p0:hZ)(p1:cS)(r8:(List aW))(s:(List aA)×(List ar))(k:Nat)(hn:(((p1.b9.length:Int)):Int)<=9223372036854775807)(hk:sY (((p1.b9.length:Int))) < k):dH u k p2 p3 0 p0 p1 r8 s.1 s.2=Pu.qg (B1 u p2 p3 p0 p1 r8) (B2 u p2 p3 p0 p1 r8) (sY (((p1.b9.length:Int)))) 0 s:=Pu.sg (λ(k:Nat) (s:(List aA)×(List ar)) (i:Int)=>dH u k p2 p3 i p0 p1 r8 s.1 s.2) hn (λ_ _ _=>rfl) s hk
def rv(u:Nat)(r2:(List Int)×aG)(x19:List aW)(r1:cS×aG)(x20:List Int)(x21 x22:Int):Option (World×aG) :=
  (oV u ((aG.mk x20 x21 x22))).bind λr23=>(pR u r23.1 r1.1 r2.1 x19).bind λr24=>some ((r24,r23.2))
def ib(u kF:Nat)(r2:(List Int)×aG)(x8:List aW)(x9:Int)(r1:cS×aG)(x10:List Int)(x11 x12:Int):Option (World×aG):=match kF with
  | 0=>none
  | kF+1=>bif decide (x9 < ((r1.1.b9.length:Int))) then ((qN u ((aG.mk x10 x11 x12)) r2.1).bind λr18=>(ed (decide ((x8.length+([(aW.mk r18.1)]).length)*24<=140737488355328))).bind λ_=>(λz0 z1 z2 z3 z4 z5 z6=>ib u kF z0 z1 z2 z3 z4 z5 z6) r2 (x8++([(aW.mk r18.1)])) (be .i64 x9 1) r1 r18.2.fB r18.2.fI r18.2.fH) else (rv u r2 x8 r1 x10 x11 x12)
def tI(u:Nat)(p0:aG):Option (World×aG) :=
  (oU u p0).bind λr1=>(lu u r1.2).bind λr2=>ib u u r2 (([]:List aW)) 0 r1 r2.2.fB r2.2.fI r2.2.fH
def EJ(u:Nat)(r2:(List Int)×aG)(r1:cS×aG)(s:(List aW)×(List Int)×Int×Int):Option (World×aG):=(rv u r2 s.1 r1 s.2.1 s.2.2.1 s.2.2.2)
def EK(u:Nat)(r2:(List Int)×aG)(r1:cS×aG)(i_:Nat)(s:(List aW)×(List Int)×Int×Int)(k_:((List aW)×(List Int)×Int×Int)->Option (World×aG)):Option (World×aG):=(qN u ((aG.mk s.2.1 s.2.2.1 s.2.2.2)) r2.1).bind λr18=>(ed (decide ((s.1.length+([(aW.mk r18.1)]).length)*24<=140737488355328))).bind λ_=>(λz0 z1 z2 z3 z4 z5 z6=>k_ (z1,z4,z5,z6)) r2 (s.1++([(aW.mk r18.1)])) (be .i64 (i_:Int) 1) r1 r18.2.fB r18.2.fI r18.2.fH
theorem QC(u:Nat)(r2:(List Int)×aG)(r1:cS×aG)(s:(List aW)×(List Int)×Int×Int)(k:Nat)(hn:(((r1.1.b9.length:Int)):Int)<=9223372036854775807)(hk:sY (((r1.1.b9.length:Int))) < k):ib u k r2 s.1 0 r1 s.2.1 s.2.2.1 s.2.2.2=Pu.qg (EJ u r2 r1) (EK u r2 r1) (sY (((r1.1.b9.length:Int)))) 0 s:=Pu.sg (λ(k:Nat) (s:(List aW)×(List Int)×Int×Int) (i:Int)=>ib u k r2 s.1 i r1 s.2.1 s.2.2.1 s.2.2.2) hn (λ_ _ _=>rfl) s hk
def mQ(u:Nat)(p0:bF):Option bF :=
  (ed (decide (((([]:List Int)).length+p0.ca.length)*1<=140737488355328))).bind λ_=>some ((bF.mk p0.bn ((([]:List Int))++p0.ca)))
def dz(u:Nat)(p0:aA):Option aA :=
  (ly u p0.aw).bind λr1=>(mQ u p0.bu).bind λr2=>(ed (decide (((([]:List bM)).length+p0.bd.length)*40<=140737488355328))).bind λ_=>some ((aA.mk p0.fq p0.bP p0.bC r1 r2 p0.aY ((([]:List bM))++p0.bd) p0.bx))
def gq(u:Nat)(p0:c8):Option c8 :=
  (ed (decide (((([]:List Int)).length+p0.fB.length)*1<=140737488355328))).bind λ_=>some ((c8.mk p0.iA p0.zS ((([]:List Int))++p0.fB) p0.fR))
def rx(u:Nat)(p0:ar)(x11:List c8):Option ar :=
  some ((ar.mk ((([]:List Int))++p0.fA) ((([]:List Int))++p0.fB) p0.fR x11))
def jb(u fQ:Nat)(x5:Int)(p0:ar)(x6:List c8):Option ar:=match fQ with
  | 0=>none
  | fQ+1=>bif decide (x5 < ((p0.fP.length:Int))) then ((dV p0.fP x5).bind λy9=>(gq u y9).bind λr10=>(ed (decide ((x6.length+([r10]).length)*64<=140737488355328))).bind λ_=>(λz0 z1 z2=>jb u fQ z0 z1 z2) (be .i64 x5 1) p0 (x6++([r10]))) else (rx u p0 x6)
def ef(u:Nat)(p0:ar):Option ar :=
  (ed (decide (((([]:List Int)).length+p0.fA.length)*1<=140737488355328))).bind λ_=>(ed (decide (((([]:List Int)).length+p0.fB.length)*1<=140737488355328))).bind λ_=>jb u u 0 p0 (([]:List c8))
def EM(u:Nat)(p0:ar)(s:(List c8)):Option ar:=(rx u p0 s)
def xn(u:Nat)(p0:ar)(y9:c8)(i_:Nat)(s:(List c8))(k_:((List c8))->Option ar):Option ar:=(gq u y9).bind λr10=>(ed (decide ((s.length+([r10]).length)*64<=140737488355328))).bind λ_=>(λz0 z1 z2=>k_ z2) (be .i64 (i_:Int) 1) p0 (s++([r10]))
theorem EN(u:Nat)(p0:ar)(s:(List c8))(k:Nat)(hn:p0.fP.length<=9223372036854775807)(hk:p0.fP.length < k):jb u k 0 p0 s=Pu.cy (EM u p0) (xn u p0) p0.fP 0 s:=Pu.eI (λ(k:Nat) (s:(List c8)) (i:Int)=>jb u k i p0 s) hn (λ_ _ _=>rfl) s hk
def jM(u:Nat)(x10:List ah):Option ((List ah)) :=
  some x10
def dL(u cX:Nat)(p0 x3:List ah)(x4:Int):Option ((List ah)):=match cX with
  | 0=>none
  | cX+1=>bif decide (x4 < ((p0.length:Int))) then ((dV p0 x4).bind λy7=>(dV p0 x4).bind λy8=>(dV p0 x4).bind λy9=>(ed (decide (((([]:List Int)).length+y9.fB.length)*1<=140737488355328))).bind λ_=>(ed (decide ((x3.length+([(ah.mk y7.dn y8.qL ((([]:List Int))++y9.fB))]).length)*40<=140737488355328))).bind λ_=>(λz0 z1 z2=>dL u cX z0 z1 z2) p0 (x3++([(ah.mk y7.dn y8.qL ((([]:List Int))++y9.fB))])) (be .i64 x4 1)) else (jM u x3)
def fX(u:Nat)(p0:List ah):Option ((List ah)) :=
  dL u u p0 (([]:List ah)) 0
def wU(u:Nat)(p0:List ah)(s:(List ah)):Option ((List ah)):=(jM u s)
def pS(u:Nat)(p0:List ah)(y7:ah)(i_:Nat)(s:(List ah))(k_:((List ah))->Option ((List ah))):Option ((List ah)):=(dV p0 (i_:Int)).bind λy8=>(dV p0 (i_:Int)).bind λy9=>(ed (decide (((([]:List Int)).length+y9.fB.length)*1<=140737488355328))).bind λ_=>(ed (decide ((s.length+([(ah.mk y7.dn y8.qL ((([]:List Int))++y9.fB))]).length)*40<=140737488355328))).bind λ_=>(λz0 z1 z2=>k_ z1) p0 (s++([(ah.mk y7.dn y8.qL ((([]:List Int))++y9.fB))])) (be .i64 (i_:Int) 1)
theorem wV(u:Nat)(p0:List ah)(s:(List ah))(k:Nat)(hn:p0.length<=9223372036854775807)(hk:p0.length < k):dL u k p0 s 0=Pu.cy (wU u p0) (pS u p0) p0 0 s:=Pu.eI (λ(k:Nat) (s:(List ah)) (i:Int)=>dL u k p0 s i) hn (λ_ _ _=>rfl) s hk
def ng(u:Nat)(p0:World)(r3:(List aW))(x12:List aA)(x21:List ar):Option World :=
  (fX u p0.bk).bind λr22=>(ed (decide (((([]:List cE)).length+p0.cL.length)*24<=140737488355328))).bind λ_=>some ((World.mk p0.fC ((cS.mk ((([]:List Int))++p0.fT.b9))) ((([]:List Int))++p0.bN) r3 x12 x21 r22 ((([]:List cE))++p0.cL) p0.bj))
def fv(u fc:Nat)(x15:Int)(p0:World)(r3:(List aW))(x12:List aA)(x16:List ar):Option World:=match fc with
  | 0=>none
  | fc+1=>bif decide (x15 < ((p0.fD.length:Int))) then ((dV p0.fD x15).bind λy19=>(ef u y19).bind λr20=>(ed (decide ((x16.length+([r20]).length)*96<=140737488355328))).bind λ_=>(λz0 z1 z2 z3 z4=>fv u fc z0 z1 z2 z3 z4) (be .i64 x15 1) p0 r3 x12 (x16++([r20]))) else (ng u p0 r3 x12 x16)
def nh(u:Nat)(p0:World)(r3:(List aW))(x12:List aA):Option World :=
  fv u u 0 p0 r3 x12 (([]:List ar))
def fw(u fd:Nat)(x6:Int)(p0:World)(r3:(List aW))(x7:List aA):Option World:=match fd with
  | 0=>none
  | fd+1=>bif decide (x6 < ((p0.fN.length:Int))) then ((dV p0.fN x6).bind λy10=>(dz u y10).bind λr11=>(ed (decide ((x7.length+([r11]).length)*144<=140737488355328))).bind λ_=>(λz0 z1 z2 z3=>fw u fd z0 z1 z2 z3) (be .i64 x6 1) p0 r3 (x7++([r11]))) else (nh u p0 r3 x7)
def mV(u:Nat)(p0:World):Option World :=
  (ed (decide (((([]:List Int)).length+p0.fT.b9.length)*8<=140737488355328))).bind λ_=>(ed (decide (((([]:List Int)).length+p0.bN.length)*1<=140737488355328))).bind λ_=>(gp u p0.bI).bind λr3=>fw u u 0 p0 r3 (([]:List aA))
def wl(u:Nat)(p0:World)(r3:(List aW))(x12:List aA)(s:(List ar)):Option World:=(ng u p0 r3 x12 s)
def wm(u:Nat)(p0:World)(r3:(List aW))(x12:List aA)(y19:ar)(i_:Nat)(s:(List ar))(k_:((List ar))->Option World):Option World:=(ef u y19).bind λr20=>(ed (decide ((s.length+([r20]).length)*96<=140737488355328))).bind λ_=>(λz0 z1 z2 z3 z4=>k_ z4) (be .i64 (i_:Int) 1) p0 r3 x12 (s++([r20]))
theorem C0(u:Nat)(p0:World)(r3:(List aW))(x12:List aA)(s:(List ar))(k:Nat)(hn:p0.fD.length<=9223372036854775807)(hk:p0.fD.length < k):fv u k 0 p0 r3 x12 s=Pu.cy (wl u p0 r3 x12) (wm u p0 r3 x12) p0.fD 0 s:=Pu.eI (λ(k:Nat) (s:(List ar)) (i:Int)=>fv u k i p0 r3 x12 s) hn (λ_ _ _=>rfl) s hk
def wo(u:Nat)(p0:World)(r3:(List aW))(s:(List aA)):Option World:=(nh u p0 r3 s)
def wq(u:Nat)(p0:World)(r3:(List aW))(y10:aA)(i_:Nat)(s:(List aA))(k_:((List aA))->Option World):Option World:=(dz u y10).bind λr11=>(ed (decide ((s.length+([r11]).length)*144<=140737488355328))).bind λ_=>(λz0 z1 z2 z3=>k_ z3) (be .i64 (i_:Int) 1) p0 r3 (s++([r11]))
theorem C1(u:Nat)(p0:World)(r3:(List aW))(s:(List aA))(k:Nat)(hn:p0.fN.length<=9223372036854775807)(hk:p0.fN.length < k):fw u k 0 p0 r3 s=Pu.cy (wo u p0 r3) (wq u p0 r3) p0.fN 0 s:=Pu.eI (λ(k:Nat) (s:(List aA)) (i:Int)=>fw u k i p0 r3 s) hn (λ_ _ _=>rfl) s hk
def og(u:Nat)(p0:aG):Option (ai×(List Int)×aG) :=
  (lu u p0).bind λr1=>(bc u r1.2 5).bind λr2=>(bc u r2.2 5).bind λr3=>(sO u (be .i64 1 r2.1) r1.1 (be .i64 2 r3.1)).bind λr4=>some ((r4,r1.1,r3.2))
def vk(u:Nat)(p0:aG):Option (Int×aG) :=
  (i8 u p0 3).bind λr1=>bif r1.1 then ((dG u r1.2 (([0,1,3,1099511627775,549755813888]:List Int))).bind λr2=>some ((r2.1,r2.2))) else ((bc u r1.2 65536).bind λr3=>(bc u r3.2 20).bind λr4=>(ed (decide (0<=r4.1))).bind λ_=>some ((lI .i64 r3.1 r4.1,r4.2)))
def ry(u:Nat)(p0 p1 p2:Int):Option fe :=
  some ((fe.mk 2 p0 ((ai.mk 0 0 0 ([]))) p1 p2 0 ([])))
def lA(u:Nat)(p0 p1:Int)(p2:List Int):Option fe :=
  (ed (decide (((([]:List Int)).length+p2.length)*1<=140737488355328))).bind λ_=>some ((fe.mk 3 p0 ((ai.mk 0 0 0 ([]))) 0 0 p1 ((([]:List Int))++p2)))
def rz(u:Nat)(p0:aG):Option (fe×aG) :=
  (bc u p0 4).bind λr1=>bif r1.1 == 0 then ((og u r1.2).bind λr2=>some (((fe.mk 1 0 r2.1 0 0 0 ([])),r2.2.2))) else (bif r1.1 == 1 then ((vk u r1.2).bind λr3=>(bc u r3.2 3).bind λr4=>(bc u r4.2 64).bind λr5=>(ry u r4.1 r3.1 r5.1).bind λr6=>some ((r6,r5.2))) else (bif r1.1 == 2 then ((gD u r1.2 5).bind λr7=>(ed (decide (((([112]:List Int)).length+r7.1.length)*1<=140737488355328))).bind λ_=>(bc u r7.2 3).bind λr9=>(bc u r9.2 9).bind λr10=>(lA u (be .i64 1 r9.1) r10.1 ((([112]:List Int))++r7.1)).bind λr11=>some ((r11,r10.2))) else ((bc u r1.2 3).bind λr12=>some (((fe.mk 4 r12.1 ((ai.mk 0 0 0 ([]))) 0 0 0 ([])),r12.2)))))
def o4(u:Nat)(p0 p1:ai):Option Bool :=
  bif p0.aP == p1.aP then (bif p0.av == p1.av then (bif p0.aX == p1.aX then ((k7 u p0.aO p1.aO).bind λr1=>some r1) else (some false)) else (some false)) else (some false)
def nE(u:Nat)(r1 x2:Bool)(p0:fe):Option Bool :=
  bif p0.bl == 1 then (bif p0.aP == 0 then (bif p0.aw.aP != 0 then ((ia u p0.aw).bind λr3=>bif r3 then (some x2) else (some false)) else (some false)) else (some false)) else (bif p0.bl == 2 then ((bJ u p0.aP 0 1000000).bind λr4=>bif r4 then (bif r1 then ((eo u p0.ck).bind λr5=>bif r5 then ((eo u p0.bY).bind λr6=>bif r6 then (bif p0.fI == 0 then (some (((p0.fB.length:Int)) == 0)) else (some false)) else (some false)) else (some false)) else (some false)) else (some false)) else (bif p0.bl == 3 then ((bJ u p0.aP 1 1000000).bind λr7=>bif r7 then (bif r1 then (bif p0.ck == 0 then (bif p0.bY == 0 then ((bJ u p0.fI 0 39).bind λr8=>bif r8 then ((bJ u ((p0.fB.length:Int)) 1 6).bind λr9=>some r9) else (some false)) else (some false)) else (some false)) else (some false)) else (some false)) else (bif p0.bl == 4 then ((bJ u p0.aP 0 1000000).bind λr10=>bif r10 then (bif r1 then (some x2) else (some false)) else (some false)) else (some false))))
def sS(u:Nat)(p0:fe):Option Bool :=
  (o4 u p0.aw ((ai.mk 0 0 0 ([])))).bind λr1=>bif p0.ck == 0 then (bif p0.bY == 0 then (bif p0.fI == 0 then (nE u r1 (((p0.fB.length:Int)) == 0) p0) else (nE u r1 false p0)) else (nE u r1 false p0)) else (nE u r1 false p0)
def rA(u:Nat)(x9:Int)(x10:List Int):Option ((List Int)) :=
  (ed (decide ((x10.length+(([IntKind.wrap .u8 x9]:List Int)).length)*1<=140737488355328))).bind λ_=>some (x10++(([IntKind.wrap .u8 x9]:List Int)))
def kH(u kB:Nat)(x5:Int)(x6:List Int):Option ((List Int)):=match kB with
  | 0=>none
  | kB+1=>bif decide (x5 > 127) then ((ed (decide ((x6.length+(([IntKind.wrap .u8 (u3 .i64 (fG .i64 x5 127) 128)]:List Int)).length)*1<=140737488355328))).bind λ_=>(λz0 z1=>kH u kB z0 z1) (m7 .i64 x5 7) (x6++(([IntKind.wrap .u8 (u3 .i64 (fG .i64 x5 127) 128)]:List Int)))) else (rA u x5 x6)
def eg(u:Nat)(p0:List Int)(p1:Int):Option ((List Int)) :=
  (ed (decide (((([]:List Int)).length+p0.length)*1<=140737488355328))).bind λ_=>(bJ u p1 0 1000000000000).bind λr2=>bif !r2 then (some ((([]:List Int))++p0)) else (kH u u p1 ((([]:List Int))++p0))
def o5(u:Nat)(x7:List Int)(x8:Int):Option ((List Int)) :=
  (ed (decide ((x7.length+(([IntKind.wrap .u8 x8]:List Int)).length)*1<=140737488355328))).bind λ_=>some (x7++(([IntKind.wrap .u8 x8]:List Int)))
def iE(u iS:Nat)(x3:List Int)(x4:Int):Option ((List Int)):=match iS with
  | 0=>none
  | iS+1=>bif decide (x4 > 127) then ((ed (decide ((x3.length+(([IntKind.wrap .u8 (u3 .i64 (fG .i64 x4 127) 128)]:List Int)).length)*1<=140737488355328))).bind λ_=>(λz0 z1=>iE u iS z0 z1) (x3++(([IntKind.wrap .u8 (u3 .i64 (fG .i64 x4 127) 128)]:List Int))) (m7 .i64 x4 7)) else (o5 u x3 x4)
def pT(u:Nat)(p0:List Int)(p1:Int):Option ((List Int)) :=
  iE u u p0 p1
def vm(u:Nat)(x14:List Int):Option ((List Int)) :=
  some x14
def mi(u kA:Nat)(x8:List Int)(x9:Int)(p1:ai):Option ((List Int)):=match kA with
  | 0=>none
  | kA+1=>bif decide (x9 < ((p1.aO.length:Int))) then ((dV p1.aO x9).bind λy12=>(pT u x8 y12.fS).bind λr13=>(λz0 z1 z2=>mi u kA z0 z1 z2) r13 (be .i64 x9 1) p1) else (vm u x8)
def tJ(u:Nat)(p0:List Int)(p1:ai):Option ((List Int)) :=
  (ed (decide (((([]:List Int)).length+p0.length)*1<=140737488355328))).bind λ_=>(ia u p1).bind λr2=>bif !r2 then (some ((([]:List Int))++p0)) else ((eg u ((([]:List Int))++p0) p1.aP).bind λr3=>(eg u r3 p1.av).bind λr4=>(eg u r4 p1.aX).bind λr5=>mi u u r5 0 p1)
def xo(u:Nat)(p1:ai)(s:(List Int)):Option ((List Int)):=(vm u s)
def sT(u:Nat)(p1:ai)(y12:cV)(i_:Nat)(s:(List Int))(k_:((List Int))->Option ((List Int))):Option ((List Int)):=(pT u s y12.fS).bind λr13=>(λz0 z1 z2=>k_ z0) r13 (be .i64 (i_:Int) 1) p1
theorem EO(u:Nat)(p1:ai)(s:(List Int))(k:Nat)(hn:p1.aO.length<=9223372036854775807)(hk:p1.aO.length < k):mi u k s 0 p1=Pu.cy (xo u p1) (sT u p1) p1.aO 0 s:=Pu.eI (λ(k:Nat) (s:(List Int)) (i:Int)=>mi u k s i p1) hn (λ_ _ _=>rfl) s hk
def rB(u:Nat)(p0:Int):Option (Int×Int) :=
  some ((fG .i64 p0 1048575,m7 .i64 p0 20))
def uL(u:Nat)(p0 p1:List Int):Option ((List Int)) :=
  (eg u p0 ((p1.length:Int))).bind λr1=>(ed (decide ((r1.length+p1.length)*1<=140737488355328))).bind λ_=>some (r1++p1)
def jc(u:Nat)(x15:List Int):Option ((List Int)) :=
  (mO u x15).bind λr16=>(eg u x15 r16).bind λr17=>some r17
def mR(u:Nat)(p0:fe):Option ((List Int)) :=
  (sS u p0).bind λr1=>bif !r1 then (some (([]:List Int))) else ((eg u (([]:List Int)) p0.bl).bind λr2=>bif p0.bl == 1 then ((tJ u r2 p0.aw).bind λr3=>jc u r3) else (bif p0.bl == 2 then ((rB u p0.ck).bind λr4=>(eg u r2 p0.aP).bind λr5=>(eg u r5 r4.1).bind λr6=>(eg u r6 r4.2).bind λr7=>(rB u p0.bY).bind λr8=>(eg u r7 r8.1).bind λr9=>(eg u r9 r8.2).bind λr10=>jc u r10) else (bif p0.bl == 3 then ((eg u r2 p0.aP).bind λr11=>(eg u r11 p0.fI).bind λr12=>(uL u r12 p0.fB).bind λr13=>jc u r13) else ((eg u r2 p0.aP).bind λr14=>jc u r14))))
def rC(u:Nat)  : Option (Int×Int×Bool) :=
  some ((0,0,false))
def oh(u:Nat)(mL:(List Int)->Int->Int->Int->Option (Int×Int×Bool))(p0:List Int)(p1 x3:Int)(y8 x4:Int)(x10:Bool):Option (Int×Int×Bool) :=
  bif x10 then (some ((0,0,false))) else (some ((u3 .i64 x3 (lI .i64 (fG .i64 (IntKind.wrap .i64 y8) 127) (lH .i64 7 x4)),be .i64 (be .i64 p1 x4) 1,true)))
def kI(u:Nat)(mL:(List Int)->Int->Int->Int->Option (Int×Int×Bool))(p0:List Int)(p1 x3 x4:Int)(x7:Bool):Option (Int×Int×Bool) :=
  bif x7 then (some ((0,0,false))) else ((dV p0 (be .i64 p1 x4)).bind λy8=>(ed (decide (0<=(lH .i64 7 x4)))).bind λ_=>bif decide ((IntKind.wrap .i64 y8) < 128) then (bif (IntKind.wrap .i64 y8) == 0 then (bif decide (x4 > 0) then (oh u mL p0 p1 x3 y8 x4 true) else (oh u mL p0 p1 x3 y8 x4 (decide ((u3 .i64 x3 (lI .i64 (fG .i64 (IntKind.wrap .i64 y8) 127) (lH .i64 7 x4))) > 1000000000000)))) else (oh u mL p0 p1 x3 y8 x4 (decide ((u3 .i64 x3 (lI .i64 (fG .i64 (IntKind.wrap .i64 y8) 127) (lH .i64 7 x4))) > 1000000000000)))) else (mL p0 p1 (u3 .i64 x3 (lI .i64 (fG .i64 (IntKind.wrap .i64 y8) 127) (lH .i64 7 x4))) (be .i64 x4 1)))
def dM(u fM:Nat)(p0:List Int)(p1 x3 x4:Int):Option (Int×Int×Bool):=match fM with
  | 0=>none
  | fM+1=>bif decide (x4 < 6) then (bif decide (p1 < 0) then (kI u (λz0 z1 z2 z3=>dM u fM z0 z1 z2 z3) p0 p1 x3 x4 true) else (kI u (λz0 z1 z2 z3=>dM u fM z0 z1 z2 z3) p0 p1 x3 x4 (decide (p1>=(eH .i64 ((p0.length:Int)) x4))))) else (rC u)
def f0(u:Nat)(p0:List Int)(p1:Int):Option (Int×Int×Bool) :=
  dM u u p0 p1 0 0
def EP(u:Nat)(p0:List Int)(p1 s:Int):Option (Int×Int×Bool):=(rC u)
def EQ(u:Nat)(p0:List Int)(p1:Int)(i_:Nat)(s:Int)(k_:Int->Option (Int×Int×Bool)):Option (Int×Int×Bool):=bif decide (p1 < 0) then (kI u (λz0 z1 z2 z3=>k_ z2) p0 p1 s (i_:Int) true) else (kI u (λz0 z1 z2 z3=>k_ z2) p0 p1 s (i_:Int) (decide (p1>=(eH .i64 ((p0.length:Int)) (i_:Int)))))
theorem QD(u:Nat)(p0:List Int)(p1 s:Int)(k:Nat)(hn:(6:Int)<=9223372036854775807)(hk:sY (6) < k):dM u k p0 p1 s 0=Pu.qg (EP u p0 p1) (EQ u p0 p1) (sY (6)) 0 s:=Pu.sg (λ(k:Nat) (s i:Int)=>dM u k p0 p1 s i) hn (λ_ _ _=>rfl) s hk
def o6(u:Nat)  : Option (Int×Int×Bool) :=
  some ((0,0,false))
def fJ(u iR:Nat)(p0:List Int)(p1 x3 x4:Int):Option (Int×Int×Bool):=match iR with
  | 0=>none
  | iR+1=>bif decide (x4 < 8) then (bif decide (p1>=(eH .i64 ((p0.length:Int)) x4)) then (some ((0,0,false))) else ((dV p0 (be .i64 p1 x4)).bind λy7=>(ed (decide (0<=(lH .i64 7 x4)))).bind λ_=>bif decide ((IntKind.wrap .i64 y7) < 128) then (bif decide ((IntKind.wrap .i64 y7) > 0) then (some ((u3 .i64 x3 (lI .i64 (fG .i64 (IntKind.wrap .i64 y7) 127) (lH .i64 7 x4)),be .i64 (be .i64 p1 x4) 1,true))) else (some ((u3 .i64 x3 (lI .i64 (fG .i64 (IntKind.wrap .i64 y7) 127) (lH .i64 7 x4)),be .i64 (be .i64 p1 x4) 1,x4 == 0)))) else ((λz0 z1 z2 z3=>fJ u iR z0 z1 z2 z3) p0 p1 (u3 .i64 x3 (lI .i64 (fG .i64 (IntKind.wrap .i64 y7) 127) (lH .i64 7 x4))) (be .i64 x4 1)))) else (o6 u)
def pU(u:Nat)(p0:List Int)(p1:Int):Option (Int×Int×Bool) :=
  fJ u u p0 p1 0 0
def B3(u:Nat)(p0:List Int)(p1 s:Int):Option (Int×Int×Bool):=(o6 u)
def B4(u:Nat)(p0:List Int)(p1:Int)(i_:Nat)(s:Int)(k_:Int->Option (Int×Int×Bool)):Option (Int×Int×Bool):=bif decide (p1>=(eH .i64 ((p0.length:Int)) (i_:Int))) then (some ((0,0,false))) else ((dV p0 (be .i64 p1 (i_:Int))).bind λy7=>(ed (decide (0<=(lH .i64 7 (i_:Int))))).bind λ_=>bif decide ((IntKind.wrap .i64 y7) < 128) then (bif decide ((IntKind.wrap .i64 y7) > 0) then (some ((u3 .i64 s (lI .i64 (fG .i64 (IntKind.wrap .i64 y7) 127) (lH .i64 7 (i_:Int))),be .i64 (be .i64 p1 (i_:Int)) 1,true))) else (some ((u3 .i64 s (lI .i64 (fG .i64 (IntKind.wrap .i64 y7) 127) (lH .i64 7 (i_:Int))),be .i64 (be .i64 p1 (i_:Int)) 1,(i_:Int) == 0)))) else ((λz0 z1 z2 z3=>k_ z2) p0 p1 (u3 .i64 s (lI .i64 (fG .i64 (IntKind.wrap .i64 y7) 127) (lH .i64 7 (i_:Int)))) (be .i64 (i_:Int) 1)))
theorem ON(u:Nat)(p0:List Int)(p1 s:Int)(k:Nat)(hn:(8:Int)<=9223372036854775807)(hk:sY (8) < k):fJ u k p0 p1 s 0=Pu.qg (B3 u p0 p1) (B4 u p0 p1) (sY (8)) 0 s:=Pu.sg (λ(k:Nat) (s i:Int)=>fJ u k p0 p1 s i) hn (λ_ _ _=>rfl) s hk
def kJ(u:Nat)(x19:Int)(r1 r2 r3:Int×Int×Bool)(x20:List cV):Option (ai×Int×Bool) :=
  (ia u ((ai.mk r1.1 r2.1 r3.1 x20))).bind λr21=>bif !r21 then (some (((ai.mk 0 0 0 ([])),0,false))) else (some (((ai.mk r1.1 r2.1 r3.1 x20),x19,true)))
def ic(u:Nat)(F7:(List Int)->(Int×Int×Bool)->(Int×Int×Bool)->(Int×Int×Bool)->Int->Int->(List cV)->Option (ai×Int×Bool))(p0:List Int)(r1 r2 r3:Int×Int×Bool)(x8 x9:Int)(x15:Bool)(x10:List cV):Option (ai×Int×Bool) :=
  bif x15 then ((pU u p0 x8).bind λr16=>bif !r16.2.2 then (some (((ai.mk 0 0 0 ([])),0,false))) else ((mU u r16.1).bind λr17=>(gO u r17.1).bind λr18=>(ed (decide ((x10.length+([(cV.mk r18.fW r16.1)]).length)*16<=140737488355328))).bind λ_=>F7 p0 r1 r2 r3 r16.2.1 (be .i64 x9 1) (x10++([(cV.mk r18.fW r16.1)])))) else (kJ u x8 r1 r2 r3 x10)
def c6(u dJ:Nat)(p0:List Int)(r1 r2 r3:Int×Int×Bool)(x8 x9:Int)(x10:List cV):Option (ai×Int×Bool):=match dJ with
  | 0=>none
  | dJ+1=>(lx u r2.1 r3.1).bind λr14=>bif decide (x9 < r14) then (ic u (λz0 z1 z2 z3 z4 z5 z6=>c6 u dJ z0 z1 z2 z3 z4 z5 z6) p0 r1 r2 r3 x8 x9 (decide (r1.1 > 0)) x10) else (ic u (λz0 z1 z2 z3 z4 z5 z6=>c6 u dJ z0 z1 z2 z3 z4 z5 z6) p0 r1 r2 r3 x8 x9 false x10)
def mj(u:Nat)(p0:List Int)(r1 r2 r3:Int×Int×Bool)(x4:Bool):Option (ai×Int×Bool) :=
  bif x4 then (some (((ai.mk 0 0 0 ([])),0,false))) else (c6 u u p0 r1 r2 r3 r3.2.1 0 ([]))
def oj(u:Nat)(p0:List Int)(p1:Int):Option (ai×Int×Bool) :=
  (f0 u p0 p1).bind λr1=>(f0 u p0 r1.2.1).bind λr2=>(f0 u p0 r2.2.1).bind λr3=>bif !r1.2.2 then (mj u p0 r1 r2 r3 true) else (bif !r2.2.2 then (mj u p0 r1 r2 r3 true) else (mj u p0 r1 r2 r3 (!r3.2.2)))
def k9(u:Nat)(p0:List Int)(r1:Int×Int×Bool)(x2:Bool):Option ((List Int)×Int×Bool) :=
  bif x2 then (some ((([]:List Int),0,false))) else ((ed (cO r1.2.1 (be .i64 r1.2.1 r1.1) p0.length)).bind λ_=>(ed (decide (((([]:List Int)).length+((p0.take (sY (be .i64 r1.2.1 r1.1))).drop (sY r1.2.1)).length)*1<=140737488355328))).bind λ_=>some (((([]:List Int))++((p0.take (sY (be .i64 r1.2.1 r1.1))).drop (sY r1.2.1)),be .i64 r1.2.1 r1.1,true)))
def mW(u:Nat)(p0:List Int)(p1 p2:Int):Option ((List Int)×Int×Bool) :=
  (f0 u p0 p1).bind λr1=>bif !r1.2.2 then (k9 u p0 r1 true) else (bif decide (r1.1 > p2) then (k9 u p0 r1 true) else (k9 u p0 r1 (decide (r1.1 > (eH .i64 ((p0.length:Int)) r1.2.1)))))
def ni(u:Nat)(x20 p2:Int)(r2:Int×Int×Bool)(x21 x22:Int):Option (fe×Int×Bool) :=
  some (((fe.mk p2 r2.1 ((ai.mk 0 0 0 ([]))) x21 x22 0 ([])),x20,true))
def nj(u:Nat)(x14:Int)(x15:List Int)(p2:Int)(r2:Int×Int×Bool):Option (fe×Int×Bool) :=
  (dV x15 0).bind λy16=>(dV x15 1).bind λy17=>(dV x15 2).bind λy18=>(dV x15 3).bind λy19=>ni u x14 p2 r2 (be .i64 y16 (lI .i64 y17 20)) (be .i64 y18 (lI .i64 y19 20))
def jE(u:Nat)(EF:(List Int)->Int->(List Int)->Int->Int->(Int×Int×Bool)->Option (fe×Int×Bool))(p0:List Int)(x6:Int)(x7:List Int)(x8:Int)(r12:Int×Int×Bool)(x13:Bool)(p2:Int)(r2:Int×Int×Bool):Option (fe×Int×Bool) :=
  bif x13 then (some (((fe.mk p2 r2.1 ((ai.mk 0 0 0 ([]))) 0 0 0 ([])),0,false))) else ((ed (decide ((x7.length+(([r12.1]:List Int)).length)*8<=140737488355328))).bind λ_=>EF p0 r12.2.1 (x7++(([r12.1]:List Int))) (be .i64 x8 1) p2 r2)
def cB(u dy:Nat)(p0:List Int)(x6:Int)(x7:List Int)(x8 p2:Int)(r2:Int×Int×Bool):Option (fe×Int×Bool):=match dy with
  | 0=>none
  | dy+1=>bif decide (x8 < 4) then ((f0 u p0 x6).bind λr12=>bif !r12.2.2 then (jE u (λz0 z1 z2 z3 z4 z5=>cB u dy z0 z1 z2 z3 z4 z5) p0 x6 x7 x8 r12 true p2 r2) else (jE u (λz0 z1 z2 z3 z4 z5=>cB u dy z0 z1 z2 z3 z4 z5) p0 x6 x7 x8 r12 (decide (r12.1>=1048576)) p2 r2)) else (nj u x6 x7 p2 r2)
def eE(u:Nat)(p0:List Int)(p1 p2:Int):Option (fe×Int×Bool) :=
  bif p2 == 1 then ((oj u p0 p1).bind λr1=>some (((fe.mk p2 0 r1.1 0 0 0 ([])),r1.2.1,r1.2.2))) else ((f0 u p0 p1).bind λr2=>bif !r2.2.2 then (some (((fe.mk p2 r2.1 ((ai.mk 0 0 0 ([]))) 0 0 0 ([])),0,false))) else (bif p2 == 2 then (cB u u p0 r2.2.1 (([]:List Int)) 0 p2 r2) else (bif p2 == 3 then ((f0 u p0 r2.2.1).bind λr13=>(mW u p0 r13.2.1 6).bind λr14=>bif r13.2.2 then (some (((fe.mk p2 r2.1 ((ai.mk 0 0 0 ([]))) 0 0 r13.1 r14.1),r14.2.1,r14.2.2))) else (some (((fe.mk p2 r2.1 ((ai.mk 0 0 0 ([]))) 0 0 r13.1 r14.1),r14.2.1,false)))) else (ni u r2.2.1 p2 r2 0 0))))
def C2(u:Nat)(p0:List Int)(p2:Int)(r2:Int×Int×Bool)(s:Int×(List Int)):Option (fe×Int×Bool):=(nj u s.1 s.2 p2 r2)
def C3(u:Nat)(p0:List Int)(p2:Int)(r2:Int×Int×Bool)(i_:Nat)(s:Int×(List Int))(k_:(Int×(List Int))->Option (fe×Int×Bool)):Option (fe×Int×Bool):=(f0 u p0 s.1).bind λr12=>bif !r12.2.2 then (jE u (λz0 z1 z2 z3 z4 z5=>k_ (z1,z2)) p0 s.1 s.2 (i_:Int) r12 true p2 r2) else (jE u (λz0 z1 z2 z3 z4 z5=>k_ (z1,z2)) p0 s.1 s.2 (i_:Int) r12 (decide (r12.1>=1048576)) p2 r2)
theorem P1(u:Nat)(p0:List Int)(p2:Int)(r2:Int×Int×Bool)(s:Int×(List Int))(k:Nat)(hn:(4:Int)<=9223372036854775807)(hk:sY (4) < k):cB u k p0 s.1 s.2 0 p2 r2=Pu.qg (C2 u p0 p2 r2) (C3 u p0 p2 r2) (sY (4)) 0 s:=Pu.sg (λ(k:Nat) (s:Int×(List Int)) (i:Int)=>cB u k p0 s.1 s.2 i p2 r2) hn (λ_ _ _=>rfl) s hk
def ml(u:Nat)(x9:Bool)(r3:fe×Int×Bool):Option (fe×Bool) :=
  bif x9 then (some (((fe.mk 0 0 ((ai.mk 0 0 0 ([]))) 0 0 0 ([])),false))) else (some ((r3.1,true)))
def om(u:Nat)(p0:List Int)(r3:fe×Int×Bool)(x5:Bool):Option (fe×Bool) :=
  bif x5 then (some (((fe.mk 0 0 ((ai.mk 0 0 0 ([]))) 0 0 0 ([])),false))) else ((f0 u p0 r3.2.1).bind λr6=>bif !r6.2.2 then (ml u true r3) else (bif r6.2.1 != ((p0.length:Int)) then (ml u true r3) else ((ed (cO 0 r3.2.1 p0.length)).bind λ_=>(mO u ((p0.take (sY r3.2.1)).drop (sY 0))).bind λr8=>ml u (r6.1 != r8) r3)))
def oo(u:Nat)(p0:List Int)(r1:Int×Int×Bool)(x2:Bool):Option (fe×Bool) :=
  bif x2 then (some (((fe.mk 0 0 ((ai.mk 0 0 0 ([]))) 0 0 0 ([])),false))) else ((eE u p0 r1.2.1 r1.1).bind λr3=>bif !r3.2.2 then (om u p0 r3 true) else ((sS u r3.1).bind λr4=>om u p0 r3 (!r4)))
def jT(u:Nat)(p0:List Int):Option (fe×Bool) :=
  (f0 u p0 0).bind λr1=>bif !r1.2.2 then (oo u p0 r1 true) else (oo u p0 r1 (decide (((p0.length:Int)) > 400)))
def mm(u:Nat)(p0 p1:List Int):Option Bool :=
  some ((strOfNums p0).toList == (strOfNums p1).toList)
def o7(u:Nat)  : Option Bool :=
  some false
def fK(u eM:Nat)(x4:Int)(p0:World)(p1:cq):Option Bool:=match eM with
  | 0=>none
  | eM+1=>bif decide (x4 < ((p0.bk.length:Int))) then ((dV p0.bk x4).bind λy6=>(mm u y6.fB p1.fP.fB).bind λr7=>bif r7 then (some true) else ((λz0 z1 z2=>fK u eM z0 z1 z2) (be .i64 x4 1) p0 p1)) else (o7 u)
def iF(u:Nat)(x2:Bool)(p0:World)(p1:cq):Option Bool :=
  bif x2 then (some true) else (fK u u 0 p0 p1)
def jU(u:Nat)(p0:World)(p1:cq):Option Bool :=
  bif p1.bl != 7 then (some true) else ((jT u p1.fP.fB).bind λr1=>bif !r1.2 then (iF u true p0 p1) else (bif r1.1.bl == 4 then (iF u true p0 p1) else (iF u (r1.1.bl == 3) p0 p1)))
def vn(u:Nat)(p0:World)(p1:cq)(s:Unit):Option Bool:=(o7 u)
def qQ(u:Nat)(p0:World)(p1:cq)(y6:ah)(i_:Nat)(s:Unit)(k_:Unit->Option Bool):Option Bool:=(mm u y6.fB p1.fP.fB).bind λr7=>bif r7 then (some true) else ((λz0 z1 z2=>k_ ()) (be .i64 (i_:Int) 1) p0 p1)
theorem B5(u:Nat)(p0:World)(p1:cq)(s:Unit)(k:Nat)(hn:p0.bk.length<=9223372036854775807)(hk:p0.bk.length < k):fK u k 0 p0 p1=Pu.cy (vn u p0 p1) (qQ u p0 p1) p0.bk 0 s:=Pu.eI (λ(k:Nat) (s:Unit) (i:Int)=>fK u k i p0 p1) hn (λ_ _ _=>rfl) s hk
def qs(u:Nat)(x17 x18:List Int)(x19 x20:Int):Option ((List Int)×aG) :=
  some ((x17,(aG.mk x18 x19 x20)))
def gF(u jB:Nat)(p1:Int)(x6:List Int)(x7:Int)(x8:List Int)(x9 x10:Int):Option ((List Int)×aG):=match jB with
  | 0=>none
  | jB+1=>bif decide (x7 < p1) then ((jR u ((aG.mk x8 x9 x10))).bind λr16=>(ed (decide ((x6.length+(([IntKind.wrap .u8 r16.1]:List Int)).length)*1<=140737488355328))).bind λ_=>(λz0 z1 z2 z3 z4 z5=>gF u jB z0 z1 z2 z3 z4 z5) p1 (x6++(([IntKind.wrap .u8 r16.1]:List Int))) (be .i64 x7 1) r16.2.fB r16.2.fI r16.2.fH) else (qs u x6 x8 x9 x10)
def uM(u:Nat)(p0:aG)(p1:Int):Option ((List Int)×aG) :=
  gF u u p1 (([]:List Int)) 0 p0.fB p0.fI p0.fH
def C4(u:Nat)(p1:Int)(s:(List Int)×(List Int)×Int×Int):Option ((List Int)×aG):=(qs u s.1 s.2.1 s.2.2.1 s.2.2.2)
def C5(u:Nat)(p1:Int)(i_:Nat)(s:(List Int)×(List Int)×Int×Int)(k_:((List Int)×(List Int)×Int×Int)->Option ((List Int)×aG)):Option ((List Int)×aG):=(jR u ((aG.mk s.2.1 s.2.2.1 s.2.2.2))).bind λr16=>(ed (decide ((s.1.length+(([IntKind.wrap .u8 r16.1]:List Int)).length)*1<=140737488355328))).bind λ_=>(λz0 z1 z2 z3 z4 z5=>k_ (z1,z3,z4,z5)) p1 (s.1++(([IntKind.wrap .u8 r16.1]:List Int))) (be .i64 (i_:Int) 1) r16.2.fB r16.2.fI r16.2.fH
theorem P2(u:Nat)(p1:Int)(s:(List Int)×(List Int)×Int×Int)(k:Nat)(hn:(p1:Int)<=9223372036854775807)(hk:sY (p1) < k):gF u k p1 s.1 0 s.2.1 s.2.2.1 s.2.2.2=Pu.qg (C4 u p1) (C5 u p1) (sY (p1)) 0 s:=Pu.sg (λ(k:Nat) (s:(List Int)×(List Int)×Int×Int) (i:Int)=>gF u k p1 s.1 i s.2.1 s.2.2.1 s.2.2.2) hn (λ_ _ _=>rfl) s hk
def mn(u:Nat)(x20:List Int)(x21 x22:Int)(r1 r2:Int×aG)(x24:List Int):Option (cq×aG) :=
  some (((cq.mk 7 0 0 ((ah.mk r1.1 r2.1 x24))),(aG.mk x20 x21 x22)))
def kj(u:Nat)(r1 r2:Int×aG)(x19:List Int)(p1:World)(x20:List Int)(x21 x22:Int):Option (cq×aG) :=
  (jU u p1 ((cq.mk 7 0 0 ((ah.mk r1.1 r2.1 x19))))).bind λr23=>bif !r23 then (mn u x20 x21 x22 r1 r2 (([]:List Int))) else (mn u x20 x21 x22 r1 r2 x19)
def kl(u:Nat)(r1 r2:Int×aG)(x13:List Int)(p1:World)(x14:List Int)(x15 x16:Int):Option (cq×aG) :=
  (jU u p1 ((cq.mk 7 0 0 ((ah.mk r1.1 r2.1 x13))))).bind λr17=>bif !r17 then ((uM u ((aG.mk x14 x15 x16)) 3).bind λr18=>kj u r1 r2 r18.1 p1 r18.2.fB r18.2.fI r18.2.fH) else (kj u r1 r2 x13 p1 x14 x15 x16)
def km(u:Nat)(x6:Bool)(r1 r2:Int×aG)(r4:(List Int))(p1:World)(x7:List Int)(x8 x9:Int):Option (cq×aG) :=
  bif x6 then ((bc u ((aG.mk x7 x8 x9)) ((p1.bk.length:Int))).bind λr10=>(dV p1.bk r10.1).bind λy11=>(mN u r10.2 y11.fB).bind λr12=>kl u r1 r2 r12.1 p1 r12.2.fB r12.2.fI r12.2.fH) else (kl u r1 r2 r4 p1 x7 x8 x9)
def lP(u:Nat)(p0:aG)(p1:World):Option (cq×aG) :=
  (bc u p0 ((p1.fN.length:Int))).bind λr1=>(bc u r1.2 ((p1.fN.length:Int))).bind λr2=>(rz u r2.2).bind λr3=>(mR u r3.1).bind λr4=>bif decide (((p1.bk.length:Int)) > 0) then ((i8 u r3.2 2).bind λr5=>km u r5.1 r1 r2 r4 p1 r5.2.fB r5.2.fI r5.2.fH) else (km u false r1 r2 r4 p1 r3.2.fB r3.2.fI r3.2.fH)
def lc(u:Nat)(r1:Int×aG)(x6:Bool)(p1:World)(x7:List Int)(x8 x9:Int):Option (cq×aG) :=
  bif x6 then ((sM u ((p1.bk.length:Int)) 4).bind λr10=>(bc u ((aG.mk x7 x8 x9)) r10).bind λr11=>(bc u r11.2 12).bind λr12=>bif r12.1 == 0 then (some (((cq.mk 3 r11.1 0 ((ah.mk 0 0 ([])))),r12.2))) else (bif r12.1 == 1 then (some (((cq.mk 4 r11.1 0 ((ah.mk 0 0 ([])))),r12.2))) else (some (((cq.mk 2 r11.1 0 ((ah.mk 0 0 ([])))),r12.2))))) else (some (((cq.mk 1 r1.1 0 ((ah.mk 0 0 ([])))),(aG.mk x7 x8 x9))))
def mX(u:Nat)(p0:aG)(p1:World):Option (cq×aG) :=
  (bc u p0 ((p1.fN.length:Int))).bind λr1=>(bc u r1.2 24).bind λr2=>bif r2.1 == 0 then ((dG u r2.2 (([0,0,1,5,1099511627775,21]:List Int))).bind λr3=>some (((cq.mk 5 r1.1 r3.1 ((ah.mk 0 0 ([])))),r3.2))) else (bif r2.1 == 1 then (some (((cq.mk 6 r1.1 0 ((ah.mk 0 0 ([])))),r2.2))) else (bif r2.1 == 2 then ((lP u r2.2 p1).bind λr4=>some ((r4.1,r4.2))) else (bif decide (((p1.bk.length:Int)) > 0) then ((i8 u r2.2 3).bind λr5=>lc u r1 (!r5.1) p1 r5.2.fB r5.2.fI r5.2.fH) else (lc u r1 false p1 r2.2.fB r2.2.fI r2.2.fH))))
def vo(u:Nat)(x9:List bM):Option ((List bM)) :=
  some x9
def mp(u:Nat)(F5:(List bM)->Int->(List bM)->Int->Option ((List bM)))(p0:List bM)(p1:Int)(x8:List bM)(x4:Int):Option ((List bM)) :=
  F5 p0 p1 x8 (be .i64 x4 1)
def jd(u gW:Nat)(p0:List bM)(p1:Int)(x3:List bM)(x4:Int):Option ((List bM)):=match gW with
  | 0=>none
  | gW+1=>bif decide (x4 < ((p0.length:Int))) then ((dV p0 x4).bind λy7=>bif decide (y7.we>=p1) then (mp u (λz0 z1 z2 z3=>jd u gW z0 z1 z2 z3) p0 p1 x3 x4) else ((ed (decide ((x3.length+([(bM.mk y7.oa y7.ck y7.bY (be .i64 y7.we 1) 0)]).length)*40<=140737488355328))).bind λ_=>mp u (λz0 z1 z2 z3=>jd u gW z0 z1 z2 z3) p0 p1 (x3++([(bM.mk y7.oa y7.ck y7.bY (be .i64 y7.we 1) 0)])) x4)) else (vo u x3)
def tK(u:Nat)(p0:List bM)(p1:Int):Option ((List bM)) :=
  jd u u p0 p1 (([]:List bM)) 0
def ER(u:Nat)(p0:List bM)(p1:Int)(s:(List bM)):Option ((List bM)):=(vo u s)
def xp(u:Nat)(p0:List bM)(p1:Int)(y7:bM)(i_:Nat)(s:(List bM))(k_:((List bM))->Option ((List bM))):Option ((List bM)):=bif decide (y7.we>=p1) then (mp u (λz0 z1 z2 z3=>k_ z2) p0 p1 s (i_:Int)) else ((ed (decide ((s.length+([(bM.mk y7.oa y7.ck y7.bY (be .i64 y7.we 1) 0)]).length)*40<=140737488355328))).bind λ_=>mp u (λz0 z1 z2 z3=>k_ z2) p0 p1 (s++([(bM.mk y7.oa y7.ck y7.bY (be .i64 y7.we 1) 0)])) (i_:Int))
theorem ES(u:Nat)(p0:List bM)(p1:Int)(s:(List bM))(k:Nat)(hn:p0.length<=9223372036854775807)(hk:p0.length < k):jd u k p0 p1 s 0=Pu.cy (ER u p0 p1) (xp u p0 p1) p0 0 s:=Pu.eI (λ(k:Nat) (s:(List bM)) (i:Int)=>jd u k p0 p1 s i) hn (λ_ _ _=>rfl) s hk
def rD(u:Nat)(x11:List Int):Option ((List Int)) :=
  some x11
def oq(u:Nat)(F8:Int->(List Int)->cS->Option ((List Int)))(x3:Int)(x4:List Int)(x8:Bool)(p0:cS):Option ((List Int)) :=
  bif x8 then ((ed (decide ((x4.length+(([x3]:List Int)).length)*8<=140737488355328))).bind λ_=>(dV p0.b9 x3).bind λy10=>F8 y10 (x4++(([x3]:List Int))) p0) else (rD u x4)
def ie(u gY:Nat)(x3:Int)(x4:List Int)(p0:cS):Option ((List Int)):=match gY with
  | 0=>none
  | gY+1=>(bJ u x3 0 (eH .i64 ((p0.b9.length:Int)) 1)).bind λr7=>bif r7 then (oq u (λz0 z1 z2=>ie u gY z0 z1 z2) x3 x4 (decide (((x4.length:Int)) < ((p0.b9.length:Int)))) p0) else (oq u (λz0 z1 z2=>ie u gY z0 z1 z2) x3 x4 false p0)
def tL(u:Nat)(p0:cS)(p1:Int):Option ((List Int)) :=
  ie u u p1 (([]:List Int)) p0
def vp(u:Nat)  : Option Bool :=
  some false
def mq(u kE:Nat)(p0:List Int)(p1 x2:Int):Option Bool:=match kE with
  | 0=>none
  | kE+1=>bif decide (x2 < ((p0.length:Int))) then ((dV p0 x2).bind λy4=>bif y4 == p1 then (some true) else ((λz0 z1 z2=>mq u kE z0 z1 z2) p0 p1 (be .i64 x2 1))) else (vp u)
def tM(u:Nat)(p0:List Int)(p1:Int):Option Bool :=
  mq u u p0 p1 0
def xq(u:Nat)(p0:List Int)(p1:Int)(s:Unit):Option Bool:=(vp u)
def sU(u:Nat)(p0:List Int)(p1 y4:Int)(i_:Nat)(s:Unit)(k_:Unit->Option Bool):Option Bool:=bif y4 == p1 then (some true) else ((λz0 z1 z2=>k_ ()) p0 p1 (be .i64 (i_:Int) 1))
theorem ET(u:Nat)(p0:List Int)(p1:Int)(s:Unit)(k:Nat)(hn:p0.length<=9223372036854775807)(hk:p0.length < k):mq u k p0 p1 0=Pu.cy (xq u p0 p1) (sU u p0 p1) p0 0 s:=Pu.eI (λ(k:Nat) (s:Unit) (i:Int)=>mq u k p0 p1 i) hn (λ_ _ _=>rfl) s hk
def pV(u:Nat)(p0:cS)(p1 p2:Int):Option Bool :=
  bif p1 != p2 then ((tL u p0 p2).bind λr1=>(tM u r1 p1).bind λr2=>some r2) else (some false)
def o8(u:Nat)(p1 p2:Int)(x5:Bool)(p0:cS):Option Int :=
  bif x5 then ((dV p0.b9 p1).bind λy6=>some y6) else ((dV p0.b9 p2).bind λy7=>some y7)
def o9(u:Nat)(p1 p2:Int)(x3:Bool)(p0:cS):Option Int :=
  bif x3 then (some (-1)) else (bif decide (p2<=0) then (o8 u p1 p2 true p0) else ((pV u p0 p2 p1).bind λr4=>o8 u p1 p2 (!r4) p0))
def pW(u:Nat)(p0:cS)(p1 p2:Int):Option Int :=
  (od u p0).bind λr1=>bif !r1 then (o9 u p1 p2 true p0) else ((bJ u p1 1 (eH .i64 ((p0.b9.length:Int)) 1)).bind λr2=>o9 u p1 p2 (!r2) p0)
def pa(u:Nat)(p0:Int):Option Int :=
  (bJ u p0 0 40).bind λr1=>bif !r1 then (some 0) else ((ed (decide (0<=p0))).bind λ_=>some (eH .i64 (lI .i64 1 p0) 1))
def nF(u:Nat)(p0:ai):Option Int :=
  (pa u ((p0.aO.length:Int))).bind λr1=>some r1
def qt(u:Nat)(p0 p1:Int)(x3:Bool):Option Int :=
  bif x3 then (some 0) else (some (yJ .i64 p0 p1))
def pc(u:Nat)(p0 p1:Int):Option Int :=
  (eo u p0).bind λr1=>bif !r1 then (qt u p0 p1 true) else ((eo u p1).bind λr2=>qt u p0 p1 (!r2))
def vq(u:Nat)  : Option Bool :=
  some true
def ms(u kG:Nat)(p0:List Int)(x2:Int):Option Bool:=match kG with
  | 0=>none
  | kG+1=>bif decide (x2 < ((p0.length:Int))) then ((dV p0 x2).bind λy4=>bif y4 != 0 then (some false) else ((λz0 z1=>ms u kG z0 z1) p0 (be .i64 x2 1))) else (vq u)
def mS(u:Nat)(p0:List Int):Option Bool :=
  ms u u p0 0
def EU(u:Nat)(p0:List Int)(s:Unit):Option Bool:=(vq u)
def xr(u:Nat)(p0:List Int)(y4:Int)(i_:Nat)(s:Unit)(k_:Unit->Option Bool):Option Bool:=bif y4 != 0 then (some false) else ((λz0 z1=>k_ ()) p0 (be .i64 (i_:Int) 1))
theorem EV(u:Nat)(p0:List Int)(s:Unit)(k:Nat)(hn:p0.length<=9223372036854775807)(hk:p0.length < k):ms u k p0 0=Pu.cy (EU u p0) (xr u p0) p0 0 s:=Pu.eI (λ(k:Nat) (s:Unit) (i:Int)=>ms u k p0 i) hn (λ_ _ _=>rfl) s hk
def uh(u:Nat)  : Option Bool :=
  some true
def ek(u:Nat)(EC:Int->ai->bF->Option Bool)(x7:Int)(x18:Bool)(p0:ai)(p1:bF):Option Bool :=
  bif x18 then (some false) else (EC (be .i64 x7 1) p0 p1)
def eO(u dR:Nat)(x7:Int)(p0:ai)(p1:bF):Option Bool:=match dR with
  | 0=>none
  | dR+1=>bif decide (x7 < ((p0.aO.length:Int))) then ((fm u p0.av p0.aX x7).bind λr9=>(ed (cO r9.1 (be .i64 r9.1 r9.2) p1.ca.length)).bind λ_=>(eD u p1.bn x7).bind λr11=>bif r11 then ((gO u ((p1.ca.take (sY (be .i64 r9.1 r9.2))).drop (sY r9.1))).bind λr12=>(dV p0.aO x7).bind λy13=>bif !([r12.fW,r12.fS] == [y13.fW,y13.fS]) then (ek u (λz0 z1 z2=>eO u dR z0 z1 z2) x7 true p0 p1) else ((eD u p1.bn x7).bind λr14=>bif !r14 then ((mS u ((p1.ca.take (sY (be .i64 r9.1 r9.2))).drop (sY r9.1))).bind λr15=>ek u (λz0 z1 z2=>eO u dR z0 z1 z2) x7 (!r15) p0 p1) else (ek u (λz0 z1 z2=>eO u dR z0 z1 z2) x7 false p0 p1))) else ((eD u p1.bn x7).bind λr16=>bif !r16 then ((mS u ((p1.ca.take (sY (be .i64 r9.1 r9.2))).drop (sY r9.1))).bind λr17=>ek u (λz0 z1 z2=>eO u dR z0 z1 z2) x7 (!r17) p0 p1) else (ek u (λz0 z1 z2=>eO u dR z0 z1 z2) x7 false p0 p1))) else (uh u)
def lf(u:Nat)(x5:Bool)(p0:ai)(p1:bF):Option Bool :=
  bif x5 then (some false) else (eO u u 0 p0 p1)
def mY(u:Nat)(p0:ai)(p1:bF):Option Bool :=
  (ia u p0).bind λr1=>bif !r1 then (lf u true p0 p1) else ((eo u p1.bn).bind λr2=>bif !r2 then (lf u true p0 p1) else ((nF u p0).bind λr3=>(pc u p1.bn r3).bind λr4=>bif r4 != 0 then (lf u true p0 p1) else (lf u (((p1.ca.length:Int)) != p0.aX) p0 p1)))
def C6(u:Nat)(p0:ai)(p1:bF)(s:Unit):Option Bool:=(uh u)
def ws(u:Nat)(p0:ai)(p1:bF)(i_:Nat)(s:Unit)(k_:Unit->Option Bool):Option Bool:=(fm u p0.av p0.aX (i_:Int)).bind λr9=>(ed (cO r9.1 (be .i64 r9.1 r9.2) p1.ca.length)).bind λ_=>(eD u p1.bn (i_:Int)).bind λr11=>bif r11 then ((gO u ((p1.ca.take (sY (be .i64 r9.1 r9.2))).drop (sY r9.1))).bind λr12=>(dV p0.aO (i_:Int)).bind λy13=>bif !([r12.fW,r12.fS] == [y13.fW,y13.fS]) then (ek u (λz0 z1 z2=>k_ ()) (i_:Int) true p0 p1) else ((eD u p1.bn (i_:Int)).bind λr14=>bif !r14 then ((mS u ((p1.ca.take (sY (be .i64 r9.1 r9.2))).drop (sY r9.1))).bind λr15=>ek u (λz0 z1 z2=>k_ ()) (i_:Int) (!r15) p0 p1) else (ek u (λz0 z1 z2=>k_ ()) (i_:Int) false p0 p1))) else ((eD u p1.bn (i_:Int)).bind λr16=>bif !r16 then ((mS u ((p1.ca.take (sY (be .i64 r9.1 r9.2))).drop (sY r9.1))).bind λr17=>ek u (λz0 z1 z2=>k_ ()) (i_:Int) (!r17) p0 p1) else (ek u (λz0 z1 z2=>k_ ()) (i_:Int) false p0 p1))
theorem C7(u:Nat)(p0:ai)(p1:bF)(s:Unit)(k:Nat)(hn:(((p0.aO.length:Int)):Int)<=9223372036854775807)(hk:sY (((p0.aO.length:Int))) < k):eO u k 0 p0 p1=Pu.qg (C6 u p0 p1) (ws u p0 p1) (sY (((p0.aO.length:Int)))) 0 s:=Pu.sg (λ(k:Nat) (s:Unit) (i:Int)=>eO u k i p0 p1) hn (λ_ _ _=>rfl) s hk
def pe(u:Nat)(p0:ai)(p1:bF):Option Int :=
  (nF u p0).bind λr1=>(pc u r1 p1.bn).bind λr2=>some r2
def vt(u:Nat)(p0:ai)(p1:bF):Option Bool :=
  bif p0.aP != 0 then ((mY u p0 p1).bind λr1=>bif r1 then ((pe u p0 p1).bind λr2=>some (r2 == 0)) else (some false)) else (some false)
def nG(u:Nat)(p0:dc):Option Bool :=
  (bJ u p0.aP 0 1000000).bind λr1=>bif r1 then ((bJ u p0.bX 0 1).bind λr2=>bif r2 then ((bJ u p0.aX 0 240).bind λr3=>some r3) else (some false)) else (some false)
def q5(u:Nat)(p0:ar)(p1:Int):Option ((List Int)) :=
  bif p1 == 1 then (some p0.fB) else (some p0.fA)
def qR(u:Nat)(p0:c8):Option Bool :=
  bif p0.iA == 2 then (bif p0.zS == 0 then (bif ((p0.fB.length:Int)) == 0 then ((nG u p0.fR).bind λr1=>some r1) else (some false)) else (some false)) else ((bJ u p0.iA 0 1).bind λr2=>bif r2 then ((bJ u p0.zS 0 240).bind λr3=>bif r3 then (bif decide (((p0.fB.length:Int))<=(eH .i64 240 p0.zS)) then (some ([p0.fR.aP,p0.fR.bX,p0.fR.aX] == [0,0,0])) else (some false)) else (some false)) else (some false))
def vu(u:Nat)  : Option Bool :=
  some true
def kK(u kx:Nat)(x5:Int)(p0:ar):Option Bool:=match kx with
  | 0=>none
  | kx+1=>bif decide (x5 < ((p0.fP.length:Int))) then ((dV p0.fP x5).bind λy7=>(qR u y7).bind λr8=>bif !r8 then (some false) else ((λz0 z1=>kK u kx z0 z1) (be .i64 x5 1) p0)) else (vu u)
def kL(u:Nat)(x3:Bool)(p0:ar):Option Bool :=
  bif x3 then (some false) else (kK u u 0 p0)
def jV(u:Nat)(p0:ar):Option Bool :=
  bif decide (((p0.fA.length:Int)) > 240) then (kL u true p0) else (bif decide (((p0.fB.length:Int)) > 240) then (kL u true p0) else ((nG u p0.fR).bind λr1=>bif !r1 then (kL u true p0) else ((q5 u p0 p0.fR.bX).bind λr2=>bif decide (p0.fR.aX > ((r2.length:Int))) then (kL u true p0) else (kL u (decide (((p0.fP.length:Int)) > 200)) p0))))
def xt(u:Nat)(p0:ar)(s:Unit):Option Bool:=(vu u)
def sV(u:Nat)(p0:ar)(y7:c8)(i_:Nat)(s:Unit)(k_:Unit->Option Bool):Option Bool:=(qR u y7).bind λr8=>bif !r8 then (some false) else ((λz0 z1=>k_ ()) (be .i64 (i_:Int) 1) p0)
theorem EW(u:Nat)(p0:ar)(s:Unit)(k:Nat)(hn:p0.fP.length<=9223372036854775807)(hk:p0.fP.length < k):kK u k 0 p0=Pu.cy (xt u p0) (sV u p0) p0.fP 0 s:=Pu.eI (λ(k:Nat) (s:Unit) (i:Int)=>kK u k i p0) hn (λ_ _ _=>rfl) s hk
def vw(u:Nat)(p0:ar):Option Int :=
  some (eH .i64 1 p0.fR.bX)
def mZ(u:Nat)(p0:ar)(p1:c8):Option (ar×Bool) :=
  (ef u p0).bind λr1=>(gq u p1).bind λr2=>(ed (decide ((r1.fP.length+([r2]).length)*64<=140737488355328))).bind λ_=>(jV u ((ar.mk r1.fA r1.fB r1.fR (r1.fP++([r2]))))).bind λr4=>bif !r4 then ((ef u p0).bind λr5=>some ((r5,false))) else (some (((ar.mk r1.fA r1.fB r1.fR (r1.fP++([r2]))),true)))
def pX(u:Nat)(p0:ar)(p1 p2:Int)(p3:List Int):Option (ar×Bool) :=
  (bJ u p1 0 1).bind λr1=>bif !r1 then ((ef u p0).bind λr2=>some ((r2,false))) else ((mZ u p0 ((c8.mk p1 p2 p3 ((dc.mk 0 0 0))))).bind λr3=>some ((r3.1,r3.2)))
def xu(u:Nat)(x32 x33:List Int)(x34 x35 x36:Int)(x37:List c8):Option (ar×Bool) :=
  some (((ar.mk x32 x33 ((dc.mk x34 x35 x36)) x37),true))
def iG(u iQ:Nat)(p1:List Int)(p2 x12:Int)(x13 x14:List Int)(x15 x16 x17:Int)(x18:List c8)(p0:ar):Option (ar×Bool):=match iQ with
  | 0=>none
  | iQ+1=>(lx u p2 ((p1.length:Int))).bind λr26=>bif decide (x12 < r26) then ((fm u p2 ((p1.length:Int)) x12).bind λr27=>(jL u p1 p2 x12).bind λr28=>(vw u p0).bind λr29=>(pX u ((ar.mk x13 x14 ((dc.mk x15 x16 x17)) x18)) r29 r27.1 r28.1).bind λr30=>bif !r30.2 then ((ef u p0).bind λr31=>some ((r31,false))) else ((λz0 z1 z2 z3 z4 z5 z6 z7 z8 z9=>iG u iQ z0 z1 z2 z3 z4 z5 z6 z7 z8 z9) p1 p2 (be .i64 x12 1) r30.1.fA r30.1.fB r30.1.fR.aP r30.1.fR.bX r30.1.fR.aX r30.1.fP p0)) else (xu u x13 x14 x15 x16 x17 x18)
def mt(u:Nat)(p1:List Int)(p2:Int)(x4:Bool)(r1 p0:ar):Option (ar×Bool) :=
  bif x4 then (some ((r1,false))) else (iG u u p1 p2 0 r1.fA r1.fB r1.fR.aP r1.fR.bX r1.fR.aX r1.fP p0)
def pY(u:Nat)(p0:ar)(p1:List Int)(p2:Int):Option (ar×Bool) :=
  (ef u p0).bind λr1=>(jV u p0).bind λr2=>bif !r2 then (mt u p1 p2 true r1 p0) else (bif decide (((p0.fP.length:Int)) > 0) then (mt u p1 p2 true r1 p0) else ((lv u p2 ((p1.length:Int))).bind λr3=>mt u p1 p2 (!r3) r1 p0))
def pZ(u:Nat)(x14:List Int):Option ((List Int)) :=
  some x14
def jW(u gJ:Nat)(p1:Int)(p2 x8:List Int)(x9:Int):Option ((List Int)):=match gJ with
  | 0=>none
  | gJ+1=>bif decide (x9 < ((p2.length:Int))) then ((dV p2 x9).bind λy12=>(dV x8 (be .i64 p1 x9)).bind λy13=>(λz0 z1 z2 z3=>jW u gJ z0 z1 z2 z3) p1 p2 (x8.set (sY (be .i64 p1 x9)) y12) (be .i64 x9 1)) else (pZ u x8)
def p5(u:Nat)(p1:Int)(p2 x5:List Int):Option ((List Int)) :=
  jW u u p1 p2 x5 0
def lQ(u gK:Nat)(p1:Int)(p2 x3:List Int):Option ((List Int)):=match gK with
  | 0=>none
  | gK+1=>bif decide (((x3.length:Int)) < (be .i64 p1 ((p2.length:Int)))) then ((ed (decide ((x3.length+(([0]:List Int)).length)*1<=140737488355328))).bind λ_=>(λz0 z1 z2=>lQ u gK z0 z1 z2) p1 p2 (x3++(([0]:List Int)))) else (p5 u p1 p2 x3)
def ot(u:Nat)(p0:List Int)(p1:Int)(p2:List Int):Option ((List Int)) :=
  (ed (decide (((([]:List Int)).length+p0.length)*1<=140737488355328))).bind λ_=>lQ u u p1 p2 ((([]:List Int))++p0)
def ui(u:Nat)(p1:Int)(p2:List Int)(s:(List Int)):Option ((List Int)):=(pZ u s)
def uj(u:Nat)(p1:Int)(p2:List Int)(y12:Int)(i_:Nat)(s:(List Int))(k_:((List Int))->Option ((List Int))):Option ((List Int)):=(dV s (be .i64 p1 (i_:Int))).bind λy13=>(λz0 z1 z2 z3=>k_ z2) p1 p2 (s.set (sY (be .i64 p1 (i_:Int))) y12) (be .i64 (i_:Int) 1)
theorem GM(u:Nat)(p1:Int)(p2:List Int)(s:(List Int))(k:Nat)(hn:p2.length<=9223372036854775807)(hk:p2.length < k):jW u k p1 p2 s 0=Pu.cy (ui u p1 p2) (uj u p1 p2) p2 0 s:=Pu.eI (λ(k:Nat) (s:(List Int)) (i:Int)=>jW u k p1 p2 s i) hn (λ_ _ _=>rfl) s hk
def mu(u:Nat)(x5 x6:List Int)(x7 x8 x9:Int)(r1:ar):Option ar :=
  some ((ar.mk x5 x6 ((dc.mk x7 x8 x9)) r1.fP))
def je(u:Nat)(p0:ar)(p1:c8):Option ar :=
  (ef u p0).bind λr1=>(qR u p1).bind λr2=>bif !r2 then (mu u r1.fA r1.fB r1.fR.aP r1.fR.bX r1.fR.aX r1) else (bif p1.iA == 0 then ((ot u p0.fA p1.zS p1.fB).bind λr3=>mu u r3 r1.fB r1.fR.aP r1.fR.bX r1.fR.aX r1) else (bif p1.iA == 1 then ((ot u p0.fB p1.zS p1.fB).bind λr4=>mu u r1.fA r4 r1.fR.aP r1.fR.bX r1.fR.aX r1) else (mu u r1.fA r1.fB p1.fR.aP p1.fR.bX p1.fR.aX r1)))
def uN(u:Nat)(x26 x27:List Int)(x28 x29 x30:Int)(x31:List c8):Option ar :=
  some ((ar.mk x26 x27 ((dc.mk x28 x29 x30)) (([]:List c8))))
def lB(u io:Nat)(x10:Int)(p0:ar)(x11 x12:List Int)(x13 x14 x15:Int)(x16:List c8):Option ar:=match io with
  | 0=>none
  | io+1=>bif decide (x10 < ((p0.fP.length:Int))) then ((dV p0.fP x10).bind λy24=>(je u ((ar.mk x11 x12 ((dc.mk x13 x14 x15)) x16)) y24).bind λr25=>(λz0 z1 z2 z3 z4 z5 z6 z7=>lB u io z0 z1 z2 z3 z4 z5 z6 z7) (be .i64 x10 1) p0 r25.fA r25.fB r25.fR.aP r25.fR.bX r25.fR.aX r25.fP) else (uN u x11 x12 x13 x14 x15 x16)
def pf(u:Nat)(p0:ar):Option ar :=
  (ef u p0).bind λr1=>(jV u p0).bind λr2=>bif !r2 then (some r1) else (lB u u 0 p0 r1.fA r1.fB r1.fR.aP r1.fR.bX r1.fR.aX r1.fP)
def vz(u:Nat)(p0:ar)(s:(List Int)×(List Int)×Int×Int×Int×(List c8)):Option ar:=(uN u s.1 s.2.1 s.2.2.1 s.2.2.2.1 s.2.2.2.2.1 s.2.2.2.2.2)
def vA(u:Nat)(p0:ar)(y24:c8)(i_:Nat)(s:(List Int)×(List Int)×Int×Int×Int×(List c8))(k_:((List Int)×(List Int)×Int×Int×Int×(List c8))->Option ar):Option ar:=(je u ((ar.mk s.1 s.2.1 ((dc.mk s.2.2.1 s.2.2.2.1 s.2.2.2.2.1)) s.2.2.2.2.2)) y24).bind λr25=>(λz0 z1 z2 z3 z4 z5 z6 z7=>k_ (z2,z3,z4,z5,z6,z7)) (be .i64 (i_:Int) 1) p0 r25.fA r25.fB r25.fR.aP r25.fR.bX r25.fR.aX r25.fP
theorem H9(u:Nat)(p0:ar)(s:(List Int)×(List Int)×Int×Int×Int×(List c8))(k:Nat)(hn:p0.fP.length<=9223372036854775807)(hk:p0.fP.length < k):lB u k 0 p0 s.1 s.2.1 s.2.2.1 s.2.2.2.1 s.2.2.2.2.1 s.2.2.2.2.2=Pu.cy (vz u p0) (vA u p0) p0.fP 0 s:=Pu.eI (λ(k:Nat) (s:(List Int)×(List Int)×Int×Int×Int×(List c8)) (i:Int)=>lB u k i p0 s.1 s.2.1 s.2.2.1 s.2.2.2.1 s.2.2.2.2.1 s.2.2.2.2.2) hn (λ_ _ _=>rfl) s hk
def ou(u:Nat)(p0:ar)(p1:dc):Option (ar×Bool) :=
  (mZ u p0 ((c8.mk 2 0 ([]) p1))).bind λr1=>some ((r1.1,r1.2))
def iH(u:Nat)(p3:Int)(p0:ar):Option (ar×Int) :=
  (ef u p0).bind λr7=>some ((r7,p3))
def nm(u:Nat)(p0:ar)(p1:ai)(p2:bF)(p3:Int):Option (ar×Int) :=
  bif p3 == 1 then ((vt u p1 p2).bind λr1=>bif r1 then ((pY u p0 p2.ca p1.av).bind λr2=>bif r2.2 then (some ((r2.1,2))) else (iH u p3 p0)) else (iH u p3 p0)) else (bif p3 == 2 then ((pf u p0).bind λr3=>some ((r3,3))) else (bif p3 == 3 then ((vw u p0).bind λr4=>(ou u p0 ((dc.mk p1.aP r4 p1.aX))).bind λr5=>bif r5.2 then (some ((r5.1,4))) else (iH u p3 p0)) else (bif p3 == 4 then ((pf u p0).bind λr6=>some ((r6,5))) else (iH u p3 p0))))
def tN(u:Nat)(p0:aA):Option Int :=
  bif p0.aY == 0 then (some 0) else ((pe u p0.aw p0.bu).bind λr1=>some r1)
def qu(u:Nat)(x14:Int):Option Int :=
  some x14
def qv(u:Nat)(n4:Int->Int->Int->Int->Option Int)(p0 x12:Int)(x13 x6:Int):Option Int :=
  n4 p0 x12 x13 (be .i64 x6 1)
def np(u:Nat)(n4:Int->Int->Int->Int->Option Int)(p0 x4:Int)(x5 x6:Int)(x10:Bool):Option Int :=
  bif x10 then ((eD u p0 x6).bind λr11=>bif r11 then ((ed (decide (0<=x6))).bind λ_=>qv u n4 p0 (eH .i64 x4 1) (u3 .i64 x5 (lI .i64 1 x6)) x6) else (qv u n4 p0 x4 x5 x6)) else (qu u x5)
def fy(u fa:Nat)(p0 x4:Int)(x5 x6:Int):Option Int:=match fa with
  | 0=>none
  | fa+1=>bif decide (x6 < 40) then (np u (λz0 z1 z2 z3=>fy u fa z0 z1 z2 z3) p0 x4 x5 x6 (decide (x4 > 0))) else (np u (λz0 z1 z2 z3=>fy u fa z0 z1 z2 z3) p0 x4 x5 x6 false)
def rE(u:Nat)(p0 p1:Int):Option Int :=
  fy u u p0 p1 0 0
def tO(u:Nat)(p0:aA)(p1:Int):Option Int :=
  (tN u p0).bind λr1=>(rE u r1 p1).bind λr2=>some r2
def vB(u:Nat)(x11:Int):Option Int :=
  some x11
def mv(u:Nat)(F6:(List bM)->Int->Int->Option Int)(p0:List bM)(x10 x4:Int):Option Int :=
  F6 p0 x10 (be .i64 x4 1)
def jf(u gX:Nat)(p0:List bM)(x3 x4:Int):Option Int:=match gX with
  | 0=>none
  | gX+1=>bif decide (x4 < ((p0.length:Int))) then ((dV p0 x4).bind λy7=>(eo u y7.bY).bind λr8=>bif r8 then ((dV p0 x4).bind λy9=>mv u (λz0 z1 z2=>jf u gX z0 z1 z2) p0 (u3 .i64 x3 y9.bY) x4) else (mv u (λz0 z1 z2=>jf u gX z0 z1 z2) p0 x3 x4)) else (vB u x3)
def q6(u:Nat)(p0:List bM):Option Int :=
  jf u u p0 0 0
def xv(u:Nat)(p0:List bM)(s:Int):Option Int:=(vB u s)
def sW(u:Nat)(p0:List bM)(y7:bM)(i_:Nat)(s:Int)(k_:Int->Option Int):Option Int:=(eo u y7.bY).bind λr8=>bif r8 then ((dV p0 (i_:Int)).bind λy9=>mv u (λz0 z1 z2=>k_ z1) p0 (u3 .i64 s y9.bY) (i_:Int)) else (mv u (λz0 z1 z2=>k_ z1) p0 s (i_:Int))
theorem EX(u:Nat)(p0:List bM)(s:Int)(k:Nat)(hn:p0.length<=9223372036854775807)(hk:p0.length < k):jf u k p0 s 0=Pu.cy (xv u p0) (sW u p0) p0 0 s:=Pu.eI (λ(k:Nat) (s i:Int)=>jf u k p0 s i) hn (λ_ _ _=>rfl) s hk
def qw(u:Nat)(x3:Int):Option Int :=
  some x3
def rF(u:Nat)(p0:aA)(p1:Int):Option Int :=
  (q6 u p0.bd).bind λr1=>bif p0.aY == 5 then ((hH u r1 p1).bind λr2=>qw u r2) else (qw u r1)
def eT(u:Nat)(p0 p1:Int)(p2:fe):Option ah :=
  (mR u p2).bind λr1=>some ((ah.mk p0 p1 r1))
def rG(u:Nat)(p2:Int)(p1:hZ)(p4:ar)(r1:aA)(x5 x6:Int)(r3:(List bM))(r2:ar):Option EH :=
  (nm u p4 r1.aw r1.bu r1.aY).bind λr7=>(tO u ((aA.mk r1.fq x5 x6 r1.aw r1.bu r7.2 r3 r1.bx)) p1.aQ).bind λr8=>(rF u ((aA.mk r1.fq x5 x6 r1.aw r1.bu r7.2 r3 r1.bx)) p2).bind λr9=>(ry u r1.aw.aP r8 r9).bind λr10=>(eT u p2 x5 r10).bind λr11=>(ed (decide (((([]:List ah)).length+([r11]).length)*40<=140737488355328))).bind λ_=>some ((EH.mk ((aA.mk r1.fq x5 x6 r1.aw r1.bu r7.2 r3 r1.bx)) r7.1 ((([]:List ah))++([r11]))))
def xy(u:Nat)(p0:cS)(p1:hZ)(p2:Int)(p3:aA)(p4:ar):Option EH :=
  (dz u p3).bind λr1=>(ef u p4).bind λr2=>bif !p3.fq then (some ((EH.mk r1 r2 (([]:List ah))))) else ((tK u p3.bd p1.aN).bind λr3=>bif p2 == 0 then (some ((EH.mk ((aA.mk r1.fq r1.bP r1.bC r1.aw r1.bu r1.aY r3 r1.bx)) r2 (([]:List ah))))) else (bif decide (r1.bC>=p1.aE) then ((pW u p0 p2 p3.bP).bind λr4=>rG u p2 p1 p4 r1 r4 0 r3 r2) else (rG u p2 p1 p4 r1 r1.bP (be .i64 r1.bC 1) r3 r2)))
def fE(u:Nat)(n6:(List ah)->Int->World->(List ah)->(List cE)->Int->Option World)(p1:List ah)(x5:Int)(p0:World)(x23:List ah)(x24:List cE)(x25:Int):Option World :=
  n6 p1 (be .i64 x5 1) p0 x23 x24 x25
def eP(u:Nat)(n6:(List ah)->Int->World->(List ah)->(List cE)->Int->Option World)(p1:List ah)(x5:Int)(x20:Bool)(p0:World)(x6:List ah)(y13 y14 y15:ah)(x7:List cE)(x8:Int)(r19:fe×Bool):Option World :=
  bif x20 then ((dV p1 x5).bind λy21=>(dV p1 x5).bind λy22=>(ed (decide ((x7.length+([(cE.mk y21.dn y22.qL r19.1.fI)]).length)*24<=140737488355328))).bind λ_=>fE u n6 p1 x5 p0 (x6++([(ah.mk y13.dn y14.qL ((([]:List Int))++y15.fB))])) (x7++([(cE.mk y21.dn y22.qL r19.1.fI)])) x8) else (fE u n6 p1 x5 p0 (x6++([(ah.mk y13.dn y14.qL ((([]:List Int))++y15.fB))])) x7 x8)
def ch(u cD:Nat)(p1:List ah)(x5:Int)(p0:World)(x6:List ah)(x7:List cE)(x8:Int):Option World:=match cD with
  | 0=>none
  | cD+1=>bif decide (x5 < ((p1.length:Int))) then (bif decide (((x6.length:Int))>=400) then (fE u (λz0 z1 z2 z3 z4 z5=>ch u cD z0 z1 z2 z3 z4 z5) p1 x5 p0 x6 x7 (be .i64 x8 1)) else ((dV p1 x5).bind λy13=>(dV p1 x5).bind λy14=>(dV p1 x5).bind λy15=>(ed (decide (((([]:List Int)).length+y15.fB.length)*1<=140737488355328))).bind λ_=>(ed (decide ((x6.length+([(ah.mk y13.dn y14.qL ((([]:List Int))++y15.fB))]).length)*40<=140737488355328))).bind λ_=>(dV p1 x5).bind λy18=>(jT u y18.fB).bind λr19=>bif r19.2 then (bif r19.1.bl == 3 then (eP u (λz0 z1 z2 z3 z4 z5=>ch u cD z0 z1 z2 z3 z4 z5) p1 x5 (decide (((x7.length:Int)) < 3000)) p0 x6 y13 y14 y15 x7 x8 r19) else (eP u (λz0 z1 z2 z3 z4 z5=>ch u cD z0 z1 z2 z3 z4 z5) p1 x5 false p0 x6 y13 y14 y15 x7 x8 r19)) else (eP u (λz0 z1 z2 z3 z4 z5=>ch u cD z0 z1 z2 z3 z4 z5) p1 x5 false p0 x6 y13 y14 y15 x7 x8 r19))) else (some ((World.mk p0.fC p0.fT p0.bN p0.bI p0.fN p0.fD x6 x7 x8)))
def lC(u:Nat)(p0:World)(p1:List ah):Option World :=
  ch u u p1 0 p0 p0.bk p0.cL p0.bj
def C8(u:Nat)(p1:List ah)(p0:World)(s:(List ah)×(List cE)×Int):Option World:=(some ((World.mk p0.fC p0.fT p0.bN p0.bI p0.fN p0.fD s.1 s.2.1 s.2.2)))
def C9(u:Nat)(p1:List ah)(p0:World)(i_:Nat)(s:(List ah)×(List cE)×Int)(k_:((List ah)×(List cE)×Int)->Option World):Option World:=bif decide (((s.1.length:Int))>=400) then (fE u (λz0 z1 z2 z3 z4 z5=>k_ (z3,z4,z5)) p1 (i_:Int) p0 s.1 s.2.1 (be .i64 s.2.2 1)) else ((dV p1 (i_:Int)).bind λy13=>(dV p1 (i_:Int)).bind λy14=>(dV p1 (i_:Int)).bind λy15=>(ed (decide (((([]:List Int)).length+y15.fB.length)*1<=140737488355328))).bind λ_=>(ed (decide ((s.1.length+([(ah.mk y13.dn y14.qL ((([]:List Int))++y15.fB))]).length)*40<=140737488355328))).bind λ_=>(dV p1 (i_:Int)).bind λy18=>(jT u y18.fB).bind λr19=>bif r19.2 then (bif r19.1.bl == 3 then (eP u (λz0 z1 z2 z3 z4 z5=>k_ (z3,z4,z5)) p1 (i_:Int) (decide (((s.2.1.length:Int)) < 3000)) p0 s.1 y13 y14 y15 s.2.1 s.2.2 r19) else (eP u (λz0 z1 z2 z3 z4 z5=>k_ (z3,z4,z5)) p1 (i_:Int) false p0 s.1 y13 y14 y15 s.2.1 s.2.2 r19)) else (eP u (λz0 z1 z2 z3 z4 z5=>k_ (z3,z4,z5)) p1 (i_:Int) false p0 s.1 y13 y14 y15 s.2.1 s.2.2 r19))
theorem P3(u:Nat)(p1:List ah)(p0:World)(s:(List ah)×(List cE)×Int)(k:Nat)(hn:(((p1.length:Int)):Int)<=9223372036854775807)(hk:sY (((p1.length:Int))) < k):ch u k p1 0 p0 s.1 s.2.1 s.2.2=Pu.qg (C8 u p1 p0) (C9 u p1 p0) (sY (((p1.length:Int)))) 0 s:=Pu.sg (λ(k:Nat) (s:(List ah)×(List cE)×Int) (i:Int)=>ch u k p1 i p0 s.1 s.2.1 s.2.2) hn (λ_ _ _=>rfl) s hk
def jN(u:Nat)(p0:World)(p1:Int):Option World :=
  (dV p0.fN p1).bind λy1=>(dV p0.fD p1).bind λy2=>(xy u p0.fT p0.fC p1 y1 y2).bind λr3=>(dV p0.fN p1).bind λy4=>(dV p0.fD p1).bind λy5=>(lC u ((World.mk p0.fC p0.fT p0.bN p0.bI (p0.fN.set (sY p1) r3.fN) (p0.fD.set (sY p1) r3.fD) p0.bk p0.cL p0.bj)) r3.iB).bind λr6=>some r6
def jO(u:Nat)(p0:aA):Option aA :=
  (dz u p0).bind λr1=>some ((aA.mk r1.fq r1.bP r1.bC r1.aw r1.bu r1.aY r1.bd (be .i64 r1.bx 1)))
def wW(u:Nat)  : Option Int :=
  some (-1)
def nH(u lm:Nat)(p0:List bM)(p1 x2:Int):Option Int:=match lm with
  | 0=>none
  | lm+1=>bif decide (x2 < ((p0.length:Int))) then ((dV p0 x2).bind λy4=>bif y4.oa == p1 then (some x2) else ((λz0 z1 z2=>nH u lm z0 z1 z2) p0 p1 (be .i64 x2 1))) else (wW u)
def qS(u:Nat)(p0:List bM)(p1:Int):Option Int :=
  nH u u p0 p1 0
def GN(u:Nat)(p0:List bM)(p1:Int)(s:Unit):Option Int:=(wW u)
def GO(u:Nat)(p0:List bM)(p1:Int)(y4:bM)(i_:Nat)(s:Unit)(k_:Unit->Option Int):Option Int:=bif y4.oa == p1 then (some (i_:Int)) else ((λz0 z1 z2=>k_ ()) p0 p1 (be .i64 (i_:Int) 1))
theorem GP(u:Nat)(p0:List bM)(p1:Int)(s:Unit)(k:Nat)(hn:p0.length<=9223372036854775807)(hk:p0.length < k):nH u k p0 p1 0=Pu.cy (GN u p0 p1) (GO u p0 p1) p0 0 s:=Pu.eI (λ(k:Nat) (s:Unit) (i:Int)=>nH u k p0 p1 i) hn (λ_ _ _=>rfl) s hk
def uO(u:Nat)(p1 p2 p3:Int)(p0:List bM)(x12:Int):Option ((List bM)) :=
  (ed (cO 0 x12 ((([]:List bM))++p0).length)).bind λ_=>(ed (decide (((([]:List bM)).length+((((([]:List bM))++p0).take (sY x12)).drop (sY 0)).length)*40<=140737488355328))).bind λ_=>(ed (decide ((((([]:List bM))++((((([]:List bM))++p0).take (sY x12)).drop (sY 0))).length+([(bM.mk p1 p2 p3 0 0)]).length)*40<=140737488355328))).bind λ_=>(ed (cO x12 ((((([]:List bM))++p0).length:Int)) ((([]:List bM))++p0).length)).bind λ_=>(ed (decide (((((([]:List bM))++((((([]:List bM))++p0).take (sY x12)).drop (sY 0)))++([(bM.mk p1 p2 p3 0 0)])).length+((((([]:List bM))++p0).take (sY ((((([]:List bM))++p0).length:Int)))).drop (sY x12)).length)*40<=140737488355328))).bind λ_=>some ((((([]:List bM))++((((([]:List bM))++p0).take (sY x12)).drop (sY 0)))++([(bM.mk p1 p2 p3 0 0)]))++((((([]:List bM))++p0).take (sY ((((([]:List bM))++p0).length:Int)))).drop (sY x12)))
def rH(u:Nat)(Kg:Int->Int->Int->(List bM)->Int->Option ((List bM)))(p1 p2 p3:Int)(p0:List bM)(x8:Int)(x11:Bool):Option ((List bM)) :=
  bif x11 then (Kg p1 p2 p3 p0 (be .i64 x8 1)) else (uO u p1 p2 p3 p0 x8)
def jP(u js:Nat)(p1 p2 p3:Int)(p0:List bM)(x8:Int):Option ((List bM)):=match js with
  | 0=>none
  | js+1=>bif decide (x8 < ((((([]:List bM))++p0).length:Int))) then ((dV ((([]:List bM))++p0) x8).bind λy10=>rH u (λz0 z1 z2 z3 z4=>jP u js z0 z1 z2 z3 z4) p1 p2 p3 p0 x8 (decide (y10.oa<=p1))) else (rH u (λz0 z1 z2 z3 z4=>jP u js z0 z1 z2 z3 z4) p1 p2 p3 p0 x8 false)
def rI(u:Nat)(p0:List bM)(p1 p2 p3:Int)(x5:Bool):Option ((List bM)) :=
  bif x5 then (some ((([]:List bM))++p0)) else ((qS u p0 p1).bind λr6=>bif decide (r6 < 0) then (jP u u p1 p2 p3 p0 0) else ((dV ((([]:List bM))++p0) r6).bind λy11=>(dV ((([]:List bM))++p0) r6).bind λy12=>some (((([]:List bM))++p0).set (sY r6) ((bM.mk y11.oa p2 (u3 .i64 y11.bY p3) 0 y11.n7)))))
def xz(u:Nat)(p0:List bM)(p1 p2 p3:Int):Option ((List bM)) :=
  (ed (decide (((([]:List bM)).length+p0.length)*40<=140737488355328))).bind λ_=>(bJ u p1 0 6).bind λr2=>bif !r2 then (rI u p0 p1 p2 p3 true) else ((eo u p2).bind λr3=>bif !r3 then (rI u p0 p1 p2 p3 true) else ((eo u p3).bind λr4=>rI u p0 p1 p2 p3 (!r4)))
def q7(u:Nat)(p0:aA):Option Int :=
  some p0.bu.bn
def mw(u:Nat)(p0:List bM)(p2 r1:Int)(x7:Bool):Option Int :=
  bif x7 then (some 0) else ((dV p0 r1).bind λy8=>(dV p0 r1).bind λy9=>some (yJ .i64 (fG .i64 y8.ck p2) y9.n7))
def q8(u:Nat)(p0:List bM)(p1 p2:Int):Option Int :=
  (qS u p0 p1).bind λr1=>bif decide (r1 < 0) then (mw u p0 p2 r1 true) else ((eo u p2).bind λr2=>bif !r2 then (mw u p0 p2 r1 true) else ((dV p0 r1).bind λy3=>(eo u y3.ck).bind λr4=>bif !r4 then (mw u p0 p2 r1 true) else ((dV p0 r1).bind λy5=>(eo u y5.n7).bind λr6=>mw u p0 p2 r1 (!r6))))
def qx(u:Nat)(x9:List Int):Option ((List Int)) :=
  some x9
def jF(u:Nat)(EE:Int->(List Int)->Int->Option ((List Int)))(p0:Int)(x8:List Int)(x4:Int):Option ((List Int)) :=
  EE p0 x8 (be .i64 x4 1)
def ir(u gl:Nat)(p0:Int)(x3:List Int)(x4:Int):Option ((List Int)):=match gl with
  | 0=>none
  | gl+1=>bif decide (x4 < 40) then ((eD u p0 x4).bind λr7=>bif r7 then ((ed (decide ((x3.length+(([x4]:List Int)).length)*8<=140737488355328))).bind λ_=>jF u (λz0 z1 z2=>ir u gl z0 z1 z2) p0 (x3++(([x4]:List Int))) x4) else (jF u (λz0 z1 z2=>ir u gl z0 z1 z2) p0 x3 x4)) else (qx u x3)
def pg(u:Nat)(p0:Int):Option ((List Int)) :=
  ir u u p0 (([]:List Int)) 0
def wt(u:Nat)(p0:Int)(s:(List Int)):Option ((List Int)):=(qx u s)
def wu(u:Nat)(p0:Int)(i_:Nat)(s:(List Int))(k_:((List Int))->Option ((List Int))):Option ((List Int)):=(eD u p0 (i_:Int)).bind λr7=>bif r7 then ((ed (decide ((s.length+(([(i_:Int)]:List Int)).length)*8<=140737488355328))).bind λ_=>jF u (λz0 z1 z2=>k_ z1) p0 (s++(([(i_:Int)]:List Int))) (i_:Int)) else (jF u (λz0 z1 z2=>k_ z1) p0 s (i_:Int))
theorem Da(u:Nat)(p0:Int)(s:(List Int))(k:Nat)(hn:(40:Int)<=9223372036854775807)(hk:sY (40) < k):ir u k p0 s 0=Pu.qg (wt u p0) (wu u p0) (sY (40)) 0 s:=Pu.sg (λ(k:Nat) (s:(List Int)) (i:Int)=>ir u k p0 s i) hn (λ_ _ _=>rfl) s hk
def qy(u:Nat)(p2:Int)(x3:Bool)(p0:ai)(p1:bF):Option ((List Int)×Bool) :=
  bif x3 then (some ((([]:List Int),false))) else ((fm u p0.av p0.aX p2).bind λr4=>(ed (cO r4.1 (be .i64 r4.1 r4.2) p1.ca.length)).bind λ_=>(ed (decide (((([]:List Int)).length+((p1.ca.take (sY (be .i64 r4.1 r4.2))).drop (sY r4.1)).length)*1<=140737488355328))).bind λ_=>some (((([]:List Int))++((p1.ca.take (sY (be .i64 r4.1 r4.2))).drop (sY r4.1)),true)))
def m0(u:Nat)(p0:ai)(p1:bF)(p2:Int):Option ((List Int)×Bool) :=
  (mY u p0 p1).bind λr1=>bif !r1 then (qy u p2 true p0 p1) else ((eD u p1.bn p2).bind λr2=>qy u p2 (!r2) p0 p1)
def mx(u:Nat)(p2:Int)(p0:List bM)(r2:Int)(x6:Bool):Option ((List bM)) :=
  bif x6 then (some ((([]:List bM))++p0)) else ((dV ((([]:List bM))++p0) r2).bind λy7=>(dV ((([]:List bM))++p0) r2).bind λy8=>some (((([]:List bM))++p0).set (sY r2) ((bM.mk y7.oa y7.ck y7.bY y7.we (u3 .i64 y7.n7 p2)))))
def nI(u:Nat)(p0:List bM)(p1 p2:Int):Option ((List bM)) :=
  (ed (decide (((([]:List bM)).length+p0.length)*40<=140737488355328))).bind λ_=>(qS u p0 p1).bind λr2=>bif decide (r2 < 0) then (mx u p2 p0 r2 true) else ((eo u p2).bind λr3=>bif !r3 then (mx u p2 p0 r2 true) else ((dV p0 r2).bind λy4=>(eo u y4.n7).bind λr5=>mx u p2 p0 r2 (!r5)))
def nW(u:Nat)(p2 r3:Int)(p0 r1:aA)(x17:List ah):Option Act :=
  (nI u p0.bd p2 r3).bind λr18=>some ((Act.mk ((aA.mk r1.fq r1.bP r1.bC r1.aw r1.bu r1.aY r18 r1.bx)) x17))
def ju(u:Nat)(Bz:Int->Int->Int->((List Int))->Int->aA->aA->(List ah)->Option Act)(p1 p2 r3:Int)(r4:(List Int))(x7:Int)(p0 r1:aA)(x16:List ah):Option Act :=
  Bz p1 p2 r3 r4 (be .i64 x7 1) p0 r1 x16
def f5(u eX:Nat)(p1 p2 r3:Int)(r4:(List Int))(x7:Int)(p0 r1:aA)(x8:List ah):Option Act:=match eX with
  | 0=>none
  | eX+1=>bif decide (x7 < ((r4.length:Int))) then ((dV r4 x7).bind λy11=>(m0 u p0.aw p0.bu y11).bind λr12=>bif r12.2 then ((dV r4 x7).bind λy13=>(lA u p0.aw.aP y13 r12.1).bind λr14=>(eT u p1 p2 r14).bind λr15=>(ed (decide ((x8.length+([r15]).length)*40<=140737488355328))).bind λ_=>ju u (λz0 z1 z2 z3 z4 z5 z6 z7=>f5 u eX z0 z1 z2 z3 z4 z5 z6 z7) p1 p2 r3 r4 x7 p0 r1 (x8++([r15]))) else (ju u (λz0 z1 z2 z3 z4 z5 z6 z7=>f5 u eX z0 z1 z2 z3 z4 z5 z6 z7) p1 p2 r3 r4 x7 p0 r1 x8)) else (nW u p2 r3 p0 r1 x8)
def ov(u:Nat)(p0:aA)(p1 p2:Int):Option Act :=
  (dz u p0).bind λr1=>(q7 u p0).bind λr2=>(q8 u p0.bd p2 r2).bind λr3=>(pg u r3).bind λr4=>f5 u u p1 p2 r3 r4 0 p0 r1 (([]:List ah))
def uD(u:Nat)(p1 p2 r3:Int)(r4:(List Int))(p0 r1:aA)(s:(List ah)):Option Act:=(nW u p2 r3 p0 r1 s)
def uE(u:Nat)(p1 p2 r3:Int)(r4:(List Int))(p0 r1:aA)(y11:Int)(i_:Nat)(s:(List ah))(k_:((List ah))->Option Act):Option Act:=(m0 u p0.aw p0.bu y11).bind λr12=>bif r12.2 then ((dV r4 (i_:Int)).bind λy13=>(lA u p0.aw.aP y13 r12.1).bind λr14=>(eT u p1 p2 r14).bind λr15=>(ed (decide ((s.length+([r15]).length)*40<=140737488355328))).bind λ_=>ju u (λz0 z1 z2 z3 z4 z5 z6 z7=>k_ z7) p1 p2 r3 r4 (i_:Int) p0 r1 (s++([r15]))) else (ju u (λz0 z1 z2 z3 z4 z5 z6 z7=>k_ z7) p1 p2 r3 r4 (i_:Int) p0 r1 s)
theorem Bt(u:Nat)(p1 p2 r3:Int)(r4:(List Int))(p0 r1:aA)(s:(List ah))(k:Nat)(hn:r4.length<=9223372036854775807)(hk:r4.length < k):f5 u k p1 p2 r3 r4 0 p0 r1 s=Pu.cy (uD u p1 p2 r3 r4 p0 r1) (uE u p1 p2 r3 r4 p0 r1) r4 0 s:=Pu.eI (λ(k:Nat) (s:(List ah)) (i:Int)=>f5 u k p1 p2 r3 r4 i p0 r1 s) hn (λ_ _ _=>rfl) s hk
def m2(u:Nat)(r1:aA)(r2:(List bM))(x10:List ah):Option Act :=
  some ((Act.mk ((aA.mk r1.fq r1.bP r1.bC r1.aw r1.bu r1.aY r2 r1.bx)) x10))
def m3(u:Nat)(r1:aA)(r2:(List bM))(r7:Act)(x9:List ah):Option Act :=
  some ((Act.mk r7.fN x9))
def nq(u:Nat)(p0:aA)(p1 p2:Int)(p3:fe):Option Act :=
  (dz u p0).bind λr1=>bif p2 == p1 then (some ((Act.mk r1 (([]:List ah))))) else ((xz u p0.bd p2 p3.ck p3.bY).bind λr2=>bif p0.aY == 0 then ((eT u p1 p2 ((fe.mk 4 0 ((ai.mk 0 0 0 ([]))) 0 0 0 ([])))).bind λr3=>(ed (decide (((([]:List ah)).length+([r3]).length)*40<=140737488355328))).bind λ_=>m2 u r1 r2 ((([]:List ah))++([r3]))) else (bif p3.aP != p0.aw.aP then ((eT u p1 p2 ((fe.mk 1 0 p0.aw 0 0 0 ([])))).bind λr5=>(ed (decide (((([]:List ah)).length+([r5]).length)*40<=140737488355328))).bind λ_=>m2 u r1 r2 ((([]:List ah))++([r5]))) else ((ov u ((aA.mk r1.fq r1.bP r1.bC r1.aw r1.bu r1.aY r2 r1.bx)) p1 p2).bind λr7=>bif ((r7.iB.length:Int)) == 0 then ((eT u p1 p2 ((fe.mk 4 p0.aw.aP ((ai.mk 0 0 0 ([]))) 0 0 0 ([])))).bind λr8=>(ed (decide ((r7.iB.length+([r8]).length)*40<=140737488355328))).bind λ_=>m3 u r1 r2 r7 (r7.iB++([r8]))) else (m3 u r1 r2 r7 r7.iB))))
def pi(u:Nat)(p0:ar):Option (Int×(List Int)) :=
  (jV u p0).bind λr1=>bif !r1 then (some ((0,([]:List Int)))) else ((q5 u p0 p0.fR.bX).bind λr2=>(ed (cO 0 p0.fR.aX r2.length)).bind λ_=>(ed (decide (((([]:List Int)).length+((r2.take (sY p0.fR.aX)).drop (sY 0)).length)*1<=140737488355328))).bind λ_=>some ((p0.fR.aP,(([]:List Int))++((r2.take (sY p0.fR.aX)).drop (sY 0)))))
def qz(u:Nat)(r1:aA)(r7:ai)(r8:bF)(x11:Int):Option aA :=
  some ((aA.mk r1.fq r1.bP r1.bC r7 r8 x11 r1.bd r1.bx))
def qA(u:Nat)(x10:Bool)(r1:aA)(r7:ai)(r8:bF):Option aA :=
  bif x10 then (qz u r1 r7 r8 5) else (qz u r1 r7 r8 1)
def qB(u:Nat)(x5:Bool)(p1:ar)(p2:ai)(r1:aA):Option aA :=
  bif x5 then (some r1) else ((pi u p1).bind λr6=>(ly u p2).bind λr7=>(mf u p2 r6.2).bind λr8=>bif r6.1 == p2.aP then ((sQ u p2 r6.2).bind λr9=>qA u r9 r1 r7 r8) else (qA u false r1 r7 r8))
def rJ(u:Nat)(p0:aA)(p1:ar)(p2:ai):Option aA :=
  (dz u p0).bind λr1=>bif p0.aY != 0 then ((o4 u p0.aw p2).bind λr2=>bif !r2 then ((jO u p0).bind λr3=>some r3) else (some r1)) else ((ia u p2).bind λr4=>bif !r4 then (qB u true p1 p2 r1) else (qB u (p2.aP == 0) p1 p2 r1))
def pj(u:Nat)(x4:Bool)(x5:Int)(x6:List Int):Option (bF×Bool) :=
  bif x4 then (some (((bF.mk x5 x6),false))) else (some (((bF.mk x5 x6),true)))
def p6(u:Nat)(p0:ai)(p1:bF)(p2:Int)(p3:List Int):Option (bF×Bool) :=
  (mQ u p1).bind λr1=>(mY u p0 p1).bind λr2=>bif !r2 then (pj u true r1.bn r1.ca) else ((qP u p0 r1 p2 p3).bind λr3=>pj u (!r3.1) r3.2.bn r3.2.ca)
def qC(u:Nat)(r1:aA)(x24:List bM)(x25:List ah):Option Act :=
  some ((Act.mk ((aA.mk r1.fq r1.bP r1.bC r1.aw r1.bu r1.aY x24 r1.bx)) x25))
def qD(u:Nat)(n5:Int->Int->((List Int)×Bool)->Int->aA->aA->(List bM)->(List ah)->Option Act)(p1 p2:Int)(r2:(List Int)×Bool)(x6:Int)(p0 r1:aA)(x22:List bM)(x23:List ah):Option Act :=
  n5 p1 p2 r2 (be .i64 x6 1) p0 r1 x22 x23
def lg(u:Nat)(n5:Int->Int->((List Int)×Bool)->Int->aA->aA->(List bM)->(List ah)->Option Act)(p1 p2:Int)(r2:(List Int)×Bool)(x6:Int)(x12:Bool)(p0 r1:aA)(x7:List bM)(x8:List ah):Option Act :=
  bif x12 then ((dV p0.bd x6).bind λy13=>(q7 u p0).bind λr14=>(q8 u x7 y13.oa r14).bind λr15=>(eD u r15 p2).bind λr16=>bif r16 then ((lA u p0.aw.aP p2 r2.1).bind λr17=>(eT u p1 y13.oa r17).bind λr18=>(ed (decide ((x8.length+([r18]).length)*40<=140737488355328))).bind λ_=>(hH u 0 p2).bind λr20=>(nI u x7 y13.oa r20).bind λr21=>qD u n5 p1 p2 r2 x6 p0 r1 r21 (x8++([r18]))) else (qD u n5 p1 p2 r2 x6 p0 r1 x7 x8)) else (qC u r1 x7 x8)
def eQ(u fb:Nat)(p1 p2:Int)(r2:(List Int)×Bool)(x6:Int)(p0 r1:aA)(x7:List bM)(x8:List ah):Option Act:=match fb with
  | 0=>none
  | fb+1=>bif decide (x6 < ((p0.bd.length:Int))) then (lg u (λz0 z1 z2 z3 z4 z5 z6 z7=>eQ u fb z0 z1 z2 z3 z4 z5 z6 z7) p1 p2 r2 x6 r2.2 p0 r1 x7 x8) else (lg u (λz0 z1 z2 z3 z4 z5 z6 z7=>eQ u fb z0 z1 z2 z3 z4 z5 z6 z7) p1 p2 r2 x6 false p0 r1 x7 x8)
def rK(u:Nat)(p0:aA)(p1 p2:Int):Option Act :=
  (dz u p0).bind λr1=>(m0 u p0.aw p0.bu p2).bind λr2=>eQ u u p1 p2 r2 0 p0 r1 r1.bd (([]:List ah))
def pk(u:Nat)(p1:Int)(x1:Bool)(p0:aA)(p2:fe):Option Act :=
  bif x1 then ((jO u p0).bind λr2=>some ((Act.mk r2 (([]:List ah))))) else ((eD u p0.bu.bn p2.fI).bind λr3=>bif r3 then ((dz u p0).bind λr4=>some ((Act.mk r4 (([]:List ah))))) else ((p6 u p0.aw p0.bu p2.fI p2.fB).bind λr5=>bif !r5.2 then ((jO u p0).bind λr6=>some ((Act.mk r6 (([]:List ah))))) else ((dz u p0).bind λr7=>(rK u ((aA.mk r7.fq r7.bP r7.bC r7.aw r5.1 r7.aY r7.bd r7.bx)) p1 p2.fI).bind λr8=>some r8)))
def p7(u:Nat)(p0:aA)(p1:Int)(p2:fe):Option Act :=
  bif p0.aY == 0 then (pk u p1 true p0 p2) else (pk u p1 (p2.aP != p0.aw.aP) p0 p2)
def my(u:Nat)(x4:Bool)(x5 x6:Int)(x7 x8 x9:Int)(x10:List cV)(x11:Int)(x12:List Int)(x13:Int)(x14:List bM)(x15:Int):Option Act :=
  some ((Act.mk ((aA.mk x4 x5 x6 ((ai.mk x7 x8 x9 x10)) ((bF.mk x11 x12)) x13 x14 x15)) (([]:List ah))))
def p8(u:Nat)(p0:aA)(p1:Int)(p2:ar)(p3:fe):Option Act :=
  (dz u p0).bind λr1=>bif p3.bl == 1 then ((rJ u ((aA.mk r1.fq r1.bP 0 r1.aw r1.bu r1.aY r1.bd r1.bx)) p2 p3.aw).bind λr2=>my u r2.fq r2.bP r2.bC r2.aw.aP r2.aw.av r2.aw.aX r2.aw.aO r2.bu.bn r2.bu.ca r2.aY r2.bd r2.bx) else (bif p3.bl == 3 then ((p7 u ((aA.mk r1.fq r1.bP 0 r1.aw r1.bu r1.aY r1.bd r1.bx)) p1 p3).bind λr3=>some r3) else (bif p3.bl == 2 then (my u r1.fq r1.bP 0 r1.aw.aP r1.aw.av r1.aw.aX r1.aw.aO r1.bu.bn r1.bu.ca r1.aY r1.bd (be .i64 r1.bx 1)) else (my u r1.fq r1.bP 0 r1.aw.aP r1.aw.av r1.aw.aX r1.aw.aO r1.bu.bn r1.bu.ca r1.aY r1.bd r1.bx)))
def rL(u:Nat)(p1:Int)(x4:Bool)(p2:aA)(p3:ar)(p4:ah)(r2:fe×Bool):Option Act :=
  bif x4 then ((jO u p2).bind λr5=>some ((Act.mk r5 (([]:List ah))))) else (bif r2.1.bl == 2 then ((nq u p2 p1 p4.dn r2.1).bind λr6=>some r6) else (bif p4.dn == p2.bP then ((p8 u p2 p1 p3 r2.1).bind λr7=>some r7) else ((jO u p2).bind λr8=>some ((Act.mk r8 (([]:List ah)))))))
def xA(u:Nat)(p0:cS)(p1:Int)(p2:aA)(p3:ar)(p4:ah):Option Act :=
  bif !p2.fq then ((dz u p2).bind λr1=>some ((Act.mk r1 (([]:List ah))))) else ((jT u p4.fB).bind λr2=>bif !r2.2 then (rL u p1 true p2 p3 p4 r2) else ((bJ u p4.dn 0 (eH .i64 ((p0.b9.length:Int)) 1)).bind λr3=>bif !r3 then (rL u p1 true p2 p3 p4 r2) else (rL u p1 (p4.dn == p1) p2 p3 p4 r2)))
def jQ(u:Nat)(p0:World)(p1:Int):Option World :=
  (dV p0.bk p1).bind λy1=>(ed (cO 0 p1 p0.bk.length)).bind λ_=>(ed (decide (((([]:List ah)).length+((p0.bk.take (sY p1)).drop (sY 0)).length)*40<=140737488355328))).bind λ_=>(ed (cO (be .i64 p1 1) ((p0.bk.length:Int)) p0.bk.length)).bind λ_=>(ed (decide ((((([]:List ah))++((p0.bk.take (sY p1)).drop (sY 0))).length+((p0.bk.take (sY ((p0.bk.length:Int)))).drop (sY (be .i64 p1 1))).length)*40<=140737488355328))).bind λ_=>(dV p0.fN y1.qL).bind λy6=>(dV p0.fD y1.qL).bind λy7=>(xA u p0.fT y1.qL y6 y7 y1).bind λr8=>(dV p0.fN y1.qL).bind λy9=>(lC u ((World.mk p0.fC p0.fT p0.bN p0.bI (p0.fN.set (sY y1.qL) r8.fN) p0.fD (((([]:List ah))++((p0.bk.take (sY p1)).drop (sY 0)))++((p0.bk.take (sY ((p0.bk.length:Int)))).drop (sY (be .i64 p1 1)))) p0.cL p0.bj)) r8.iB).bind λr10=>some r10
def wX(u:Nat)(p0:aA):Option aA :=
  some ((aA.mk false 0 0 ((ai.mk 0 0 0 ([]))) ((bF.mk 0 ([]))) 0 ([]) 0))
def yp(u:Nat)(x33 x34:List Int)(x35 x36 x37:Int)(x38:List c8):Option ar :=
  some ((ar.mk x33 x34 ((dc.mk x35 x36 x37)) (([]:List c8))))
def pm(u:Nat)(Kf:Int->Int->ar->(List Int)->(List Int)->Int->Int->Int->(List c8)->Option ar)(p1 x10:Int)(p0:ar)(x27 x28:List Int)(x29 x30 x31:Int)(x32:List c8):Option ar :=
  Kf p1 (be .i64 x10 1) p0 x27 x28 x29 x30 x31 x32
def lD(u jr:Nat)(p1 x10:Int)(p0:ar)(x11 x12:List Int)(x13 x14 x15:Int)(x16:List c8):Option ar:=match jr with
  | 0=>none
  | jr+1=>bif decide (x10 < ((p0.fP.length:Int))) then ((eD u p1 x10).bind λr24=>bif r24 then ((dV p0.fP x10).bind λy25=>(je u ((ar.mk x11 x12 ((dc.mk x13 x14 x15)) x16)) y25).bind λr26=>pm u (λz0 z1 z2 z3 z4 z5 z6 z7 z8=>lD u jr z0 z1 z2 z3 z4 z5 z6 z7 z8) p1 x10 p0 r26.fA r26.fB r26.fR.aP r26.fR.bX r26.fR.aX r26.fP) else (pm u (λz0 z1 z2 z3 z4 z5 z6 z7 z8=>lD u jr z0 z1 z2 z3 z4 z5 z6 z7 z8) p1 x10 p0 x11 x12 x13 x14 x15 x16)) else (yp u x11 x12 x13 x14 x15 x16)
def xB(u:Nat)(p0:ar)(p1:Int):Option ar :=
  (ef u p0).bind λr1=>(jV u p0).bind λr2=>bif !r2 then (some r1) else (lD u u p1 0 p0 r1.fA r1.fB r1.fR.aP r1.fR.bX r1.fR.aX r1.fP)
def zV(u:Nat)(p1:Int)(p0:ar)(s:(List Int)×(List Int)×Int×Int×Int×(List c8)):Option ar:=(yp u s.1 s.2.1 s.2.2.1 s.2.2.2.1 s.2.2.2.2.1 s.2.2.2.2.2)
def vC(u:Nat)(p1:Int)(p0:ar)(i_:Nat)(s:(List Int)×(List Int)×Int×Int×Int×(List c8))(k_:((List Int)×(List Int)×Int×Int×Int×(List c8))->Option ar):Option ar:=(eD u p1 (i_:Int)).bind λr24=>bif r24 then ((dV p0.fP (i_:Int)).bind λy25=>(je u ((ar.mk s.1 s.2.1 ((dc.mk s.2.2.1 s.2.2.2.1 s.2.2.2.2.1)) s.2.2.2.2.2)) y25).bind λr26=>pm u (λz0 z1 z2 z3 z4 z5 z6 z7 z8=>k_ (z3,z4,z5,z6,z7,z8)) p1 (i_:Int) p0 r26.fA r26.fB r26.fR.aP r26.fR.bX r26.fR.aX r26.fP) else (pm u (λz0 z1 z2 z3 z4 z5 z6 z7 z8=>k_ (z3,z4,z5,z6,z7,z8)) p1 (i_:Int) p0 s.1 s.2.1 s.2.2.1 s.2.2.2.1 s.2.2.2.2.1 s.2.2.2.2.2)
theorem Ia(u:Nat)(p1:Int)(p0:ar)(s:(List Int)×(List Int)×Int×Int×Int×(List c8))(k:Nat)(hn:(((p0.fP.length:Int)):Int)<=9223372036854775807)(hk:sY (((p0.fP.length:Int))) < k):lD u k p1 0 p0 s.1 s.2.1 s.2.2.1 s.2.2.2.1 s.2.2.2.2.1 s.2.2.2.2.2=Pu.qg (zV u p1 p0) (vC u p1 p0) (sY (((p0.fP.length:Int)))) 0 s:=Pu.sg (λ(k:Nat) (s:(List Int)×(List Int)×Int×Int×Int×(List c8)) (i:Int)=>lD u k p1 i p0 s.1 s.2.1 s.2.2.1 s.2.2.2.1 s.2.2.2.2.1 s.2.2.2.2.2) hn (λ_ _ _=>rfl) s hk
def xC(u:Nat)(p0:ar)(p1:Int):Option ar :=
  (xB u p0 p1).bind λr1=>some r1
def lR(u:Nat)(p0:World)(p1:ah):Option Bool :=
  (bJ u p1.dn 0 (eH .i64 ((p0.fN.length:Int)) 1)).bind λr1=>bif r1 then ((bJ u p1.qL 0 (eH .i64 ((p0.fN.length:Int)) 1)).bind λr2=>some r2) else (some false)
def nJ(u:Nat)(r1:Bool)(x4 x5:Int)(x6 x7:Int)(x8 x9:List Int)(x10:List aW)(x11:List aA)(x12:List ar)(x13:List ah)(x14:List cE)(x15:Int):Option (Bool×World) :=
  some ((r1,(World.mk ((hZ.mk x4 x5 x6 x7)) ((cS.mk x8)) x9 x10 x11 x12 x13 x14 x15)))
def nK(u:Nat)(r2:Bool)(x5 x6:Int)(x7 x8:Int)(x9 x10:List Int)(x11:List aW)(x12:List aA)(x13:List ar)(x14:List ah)(x15:List cE)(x16:Int):Option (Bool×World) :=
  some ((r2,(World.mk ((hZ.mk x5 x6 x7 x8)) ((cS.mk x9)) x10 x11 x12 x13 x14 x15 x16)))
def nL(u:Nat)(r2:Bool)(p0:World)(x5:List ah)(x6:Int):Option (Bool×World) :=
  some ((r2,(World.mk p0.fC p0.fT p0.bN p0.bI p0.fN p0.fD x5 p0.cL x6)))
def jX(u:Nat)(x9:Bool)(p1:cq)(p0:World):Option (Bool×World) :=
  bif x9 then (some ((false,p0))) else ((dV p0.bk p1.fN).bind λy10=>(ed (decide (((([]:List Int)).length+y10.fB.length)*1<=140737488355328))).bind λ_=>(ed (decide ((p0.bk.length+([(ah.mk y10.dn y10.qL ((([]:List Int))++y10.fB))]).length)*40<=140737488355328))).bind λ_=>some ((true,(World.mk p0.fC p0.fT p0.bN p0.bI p0.fN p0.fD (p0.bk++([(ah.mk y10.dn y10.qL ((([]:List Int))++y10.fB))])) p0.cL p0.bj))))
def iZ(u:Nat)(x10:Bool)(p1:cq)(p0:World):Option (Bool×World) :=
  bif x10 then (some ((false,p0))) else ((dV p0.fN p1.fN).bind λy11=>(wX u y11).bind λr12=>(dV p0.fN p1.fN).bind λy13=>(dV p0.fD p1.fN).bind λy14=>(xC u y14 p1.fS).bind λr15=>(dV p0.fD p1.fN).bind λy16=>some ((true,(World.mk p0.fC p0.fT p0.bN p0.bI (p0.fN.set (sY p1.fN) r12) (p0.fD.set (sY p1.fN) r15) p0.bk p0.cL p0.bj))))
def i1(u:Nat)(x11:Bool)(p1:cq)(p0:World):Option (Bool×World) :=
  bif x11 then (some ((false,p0))) else ((lO u p0.fT p1.fN).bind λr12=>(dV p0.fN p1.fN).bind λy13=>some ((true,(World.mk p0.fC p0.fT p0.bN p0.bI (p0.fN.set (sY p1.fN) r12) p0.fD p0.bk p0.cL p0.bj))))
def jY(u:Nat)(x12:Bool)(p1:cq)(p0:World):Option (Bool×World) :=
  bif x12 then (some ((false,p0))) else ((ed (decide (((([]:List Int)).length+p1.fP.fB.length)*1<=140737488355328))).bind λ_=>(ed (decide ((p0.bk.length+([(ah.mk p1.fP.dn p1.fP.qL ((([]:List Int))++p1.fP.fB))]).length)*40<=140737488355328))).bind λ_=>some ((true,(World.mk p0.fC p0.fT p0.bN p0.bI p0.fN p0.fD (p0.bk++([(ah.mk p1.fP.dn p1.fP.qL ((([]:List Int))++p1.fP.fB))])) p0.cL p0.bj))))
def m4(u:Nat)(p0:World)(p1:cq):Option (Bool×World) :=
  (bJ u p1.fN 0 (eH .i64 ((p0.fN.length:Int)) 1)).bind λr1=>(bJ u p1.fN 0 (eH .i64 ((p0.bk.length:Int)) 1)).bind λr2=>bif p1.bl == 1 then (bif r1 then ((jN u p0 p1.fN).bind λr3=>nJ u r1 r3.fC.av r3.fC.aQ r3.fC.aE r3.fC.aN r3.fT.b9 r3.bN r3.bI r3.fN r3.fD r3.bk r3.cL r3.bj) else (nJ u r1 p0.fC.av p0.fC.aQ p0.fC.aE p0.fC.aN p0.fT.b9 p0.bN p0.bI p0.fN p0.fD p0.bk p0.cL p0.bj)) else (bif p1.bl == 2 then (bif r2 then ((jQ u p0 p1.fN).bind λr4=>nK u r2 r4.fC.av r4.fC.aQ r4.fC.aE r4.fC.aN r4.fT.b9 r4.bN r4.bI r4.fN r4.fD r4.bk r4.cL r4.bj) else (nK u r2 p0.fC.av p0.fC.aQ p0.fC.aE p0.fC.aN p0.fT.b9 p0.bN p0.bI p0.fN p0.fD p0.bk p0.cL p0.bj)) else (bif p1.bl == 3 then (bif r2 then ((ed (cO 0 p1.fN p0.bk.length)).bind λ_=>(ed (decide (((([]:List ah)).length+((p0.bk.take (sY p1.fN)).drop (sY 0)).length)*40<=140737488355328))).bind λ_=>(ed (cO (be .i64 p1.fN 1) ((p0.bk.length:Int)) p0.bk.length)).bind λ_=>(ed (decide ((((([]:List ah))++((p0.bk.take (sY p1.fN)).drop (sY 0))).length+((p0.bk.take (sY ((p0.bk.length:Int)))).drop (sY (be .i64 p1.fN 1))).length)*40<=140737488355328))).bind λ_=>nL u r2 p0 (((([]:List ah))++((p0.bk.take (sY p1.fN)).drop (sY 0)))++((p0.bk.take (sY ((p0.bk.length:Int)))).drop (sY (be .i64 p1.fN 1)))) (be .i64 p0.bj 1)) else (nL u r2 p0 p0.bk p0.bj)) else (bif p1.bl == 4 then (bif !r2 then (jX u true p1 p0) else (jX u (decide (((p0.bk.length:Int))>=400)) p1 p0)) else (bif p1.bl == 5 then (bif !r1 then (iZ u true p1 p0) else (bif p1.fN == 0 then (iZ u true p1 p0) else ((dV p0.fN p1.fN).bind λy9=>iZ u (!y9.fq) p1 p0))) else (bif p1.bl == 6 then (bif !r1 then (i1 u true p1 p0) else (bif p1.fN == 0 then (i1 u true p1 p0) else ((dV p0.fN p1.fN).bind λy10=>i1 u y10.fq p1 p0))) else (bif p1.bl == 7 then ((lR u p0 p1.fP).bind λr11=>bif !r11 then (jY u true p1 p0) else (jY u (decide (((p0.bk.length:Int))>=400)) p1 p0)) else (some ((false,p0)))))))))
def oz(u:Nat)(x59:List cq)(x60:List Int)(x61 x62:Int)(x63 x64:Int)(x65 x66:Int)(x67 x68:List Int)(x69:List aW)(x70:List aA)(x71:List ar)(x72:List ah)(x73:List cE)(x74:Int)(r1:World×aG):Option (World×(List cq)×World×aG) :=
  some ((r1.1,x59,(World.mk ((hZ.mk x63 x64 x65 x66)) ((cS.mk x67)) x68 x69 x70 x71 x72 x73 x74),(aG.mk x60 x61 x62)))
def gr(u:Nat)(F9:(List cq)->Int->(List Int)->Int->Int->Int->Int->Int->Int->(List Int)->(List Int)->(List aW)->(List aA)->(List ar)->(List ah)->(List cE)->Int->(World×aG)->Option (World×(List cq)×World×aG))(x21:List cq)(x22:Int)(x55:Bool)(x23:List Int)(x24 x25:Int)(x26 x27:Int)(x28 x29:Int)(x30 x31:List Int)(x32:List aW)(x33:List aA)(x34:List ar)(x35:List ah)(x36:List cE)(x37:Int)(r1:World×aG):Option (World×(List cq)×World×aG) :=
  bif x55 then ((mX u ((aG.mk x23 x24 x25)) ((World.mk ((hZ.mk x26 x27 x28 x29)) ((cS.mk x30)) x31 x32 x33 x34 x35 x36 x37))).bind λr56=>(ed (decide ((x21.length+([r56.1]).length)*64<=140737488355328))).bind λ_=>(m4 u ((World.mk ((hZ.mk x26 x27 x28 x29)) ((cS.mk x30)) x31 x32 x33 x34 x35 x36 x37)) r56.1).bind λr58=>F9 (x21++([r56.1])) (eH .i64 x22 1) r56.2.fB r56.2.fI r56.2.fH r58.2.fC.av r58.2.fC.aQ r58.2.fC.aE r58.2.fC.aN r58.2.fT.b9 r58.2.bN r58.2.bI r58.2.fN r58.2.fD r58.2.bk r58.2.cL r58.2.bj r1) else (oz u x21 x23 x24 x25 x26 x27 x28 x29 x30 x31 x32 x33 x34 x35 x36 x37 r1)
def c7(u dK:Nat)(x21:List cq)(x22:Int)(x23:List Int)(x24 x25:Int)(x26 x27:Int)(x28 x29:Int)(x30 x31:List Int)(x32:List aW)(x33:List aA)(x34:List ar)(x35:List ah)(x36:List cE)(x37:Int)(r1:World×aG):Option (World×(List cq)×World×aG):=match dK with
  | 0=>none
  | dK+1=>bif decide (x22 > 0) then (gr u (λz0 z1 z2 z3 z4 z5 z6 z7 z8 z9 z10 z11 z12 z13 z14 z15 z16 z17=>c7 u dK z0 z1 z2 z3 z4 z5 z6 z7 z8 z9 z10 z11 z12 z13 z14 z15 z16 z17) x21 x22 (decide (((x21.length:Int)) < 400)) x23 x24 x25 x26 x27 x28 x29 x30 x31 x32 x33 x34 x35 x36 x37 r1) else (gr u (λz0 z1 z2 z3 z4 z5 z6 z7 z8 z9 z10 z11 z12 z13 z14 z15 z16 z17=>c7 u dK z0 z1 z2 z3 z4 z5 z6 z7 z8 z9 z10 z11 z12 z13 z14 z15 z16 z17) x21 x22 false x23 x24 x25 x26 x27 x28 x29 x30 x31 x32 x33 x34 x35 x36 x37 r1)
def oA(u:Nat)(p0:aG)(p1:Int):Option (World×(List cq)×World×aG) :=
  (tI u p0).bind λr1=>(mV u r1.1).bind λr2=>(bc u r1.2 p1).bind λr3=>c7 u u (([]:List cq)) (be .i64 5 r3.1) r3.2.fB r3.2.fI r3.2.fH r2.fC.av r2.fC.aQ r2.fC.aE r2.fC.aN r2.fT.b9 r2.bN r2.bI r2.fN r2.fD r2.bk r2.cL r2.bj r1
def i2(u:Nat)(p0:aG)(p1:Int):Option (World×aG) :=
  (oA u p0 p1).bind λr1=>some ((r1.2.2.1,r1.2.2.2))
def oB(u:Nat)(p0:List Int):Option World :=
  (sK u p0).bind λr1=>(tF u p0 120).bind λr2=>(i2 u r1 (be .i64 60 r2)).bind λr3=>some r3.1
def mz(u:Nat)(x7 x8:Int)(x9 x10:Int)(x11:List Int)(x12 x13:Int):Option (hZ×aG) :=
  some (((hZ.mk x7 x8 x9 x10),(aG.mk x11 x12 x13)))
def tP(u:Nat)(p0:aG):Option (hZ×aG) :=
  (oV u p0).bind λr1=>(bc u r1.2 12).bind λr2=>bif r2.1 == 0 then ((dG u r2.2 (([1,6,7]:List Int))).bind λr3=>mz u r3.1 r1.1.aQ r1.1.aE r1.1.aN r3.2.fB r3.2.fI r3.2.fH) else (bif r2.1 == 1 then ((dG u r2.2 (([0,40,41]:List Int))).bind λr4=>mz u r1.1.av r4.1 r1.1.aE r1.1.aN r4.2.fB r4.2.fI r4.2.fH) else (bif r2.1 == 2 then ((dG u r2.2 (([0,5,6]:List Int))).bind λr5=>mz u r1.1.av r1.1.aQ r5.1 r1.1.aN r5.2.fB r5.2.fI r5.2.fH) else (bif r2.1 == 3 then ((dG u r2.2 (([1,8,9]:List Int))).bind λr6=>mz u r1.1.av r1.1.aQ r1.1.aE r6.1 r6.2.fB r6.2.fI r6.2.fH) else (mz u r1.1.av r1.1.aQ r1.1.aE r1.1.aN r2.2.fB r2.2.fI r2.2.fH))))
def rM(u:Nat)(x6 x7:List Int)(x8 x9:Int):Option (cS×aG) :=
  some (((cS.mk x6),(aG.mk x7 x8 x9)))
def tQ(u:Nat)(p0:aG):Option (cS×aG) :=
  (oU u p0).bind λr1=>(bc u r1.2 8).bind λr2=>bif r2.1 == 0 then ((bc u r2.2 ((r1.1.b9.length:Int))).bind λr3=>(dG u r3.2 (([-1,0,6,-2]:List Int))).bind λr4=>(dV r1.1.b9 r3.1).bind λy5=>rM u (r1.1.b9.set (sY r3.1) r4.1) r4.2.fB r4.2.fI r4.2.fH) else (bif r2.1 == 1 then (rM u (([]:List Int)) r2.2.fB r2.2.fI r2.2.fH) else (rM u r1.1.b9 r2.2.fB r2.2.fI r2.2.fH))
def p9(u:Nat)(p0:aG):Option (c8×aG) :=
  (i8 u p0 4).bind λr1=>bif r1.1 then ((bc u r1.2 4).bind λr2=>(bc u r2.2 2).bind λr3=>(bc u r3.2 6).bind λr4=>some (((c8.mk 2 0 ([]) ((dc.mk r2.1 r3.1 r4.1))),r4.2))) else ((bc u r1.2 2).bind λr5=>(bc u r5.2 9).bind λr6=>(gD u r6.2 5).bind λr7=>some (((c8.mk r5.1 r6.1 r7.1 ((dc.mk 0 0 0))),r7.2)))
def vD(u:Nat)(x47 x48:List Int)(x49 x50 x51:Int)(x52:List c8)(x53:List Int)(x54 x55:Int):Option (ar×aG) :=
  some (((ar.mk x47 x48 ((dc.mk x49 x50 x51)) x52),(aG.mk x53 x54 x55)))
def oC(u:Nat)(pG:Int->(List Int)->(List Int)->Int->Int->Int->(List c8)->(List Int)->Int->Int->Option (ar×aG))(x15:Int)(x41 x42:List Int)(x43 x44 x45:Int)(x46:List c8)(r38:Bool×aG):Option (ar×aG) :=
  pG (eH .i64 x15 1) x41 x42 x43 x44 x45 x46 r38.2.fB r38.2.fI r38.2.fH
def oD(u:Nat)(pG:Int->(List Int)->(List Int)->Int->Int->Int->(List c8)->(List Int)->Int->Int->Option (ar×aG))(x15:Int)(x40:Bool)(r36:ar×Bool)(r38:Bool×aG)(r37:ar):Option (ar×aG) :=
  bif x40 then (oC u pG x15 r37.fA r37.fB r37.fR.aP r37.fR.bX r37.fR.aX r37.fP r38) else (oC u pG x15 r36.1.fA r36.1.fB r36.1.fR.aP r36.1.fR.bX r36.1.fR.aX r36.1.fP r38)
def gu(u fU:Nat)(x15:Int)(x16 x17:List Int)(x18 x19 x20:Int)(x21:List c8)(x22:List Int)(x23 x24:Int):Option (ar×aG):=match fU with
  | 0=>none
  | fU+1=>bif decide (x15 > 0) then ((p9 u ((aG.mk x22 x23 x24))).bind λr35=>(mZ u ((ar.mk x16 x17 ((dc.mk x18 x19 x20)) x21)) r35.1).bind λr36=>(pf u r36.1).bind λr37=>(i8 u r35.2 5).bind λr38=>bif r38.1 then ((jV u r37).bind λr39=>oD u (λz0 z1 z2 z3 z4 z5 z6 z7 z8 z9=>gu u fU z0 z1 z2 z3 z4 z5 z6 z7 z8 z9) x15 r39 r36 r38 r37) else (oD u (λz0 z1 z2 z3 z4 z5 z6 z7 z8 z9=>gu u fU z0 z1 z2 z3 z4 z5 z6 z7 z8 z9) x15 false r36 r38 r37)) else (vD u x16 x17 x18 x19 x20 x21 x22 x23 x24)
def tR(u:Nat)(p0:aG):Option (ar×aG) :=
  (bc u p0 3).bind λr1=>(gD u r1.2 9).bind λr2=>(lz u r1.1 r2.1).bind λr3=>(bc u r2.2 5).bind λr4=>gu u u r4.1 r3.fA r3.fB r3.fR.aP r3.fR.bX r3.fR.aX r3.fP r4.2.fB r4.2.fI r4.2.fH
def lS(u:Nat)(r1:ar×aG)(x8 x9 x10:Int)(x11:List c8)(x12:List Int)(x13 x14:Int):Option (ar×aG) :=
  some (((ar.mk r1.1.fA r1.1.fB ((dc.mk x8 x9 x10)) x11),(aG.mk x12 x13 x14)))
def sZ(u:Nat)(p0:aG):Option (ar×aG) :=
  (tR u p0).bind λr1=>(bc u r1.2 12).bind λr2=>bif r2.1 == 0 then ((dG u r2.2 (([-1,0,240,241]:List Int))).bind λr3=>lS u r1 r1.1.fR.aP r1.1.fR.bX r3.1 r1.1.fP r3.2.fB r3.2.fI r3.2.fH) else (bif r2.1 == 1 then ((dG u r2.2 (([-1,1,2]:List Int))).bind λr4=>lS u r1 r1.1.fR.aP r4.1 r1.1.fR.aX r1.1.fP r4.2.fB r4.2.fI r4.2.fH) else (bif r2.1 == 2 then ((dG u r2.2 (([-1,1000001]:List Int))).bind λr5=>lS u r1 r5.1 r1.1.fR.bX r1.1.fR.aX r1.1.fP r5.2.fB r5.2.fI r5.2.fH) else (bif r2.1 == 3 then ((dG u r2.2 (([3,0,2]:List Int))).bind λr6=>(dG u r6.2 (([-1,240,0]:List Int))).bind λr7=>(ed (decide ((r1.1.fP.length+([(c8.mk r6.1 r7.1 (([1]:List Int)) ((dc.mk 0 0 0)))]).length)*64<=140737488355328))).bind λ_=>lS u r1 r1.1.fR.aP r1.1.fR.bX r1.1.fR.aX (r1.1.fP++([(c8.mk r6.1 r7.1 (([1]:List Int)) ((dc.mk 0 0 0)))])) r7.2.fB r7.2.fI r7.2.fH) else (lS u r1 r1.1.fR.aP r1.1.fR.bX r1.1.fR.aX r1.1.fP r2.2.fB r2.2.fI r2.2.fH))))
def jZ(u:Nat)(x8 x9 x10:Int)(x11:List cV)(x12:List Int)(x13 x14:Int):Option (ai×aG) :=
  some (((ai.mk x8 x9 x10 x11),(aG.mk x12 x13 x14)))
def s0(u:Nat)(p0:aG):Option (ai×aG) :=
  (og u p0).bind λr1=>(bc u r1.2.2 10).bind λr2=>bif r2.1 == 0 then ((dG u r2.2 (([0,-1,1000000,1000001]:List Int))).bind λr3=>jZ u r3.1 r1.1.av r1.1.aX r1.1.aO r3.2.fB r3.2.fI r3.2.fH) else (bif r2.1 == 1 then ((dG u r2.2 (([0,1,7]:List Int))).bind λr4=>jZ u r1.1.aP r4.1 r1.1.aX r1.1.aO r4.2.fB r4.2.fI r4.2.fH) else (bif r2.1 == 2 then (jZ u r1.1.aP r1.1.av (be .i64 r1.1.aX 1) r1.1.aO r2.2.fB r2.2.fI r2.2.fH) else (bif r2.1 == 3 then ((ed (decide ((r1.1.aO.length+([(cV.mk 1 257)]).length)*16<=140737488355328))).bind λ_=>jZ u r1.1.aP r1.1.av r1.1.aX (r1.1.aO++([(cV.mk 1 257)])) r2.2.fB r2.2.fI r2.2.fH) else (bif r2.1 == 4 then (bif decide (((r1.1.aO.length:Int)) > 0) then ((dV r1.1.aO 0).bind λy6=>(dV r1.1.aO 0).bind λy7=>jZ u r1.1.aP r1.1.av r1.1.aX (r1.1.aO.set (sY 0) ((cV.mk (be .i64 y6.fW 1) y7.fS))) r2.2.fB r2.2.fI r2.2.fH) else (jZ u r1.1.aP r1.1.av r1.1.aX r1.1.aO r2.2.fB r2.2.fI r2.2.fH)) else (jZ u r1.1.aP r1.1.av r1.1.aX r1.1.aO r2.2.fB r2.2.fI r2.2.fH)))))
def di(u:Nat)(x24:List Int)(x25 x26:Int)(x27 x28:Int)(x29 x30:Int)(x31 x32:List Int)(x33:List aW)(x34:List aA)(x35:List ar)(x36:List ah)(r1:World×aG)(x37:Int):Option (World×aG) :=
  some (((World.mk ((hZ.mk x27 x28 x29 x30)) ((cS.mk x31)) x32 x33 x34 x35 x36 r1.1.cL x37),(aG.mk x24 x25 x26)))
def q9(u:Nat)(p0:aG)(p1:Int):Option (World×aG) :=
  (i2 u p0 p1).bind λr1=>(bc u r1.2 ((r1.1.fN.length:Int))).bind λr2=>(bc u r2.2 40).bind λr3=>bif r3.1 == 0 then ((tP u r3.2).bind λr4=>di u r4.2.fB r4.2.fI r4.2.fH r4.1.av r4.1.aQ r4.1.aE r4.1.aN r1.1.fT.b9 r1.1.bN r1.1.bI r1.1.fN r1.1.fD r1.1.bk r1 r1.1.bj) else (bif r3.1 == 1 then ((tQ u r3.2).bind λr5=>di u r5.2.fB r5.2.fI r5.2.fH r1.1.fC.av r1.1.fC.aQ r1.1.fC.aE r1.1.fC.aN r5.1.b9 r1.1.bN r1.1.bI r1.1.fN r1.1.fD r1.1.bk r1 r1.1.bj) else (bif r3.1 == 2 then ((lu u r3.2).bind λr6=>di u r6.2.fB r6.2.fI r6.2.fH r1.1.fC.av r1.1.fC.aQ r1.1.fC.aE r1.1.fC.aN r1.1.fT.b9 r6.1 r1.1.bI r1.1.fN r1.1.fD r1.1.bk r1 r1.1.bj) else (bif r3.1 == 3 then ((bc u r3.2 7).bind λr7=>(dV r1.1.fN r2.1).bind λy8=>di u r7.2.fB r7.2.fI r7.2.fH r1.1.fC.av r1.1.fC.aQ r1.1.fC.aE r1.1.fC.aN r1.1.fT.b9 r1.1.bN r1.1.bI (r1.1.fN.set (sY r2.1) ((aA.mk y8.fq y8.bP y8.bC y8.aw y8.bu r7.1 y8.bd y8.bx))) r1.1.fD r1.1.bk r1 r1.1.bj) else (bif r3.1 == 4 then ((bc u r3.2 7).bind λr9=>(dV r1.1.fN r2.1).bind λy10=>di u r9.2.fB r9.2.fI r9.2.fH r1.1.fC.av r1.1.fC.aQ r1.1.fC.aE r1.1.fC.aN r1.1.fT.b9 r1.1.bN r1.1.bI (r1.1.fN.set (sY r2.1) ((aA.mk y10.fq (eH .i64 r9.1 1) y10.bC y10.aw y10.bu y10.aY y10.bd y10.bx))) r1.1.fD r1.1.bk r1 r1.1.bj) else (bif r3.1 == 5 then ((sZ u r3.2).bind λr11=>(dV r1.1.fD r2.1).bind λy12=>di u r11.2.fB r11.2.fI r11.2.fH r1.1.fC.av r1.1.fC.aQ r1.1.fC.aE r1.1.fC.aN r1.1.fT.b9 r1.1.bN r1.1.bI r1.1.fN (r1.1.fD.set (sY r2.1) r11.1) r1.1.bk r1 r1.1.bj) else (bif r3.1 == 6 then ((s0 u r3.2).bind λr13=>(dV r1.1.fN r2.1).bind λy14=>di u r13.2.fB r13.2.fI r13.2.fH r1.1.fC.av r1.1.fC.aQ r1.1.fC.aE r1.1.fC.aN r1.1.fT.b9 r1.1.bN r1.1.bI (r1.1.fN.set (sY r2.1) ((aA.mk y14.fq y14.bP y14.bC r13.1 y14.bu y14.aY y14.bd y14.bx))) r1.1.fD r1.1.bk r1 r1.1.bj) else (bif r3.1 == 7 then ((bc u r3.2 9).bind λr15=>(bc u r15.2 9).bind λr16=>(ed (decide ((r1.1.bk.length+([(ah.mk (eH .i64 r15.1 1) (eH .i64 r16.1 1) ([]))]).length)*40<=140737488355328))).bind λ_=>di u r16.2.fB r16.2.fI r16.2.fH r1.1.fC.av r1.1.fC.aQ r1.1.fC.aE r1.1.fC.aN r1.1.fT.b9 r1.1.bN r1.1.bI r1.1.fN r1.1.fD (r1.1.bk++([(ah.mk (eH .i64 r15.1 1) (eH .i64 r16.1 1) ([]))])) r1 r1.1.bj) else (bif r3.1 == 8 then (di u r3.2.fB r3.2.fI r3.2.fH r1.1.fC.av r1.1.fC.aQ r1.1.fC.aE r1.1.fC.aN r1.1.fT.b9 r1.1.bN r1.1.bI r1.1.fN r1.1.fD r1.1.bk r1 (-1)) else (bif r3.1 == 9 then ((ed (cO 1 ((r1.1.fD.length:Int)) r1.1.fD.length)).bind λ_=>di u r3.2.fB r3.2.fI r3.2.fH r1.1.fC.av r1.1.fC.aQ r1.1.fC.aE r1.1.fC.aN r1.1.fT.b9 r1.1.bN r1.1.bI r1.1.fN ((r1.1.fD.take (sY ((r1.1.fD.length:Int)))).drop (sY 1)) r1.1.bk r1 r1.1.bj) else (bif r3.1 == 10 then ((dV r1.1.fN r2.1).bind λy19=>(dV r1.1.fN r2.1).bind λy20=>di u r3.2.fB r3.2.fI r3.2.fH r1.1.fC.av r1.1.fC.aQ r1.1.fC.aE r1.1.fC.aN r1.1.fT.b9 r1.1.bN r1.1.bI (r1.1.fN.set (sY r2.1) ((aA.mk (!y19.fq) y20.bP y20.bC y20.aw y20.bu y20.aY y20.bd y20.bx))) r1.1.fD r1.1.bk r1 r1.1.bj) else (bif r3.1 == 11 then ((dV r1.1.bI r2.1).bind λy21=>(ed (decide ((y21.fB.length+(([1]:List Int)).length)*1<=140737488355328))).bind λ_=>(dV r1.1.bI r2.1).bind λy23=>di u r3.2.fB r3.2.fI r3.2.fH r1.1.fC.av r1.1.fC.aQ r1.1.fC.aE r1.1.fC.aN r1.1.fT.b9 r1.1.bN (r1.1.bI.set (sY r2.1) ((aW.mk (y21.fB++(([1]:List Int)))))) r1.1.fN r1.1.fD r1.1.bk r1 r1.1.bj) else (di u r3.2.fB r3.2.fI r3.2.fH r1.1.fC.av r1.1.fC.aQ r1.1.fC.aE r1.1.fC.aN r1.1.fT.b9 r1.1.bN r1.1.bI r1.1.fN r1.1.fD r1.1.bk r1 r1.1.bj))))))))))))
def po(u:Nat)(p0:List Int)(p1:Int):Option (aG×World) :=
  (sK u p0).bind λr1=>(q9 u r1 p1).bind λr2=>some ((r2.2,r2.1))
def oE(u:Nat)(p0:List Int):Option World :=
  (po u p0 150).bind λr1=>some r1.2
def lE(u:Nat)(p0:List Int):Option World :=
  (po u p0 150).bind λr1=>some r1.2
def qa(u:Nat)(p0:aA):Option Bool :=
  some (p0.aY == 5)
def dY(u:Nat)(x10:List Int):Option ((List Int)) :=
  some x10
def cJ(u:Nat)(n9:(List Int)->World->Int->Option ((List Int)))(x9:List Int)(p0:World)(x4:Int):Option ((List Int)) :=
  n9 x9 p0 (be .i64 x4 1)
def bZ(u bS:Nat)(x3:List Int)(p0:World)(x4:Int):Option ((List Int)):=match bS with
  | 0=>none
  | bS+1=>bif decide (x4 < ((p0.fN.length:Int))) then ((dV p0.fN x4).bind λy7=>(qa u y7).bind λr8=>bif r8 then ((ed (decide ((x3.length+(([x4]:List Int)).length)*8<=140737488355328))).bind λ_=>cJ u (λz0 z1 z2=>bZ u bS z0 z1 z2) (x3++(([x4]:List Int))) p0 x4) else (cJ u (λz0 z1 z2=>bZ u bS z0 z1 z2) x3 p0 x4)) else (dY u x3)
def eF(u:Nat)(p0:World):Option ((List Int)) :=
  bZ u u (([]:List Int)) p0 0
def iT(u:Nat)(p0:World)(s:(List Int)):Option ((List Int)):=(dY u s)
def iU(u:Nat)(p0:World)(y7:aA)(i_:Nat)(s:(List Int))(k_:((List Int))->Option ((List Int))):Option ((List Int)):=(qa u y7).bind λr8=>bif r8 then ((ed (decide ((s.length+(([(i_:Int)]:List Int)).length)*8<=140737488355328))).bind λ_=>cJ u (λz0 z1 z2=>k_ z0) (s++(([(i_:Int)]:List Int))) p0 (i_:Int)) else (cJ u (λz0 z1 z2=>k_ z0) s p0 (i_:Int))
theorem n8(u:Nat)(p0:World)(s:(List Int))(k:Nat)(hn:p0.fN.length<=9223372036854775807)(hk:p0.fN.length < k):bZ u k s p0 0=Pu.cy (iT u p0) (iU u p0) p0.fN 0 s:=Pu.eI (λ(k:Nat) (s:(List Int)) (i:Int)=>bZ u k s p0 i) hn (λ_ _ _=>rfl) s hk
def tS(u:Nat)(p0:World):Option ((List Int)) :=
  (eF u p0).bind λr1=>some r1
def jg(u:Nat)(p0 p1 p2:Int):Option Bool :=
  bif decide (p0>=p1) then (some (decide (p0<=p2))) else (some false)
def yq(u:Nat)(p0:Int):Option Bool :=
  (jg u p0 0 1000000).bind λr1=>some r1
def ra(u:Nat)(p0:Int):Option Bool :=
  bif p0 == 0 then (some true) else (some (p0 == 1))
def nM(u:Nat)(p0:dc):Option Bool :=
  (yq u p0.aP).bind λr1=>bif r1 then ((ra u p0.bX).bind λr2=>bif r2 then ((jg u p0.aX 0 240).bind λr3=>some r3) else (some false)) else (some false)
def gn(u:Nat)(p0:ar)(p1:Int):Option ((List Int)) :=
  bif p1 == 0 then (some p0.fA) else (some p0.fB)
def vE(u:Nat)(p0:c8):Option Bool :=
  bif p0.iA == 2 then (bif p0.zS == 0 then (bif ((p0.fB.length:Int)) == 0 then ((nM u p0.fR).bind λr1=>some r1) else (some false)) else (some false)) else ((ra u p0.iA).bind λr2=>bif r2 then (bif [p0.fR.aP,p0.fR.bX,p0.fR.aX] == [0,0,0] then ((jg u p0.zS 0 (eH .i64 240 ((p0.fB.length:Int)))).bind λr3=>some r3) else (some false)) else (some false))
def qb(u:Nat)(p0:c8):Option Bool :=
  (vE u p0).bind λr1=>some (!r1)
def dd(u:Nat)  : Option Int :=
  some (-1)
def bO(u bL:Nat)(p0:List c8)(x2:Int):Option Int:=match bL with
  | 0=>none
  | bL+1=>bif decide (x2 < ((p0.length:Int))) then ((dV p0 x2).bind λy4=>(qb u y4).bind λr5=>bif r5 then (some x2) else ((λz0 z1=>bO u bL z0 z1) p0 (be .i64 x2 1))) else (dd u)
def cK(u:Nat)(p0:List c8):Option Int :=
  bO u u p0 0
def jh(u:Nat)(p0:List c8)(s:Unit):Option Int:=(dd u)
def eA(u:Nat)(p0:List c8)(y4:c8)(i_:Nat)(s:Unit)(k_:Unit->Option Int):Option Int:=(qb u y4).bind λr5=>bif r5 then (some (i_:Int)) else ((λz0 z1=>k_ ()) p0 (be .i64 (i_:Int) 1))
theorem ji(u:Nat)(p0:List c8)(s:Unit)(k:Nat)(hn:p0.length<=9223372036854775807)(hk:p0.length < k):bO u k p0 0=Pu.cy (jh u p0) (eA u p0) p0 0 s:=Pu.eI (λ(k:Nat) (s:Unit) (i:Int)=>bO u k p0 i) hn (λ_ _ _=>rfl) s hk
def b7(u:Nat)(p0:List c8):Option Bool :=
  (cK u p0).bind λr1=>some (decide (r1>=0))
def mA(u:Nat)(p0:ar)(x3:Bool):Option Bool :=
  bif x3 then (some false) else (bif decide (((p0.fP.length:Int))<=200) then ((b7 u p0.fP).bind λr4=>some (!r4)) else (some false))
def tT(u:Nat)(p0:ar):Option Bool :=
  bif decide (((p0.fA.length:Int)) > 240) then (mA u p0 true) else (bif decide (((p0.fB.length:Int)) > 240) then (mA u p0 true) else ((nM u p0.fR).bind λr1=>bif !r1 then (mA u p0 true) else ((gn u p0 p0.fR.bX).bind λr2=>mA u p0 (decide (p0.fR.aX > ((r2.length:Int)))))))
def tU(u:Nat)(p0:List Int):Option ((List Int)) :=
  (ed (decide (0<=((p0.length:Int))) && (0 == 0 || 0 == ((p0.length:Int))))).bind λ_=>(ed (decide (sY ((p0.length:Int))*1<=140737488355328))).bind λ_=>(ed (decide (((zQh (sY 0) (0:Int)).length+p0.length)*1<=140737488355328))).bind λ_=>some ((zQh (sY 0) (0:Int))++p0)
def rN(u:Nat)(p0:ar):Option (Int×(List Int)) :=
  (tT u p0).bind λr1=>bif !r1 then (some ((0,[]))) else ((gn u p0 p0.fR.bX).bind λr2=>(ed (cO 0 p0.fR.aX r2.length)).bind λ_=>(tU u ((r2.take (sY p0.fR.aX)).drop (sY 0))).bind λr4=>some ((p0.fR.aP,r4)))
def zW(u:Nat)(p0 p1:List Int):Option Bool :=
  some ((strOfNums p0).toList == (strOfNums p1).toList)
def rO(u:Nat)(p0 p1:List Int):Option Bool :=
  (zW u p0 p1).bind λr1=>some r1
def s4(u:Nat)(p0:ar)(p1:Int)(p2:List Int):Option Bool :=
  (rN u p0).bind λr1=>bif r1.1 == p1 then ((rO u r1.2 p2).bind λr2=>some r2) else (some false)
def qE(u:Nat)(p1:Int)(x3:Bool)(p0:World):Option Int :=
  bif x3 then (some (-1)) else ((dV p0.fD p1).bind λy4=>(dV p0.bI p1).bind λy5=>(s4 u y4 0 y5.fB).bind λr6=>bif r6 then (some 0) else ((dV p0.fD p1).bind λy7=>(s4 u y7 1 p0.bN).bind λr8=>bif r8 then (some 1) else (some (-1))))
def m5(u:Nat)(p0:World)(p1:Int):Option Int :=
  (jg u p1 0 (eH .i64 ((p0.fD.length:Int)) 1)).bind λr1=>bif !r1 then (qE u p1 true p0) else ((jg u p1 0 (eH .i64 ((p0.bI.length:Int)) 1)).bind λr2=>qE u p1 (!r2) p0)
def qc(u:Nat)(p0:bM):Option Int :=
  some p0.bY
def qT(u:Nat)(p0:Int):Option Bool :=
  (jg u p0 0 1099511627775).bind λr1=>some r1
def iI(u:Nat)(x11:Int):Option Int :=
  some x11
def dv(u:Nat)(sI:Int->(List bM)->Int->Option Int)(x10:Int)(p0:List bM)(x4:Int):Option Int :=
  sI x10 p0 (be .i64 x4 1)
def cF(u cu:Nat)(x3:Int)(p0:List bM)(x4:Int):Option Int:=match cu with
  | 0=>none
  | cu+1=>bif decide (x4 < ((p0.length:Int))) then ((dV p0 x4).bind λy7=>(qc u y7).bind λr8=>(qT u r8).bind λr9=>bif r9 then (dv u (λz0 z1 z2=>cF u cu z0 z1 z2) (u3 .i64 x3 r8) p0 x4) else (dv u (λz0 z1 z2=>cF u cu z0 z1 z2) x3 p0 x4)) else (iI u x3)
def g9(u:Nat)(p0:List bM):Option Int :=
  cF u u 0 p0 0
def lF(u:Nat)(p0:List bM)(s:Int):Option Int:=(iI u s)
def ig(u:Nat)(p0:List bM)(y7:bM)(i_:Nat)(s:Int)(k_:Int->Option Int):Option Int:=(qc u y7).bind λr8=>(qT u r8).bind λr9=>bif r9 then (dv u (λz0 z1 z2=>k_ z0) (u3 .i64 s r8) p0 (i_:Int)) else (dv u (λz0 z1 z2=>k_ z0) s p0 (i_:Int))
theorem rP(u:Nat)(p0:List bM)(s:Int)(k:Nat)(hn:p0.length<=9223372036854775807)(hk:p0.length < k):cF u k s p0 0=Pu.cy (lF u p0) (ig u p0) p0 0 s:=Pu.eI (λ(k:Nat) (s i:Int)=>cF u k s p0 i) hn (λ_ _ _=>rfl) s hk
def tW(u:Nat)(p0:List bM):Option Int :=
  (g9 u p0).bind λr1=>some r1
def rQ(u:Nat)(p0:Int):Option Bool :=
  (jg u p0 0 39).bind λr1=>some r1
def s5(u:Nat)(p0 p1:Int):Option Bool :=
  (qT u p0).bind λr1=>bif r1 then ((rQ u p1).bind λr2=>bif r2 then ((ed (decide (0<=p1))).bind λ_=>some ((fG .i64 (m7 .i64 p0 p1) 1) == 1)) else (some false)) else (some false)
def qF(u:Nat)(x9:List Int):Option ((List Int)) :=
  some x9
def jG(u:Nat)(EB:Int->(List Int)->Int->Option ((List Int)))(p0:Int)(x8:List Int)(x4:Int):Option ((List Int)) :=
  EB p0 x8 (be .i64 x4 1)
def iu(u gj:Nat)(p0:Int)(x3:List Int)(x4:Int):Option ((List Int)):=match gj with
  | 0=>none
  | gj+1=>bif decide (x4 < 40) then ((s5 u p0 x4).bind λr7=>bif r7 then ((ed (decide ((x3.length+(([x4]:List Int)).length)*8<=140737488355328))).bind λ_=>jG u (λz0 z1 z2=>iu u gj z0 z1 z2) p0 (x3++(([x4]:List Int))) x4) else (jG u (λz0 z1 z2=>iu u gj z0 z1 z2) p0 x3 x4)) else (qF u x3)
def rS(u:Nat)(p0:Int):Option ((List Int)) :=
  iu u u p0 (([]:List Int)) 0
def wv(u:Nat)(p0:Int)(s:(List Int)):Option ((List Int)):=(qF u s)
def ww(u:Nat)(p0:Int)(i_:Nat)(s:(List Int))(k_:((List Int))->Option ((List Int))):Option ((List Int)):=(s5 u p0 (i_:Int)).bind λr7=>bif r7 then ((ed (decide ((s.length+(([(i_:Int)]:List Int)).length)*8<=140737488355328))).bind λ_=>jG u (λz0 z1 z2=>k_ z1) p0 (s++(([(i_:Int)]:List Int))) (i_:Int)) else (jG u (λz0 z1 z2=>k_ z1) p0 s (i_:Int))
theorem Db(u:Nat)(p0:Int)(s:(List Int))(k:Nat)(hn:(40:Int)<=9223372036854775807)(hk:sY (40) < k):iu u k p0 s 0=Pu.qg (wv u p0) (ww u p0) (sY (40)) 0 s:=Pu.sg (λ(k:Nat) (s:(List Int)) (i:Int)=>iu u k p0 s i) hn (λ_ _ _=>rfl) s hk
def nN(u:Nat)(p0:World):Option ((List Int)) :=
  bif ((p0.fN.length:Int)) == 0 then (some ([])) else ((dV p0.fN 0).bind λy1=>(tW u y1.bd).bind λr2=>(rS u r2).bind λr3=>some r3)
def rT(u:Nat)(p0:Int)(q0:World):Option Bool :=
  (m5 u q0 p0).bind λr1=>some (r1 != 1)
def ez(u:Nat)  : Option Int :=
  some (-1)
def cf(u cc:Nat)(p0:List Int)(p1_0:World)(x2:Int):Option Int:=match cc with
  | 0=>none
  | cc+1=>bif decide (x2 < ((p0.length:Int))) then ((dV p0 x2).bind λy4=>(rT u y4 p1_0).bind λr5=>bif r5 then (some x2) else ((λz0 z1 z2=>cf u cc z0 z1 z2) p0 p1_0 (be .i64 x2 1))) else (ez u)
def dA(u:Nat)(p0:List Int)(p1_0:World):Option Int :=
  cf u u p0 p1_0 0
def lY(u:Nat)(p0:List Int)(p1_0:World)(s:Unit):Option Int:=(ez u)
def gL(u:Nat)(p0:List Int)(p1_0:World)(y4:Int)(i_:Nat)(s:Unit)(k_:Unit->Option Int):Option Int:=(rT u y4 p1_0).bind λr5=>bif r5 then (some (i_:Int)) else ((λz0 z1 z2=>k_ ()) p0 p1_0 (be .i64 (i_:Int) 1))
theorem lZ(u:Nat)(p0:List Int)(p1_0:World)(s:Unit)(k:Nat)(hn:p0.length<=9223372036854775807)(hk:p0.length < k):cf u k p0 p1_0 0=Pu.cy (lY u p0 p1_0) (gL u p0 p1_0) p0 0 s:=Pu.eI (λ(k:Nat) (s:Unit) (i:Int)=>cf u k p0 p1_0 i) hn (λ_ _ _=>rfl) s hk
def df(u:Nat)(p0:List Int)(p1_0:World):Option Bool :=
  (dA u p0 p1_0).bind λr1=>some (decide (r1>=0))
def s6(u:Nat)(p0:World):Option Bool :=
  (nN u p0).bind λr1=>(df u r1 p0).bind λr2=>some (!r2)
def nO(u:Nat)(p0:World):Option ((List Int)) :=
  bif ((p0.fN.length:Int)) == 0 then (some (([]:List Int))) else ((dV p0.fN 0).bind λy1=>(q6 u y1.bd).bind λr2=>(pg u r2).bind λr3=>some r3)
def s7(u:Nat)(p0:ar)(p1:Int)(p2:List Int):Option Bool :=
  (pi u p0).bind λr1=>bif r1.1 == p1 then ((mm u r1.2 p2).bind λr2=>some r2) else (some false)
def qG(u:Nat)(p1:Int)(x2:Bool)(p0:World):Option Int :=
  bif x2 then (some (-1)) else ((dV p0.fD p1).bind λy3=>(dV p0.bI p1).bind λy4=>(s7 u y3 0 y4.fB).bind λr5=>bif r5 then (some 0) else ((dV p0.fD p1).bind λy6=>(s7 u y6 1 p0.bN).bind λr7=>bif r7 then (some 1) else (some (-1))))
def pp(u:Nat)(p0:World)(p1:Int):Option Int :=
  (bJ u p1 0 (eH .i64 ((p0.fD.length:Int)) 1)).bind λr1=>bif !r1 then (qG u p1 true p0) else (qG u p1 (decide (p1>=((p0.bI.length:Int)))) p0)
def wY(u:Nat)  : Option Bool :=
  some true
def nP(u lp:Nat)(r1:(List Int))(x3:Int)(p0:World):Option Bool:=match lp with
  | 0=>none
  | lp+1=>bif decide (x3 < ((r1.length:Int))) then ((dV r1 x3).bind λy5=>(pp u p0 y5).bind λr6=>bif r6 != 1 then (some false) else ((λz0 z1 z2=>nP u lp z0 z1 z2) r1 (be .i64 x3 1) p0)) else (wY u)
def vF(u:Nat)(p0:World):Option Bool :=
  (nO u p0).bind λr1=>nP u u r1 0 p0
def zg(u:Nat)(r1:(List Int))(p0:World)(s:Unit):Option Bool:=(wY u)
def uk(u:Nat)(r1:(List Int))(p0:World)(y5:Int)(i_:Nat)(s:Unit)(k_:Unit->Option Bool):Option Bool:=(pp u p0 y5).bind λr6=>bif r6 != 1 then (some false) else ((λz0 z1 z2=>k_ ()) r1 (be .i64 (i_:Int) 1) p0)
theorem GQ(u:Nat)(r1:(List Int))(p0:World)(s:Unit)(k:Nat)(hn:r1.length<=9223372036854775807)(hk:r1.length < k):nP u k r1 0 p0=Pu.cy (zg u r1 p0) (uk u r1 p0) r1 0 s:=Pu.eI (λ(k:Nat) (s:Unit) (i:Int)=>nP u k r1 i p0) hn (λ_ _ _=>rfl) s hk
def s8(u:Nat)  : Option Bool :=
  some true
def kn(u iP:Nat)(p0 p1:List Int)(x2:Int):Option Bool:=match iP with
  | 0=>none
  | iP+1=>bif decide (x2 < ((p0.length:Int))) then ((dV p0 x2).bind λy4=>(dV p1 x2).bind λy5=>bif y4 != y5 then (some false) else ((λz0 z1 z2=>kn u iP z0 z1 z2) p0 p1 (be .i64 x2 1))) else (s8 u)
def qd(u:Nat)(p0 p1:List Int):Option Bool :=
  bif ((p0.length:Int)) != ((p1.length:Int)) then (some false) else (kn u u p0 p1 0)
def B6(u:Nat)(p0 p1:List Int)(s:Unit):Option Bool:=(s8 u)
def vG(u:Nat)(p0 p1:List Int)(y4:Int)(i_:Nat)(s:Unit)(k_:Unit->Option Bool):Option Bool:=(dV p1 (i_:Int)).bind λy5=>bif y4 != y5 then (some false) else ((λz0 z1 z2=>k_ ()) p0 p1 (be .i64 (i_:Int) 1))
theorem B7(u:Nat)(p0 p1:List Int)(s:Unit)(k:Nat)(hn:p0.length<=9223372036854775807)(hk:p0.length < k):kn u k p0 p1 0=Pu.cy (B6 u p0 p1) (vG u p0 p1) p0 0 s:=Pu.eI (λ(k:Nat) (s:Unit) (i:Int)=>kn u k p0 p1 i) hn (λ_ _ _=>rfl) s hk
def pq(u:Nat)(r2 r3 r4:World):Option Bool :=
  (s6 u r3).bind λr11=>(vF u r3).bind λr12=>bif r11 == r12 then ((nN u r4).bind λr13=>(nO u r4).bind λr14=>(qd u r13 r14).bind λr15=>bif r15 then ((s6 u r2).bind λr16=>some r16) else (some false)) else (some false)
def kt(u iO:Nat)(r5:(List Int))(x7:Int)(r2 r3 r4:World):Option Bool:=match iO with
  | 0=>none
  | iO+1=>bif decide (x7 < ((r5.length:Int))) then ((dV r5 x7).bind λy9=>(m5 u r2 y9).bind λr10=>bif r10 != 1 then (some false) else ((λz0 z1 z2 z3 z4=>kt u iO z0 z1 z2 z3 z4) r5 (be .i64 x7 1) r2 r3 r4)) else (pq u r2 r3 r4)
def nQ(u:Nat)(p0:List Int):Option Bool :=
  (CS u p0).bind λr1=>bif r1 then (some true) else ((oB u p0).bind λr2=>(oE u p0).bind λr3=>(lE u p0).bind λr4=>(tS u r2).bind λr5=>kt u u r5 0 r2 r3 r4)
def vH(u:Nat)(r5:(List Int))(r2 r3 r4:World)(s:Unit):Option Bool:=(pq u r2 r3 r4)
def vI(u:Nat)(r5:(List Int))(r2 r3 r4:World)(y9:Int)(i_:Nat)(s:Unit)(k_:Unit->Option Bool):Option Bool:=(m5 u r2 y9).bind λr10=>bif r10 != 1 then (some false) else ((λz0 z1 z2 z3 z4=>k_ ()) r5 (be .i64 (i_:Int) 1) r2 r3 r4)
theorem B8(u:Nat)(r5:(List Int))(r2 r3 r4:World)(s:Unit)(k:Nat)(hn:r5.length<=9223372036854775807)(hk:r5.length < k):kt u k r5 0 r2 r3 r4=Pu.cy (vH u r5 r2 r3 r4) (vI u r5 r2 r3 r4) r5 0 s:=Pu.eI (λ(k:Nat) (s:Unit) (i:Int)=>kt u k r5 i r2 r3 r4) hn (λ_ _ _=>rfl) s hk
end Go.Tm
