/- Go functions as pure functions. -/
import Derived.Test.YtdcoelkflgpfgaaGreatDoorCFnTextsF3
import Derived.Lib.ItoaLen
import Derived.Lib.Join
set_option maxRecDepth 100000
set_option maxHeartbeats 20000000
set_option linter.unusedVariables false
set_option linter.unusedSimpArgs false
open Int renaming toNat->sY
open List renaming replicate->zQq
open ByteArray renaming mk->zm
open Go.IntKind renaming wrap->Ir
namespace Go.Tm
structure aJ where
  fB:List Int
  fI:Int
  fH:Int
  deriving DecidableEq
def bu(x:aJ):List T:=[.sl 1 (x.fB.map (aj .u8)),.int .i64 x.fI,.int .i64 x.fH]
def aJ.wf(x:aJ):Prop:=(M1 (kc .u8)) x.fB/\(kc .i64) x.fI/\(kc .i64) x.fH/\True
structure c9 where
  cy:List Int
  deriving DecidableEq
def rC(x:c9):List T:=[.sl 1 (x.cy.map (aj .i64))]
def c9.wf(x:c9):Prop:=(M1 (kc .i64)) x.cy/\True
structure bp where
  fB:List Int
  deriving DecidableEq
def bA(x:bp):List T:=[.sl 1 (x.fB.map (aj .u8))]
def bp.wf(x:bp):Prop:=(M1 (kc .u8)) x.fB/\True
structure iW where
  aB:Int
  bc:Int
  aU:Int
  aY:Int
  deriving DecidableEq
def oN(x:iW):List T:=[.int .i64 x.aB,.int .i64 x.bc,.int .i64 x.aU,.int .i64 x.aY]
def iW.wf(x:iW):Prop:=(kc .i64) x.aB/\(kc .i64) x.bc/\(kc .i64) x.aU/\(kc .i64) x.aY/\True
structure cC where
  fW:Int
  fS:Int
  deriving DecidableEq
def aS(x:cC):List T:=[.int .i64 x.fW,.int .i64 x.fS]
def cC.wf(x:cC):Prop:=(kc .i64) x.fW/\(kc .i64) x.fS/\True
structure af where
  aH:Int
  aB:Int
  aT:Int
  aI:List cC
  deriving DecidableEq
def aF(x:af):List T:=[.int .i64 x.aH,.int .i64 x.aB,.int .i64 x.aT,.sl 2 (x.aI.map aS)]
def af.wf(x:af):Prop:=(kc .i64) x.aH/\(kc .i64) x.aB/\(kc .i64) x.aT/\(M1 cC.wf) x.aI/\True
structure bH where
  bl:Int
  cj:List Int
  deriving DecidableEq
def iQ(x:bH):List T:=[.int .i64 x.bl,.sl 1 (x.cj.map (aj .u8))]
def bH.wf(x:bH):Prop:=(kc .i64) x.bl/\(M1 (kc .u8)) x.cj/\True
structure bS where
  pN:Int
  bQ:Int
  bW:Int
  zF:Int
  pK:Int
  deriving DecidableEq
def aX(x:bS):List T:=[.int .i64 x.pN,.int .i64 x.bQ,.int .i64 x.bW,.int .i64 x.zF,.int .i64 x.pK]
def bS.wf(x:bS):Prop:=(kc .i64) x.pN/\(kc .i64) x.bQ/\(kc .i64) x.bW/\(kc .i64) x.zF/\(kc .i64) x.pK/\True
structure aG where
  ia:Bool
  bD:Int
  bI:Int
  ay:af
  bw:bH
  bh:Int
  aZ:List bS
  bg:Int
  deriving DecidableEq
def aw(x:aG):List T:=[.bool x.ia,.int .i64 x.bD,.int .i64 x.bI,.int .i64 x.ay.aH,.int .i64 x.ay.aB,.int .i64 x.ay.aT,.sl 2 (x.ay.aI.map aS),.int .i64 x.bw.bl,.sl 1 (x.bw.cj.map (aj .u8)),.int .i64 x.bh,.sl 5 (x.aZ.map aX),.int .i64 x.bg]
def aG.wf(x:aG):Prop:=(λ_=>True) x.ia/\(kc .i64) x.bD/\(kc .i64) x.bI/\af.wf x.ay/\bH.wf x.bw/\(kc .i64) x.bh/\(M1 bS.wf) x.aZ/\(kc .i64) x.bg/\True
structure dq where
  aH:Int
  b8:Int
  aT:Int
  deriving DecidableEq
def tr(x:dq):List T:=[.int .i64 x.aH,.int .i64 x.b8,.int .i64 x.aT]
def dq.wf(x:dq):Prop:=(kc .i64) x.aH/\(kc .i64) x.b8/\(kc .i64) x.aT/\True
structure dv where
  mi:Int
  Di:Int
  fB:List Int
  fR:dq
  deriving DecidableEq
def bf(x:dv):List T:=[.int .i64 x.mi,.int .i64 x.Di,.sl 1 (x.fB.map (aj .u8)),.int .i64 x.fR.aH,.int .i64 x.fR.b8,.int .i64 x.fR.aT]
def dv.wf(x:dv):Prop:=(kc .i64) x.mi/\(kc .i64) x.Di/\(M1 (kc .u8)) x.fB/\dq.wf x.fR/\True
structure aC where
  fA:List Int
  fB:List Int
  fR:dq
  fP:List dv
  deriving DecidableEq
def al(x:aC):List T:=[.sl 1 (x.fA.map (aj .u8)),.sl 1 (x.fB.map (aj .u8)),.int .i64 x.fR.aH,.int .i64 x.fR.b8,.int .i64 x.fR.aT,.sl 6 (x.fP.map bf)]
def aC.wf(x:aC):Prop:=(M1 (kc .u8)) x.fA/\(M1 (kc .u8)) x.fB/\dq.wf x.fR/\(M1 dv.wf) x.fP/\True
structure ak where
  cQ:Int
  rB:Int
  fB:List Int
  deriving DecidableEq
def am(x:ak):List T:=[.int .i64 x.cQ,.int .i64 x.rB,.sl 1 (x.fB.map (aj .u8))]
def ak.wf(x:ak):Prop:=(kc .i64) x.cQ/\(kc .i64) x.rB/\(M1 (kc .u8)) x.fB/\True
structure dZ where
  cQ:Int
  rB:Int
  fI:Int
  deriving DecidableEq
def b9(x:dZ):List T:=[.int .i64 x.cQ,.int .i64 x.rB,.int .i64 x.fI]
def dZ.wf(x:dZ):Prop:=(kc .i64) x.cQ/\(kc .i64) x.rB/\(kc .i64) x.fI/\True
structure World where
  fC:iW
  fT:c9
  ct:List Int
  ca:List bp
  fN:List aG
  fD:List aC
  br:List ak
  dB:List dZ
  bC:Int
  deriving DecidableEq
def bm(x:World):List T:=[.int .i64 x.fC.aB,.int .i64 x.fC.bc,.int .i64 x.fC.aU,.int .i64 x.fC.aY,.sl 1 (x.fT.cy.map (aj .i64)),.sl 1 (x.ct.map (aj .u8)),.sl 1 (x.ca.map bA),.sl 12 (x.fN.map aw),.sl 6 (x.fD.map al),.sl 3 (x.br.map am),.sl 3 (x.dB.map b9),.int .i64 x.bC]
def ib(t:T)(x:World):List T:=[.int .i64 x.fC.aB,.int .i64 x.fC.bc,.int .i64 x.fC.aU,.int .i64 x.fC.aY,.sl 1 (x.fT.cy.map (aj .i64)),.sl 1 (x.ct.map (aj .u8)),t,.sl 12 (x.fN.map aw),.sl 6 (x.fD.map al),.sl 3 (x.br.map am),.sl 3 (x.dB.map b9),.int .i64 x.bC]
def World.wf(x:World):Prop:=iW.wf x.fC/\c9.wf x.fT/\(M1 (kc .u8)) x.ct/\(M1 bp.wf) x.ca/\(M1 aG.wf) x.fN/\(M1 aC.wf) x.fD/\(M1 ak.wf) x.br/\(M1 dZ.wf) x.dB/\(kc .i64) x.bC/\True
structure cK where
  ba:Int
  fN:Int
  fS:Int
  fP:ak
  deriving DecidableEq
def eA(x:cK):List T:=[.int .i64 x.ba,.int .i64 x.fN,.int .i64 x.fS,.int .i64 x.fP.cQ,.int .i64 x.fP.rB,.sl 1 (x.fP.fB.map (aj .u8))]
def cK.wf(x:cK):Prop:=(kc .i64) x.ba/\(kc .i64) x.fN/\(kc .i64) x.fS/\ak.wf x.fP/\True
structure dW where
  ba:Int
  aH:Int
  ay:af
  bQ:Int
  bW:Int
  fI:Int
  fB:List Int
  deriving DecidableEq
def cR(x:dW):List T:=[.int .i64 x.ba,.int .i64 x.aH,.int .i64 x.ay.aH,.int .i64 x.ay.aB,.int .i64 x.ay.aT,.sl 2 (x.ay.aI.map aS),.int .i64 x.bQ,.int .i64 x.bW,.int .i64 x.fI,.sl 1 (x.fB.map (aj .u8))]
def dW.wf(x:dW):Prop:=(kc .i64) x.ba/\(kc .i64) x.aH/\af.wf x.ay/\(kc .i64) x.bQ/\(kc .i64) x.bW/\(kc .i64) x.fI/\(M1 (kc .u8)) x.fB/\True
structure Iz where
  fN:aG
  fD:aC
  n5:List ak
  deriving DecidableEq
def Xd(x:Iz):List T:=[.bool x.fN.ia,.int .i64 x.fN.bD,.int .i64 x.fN.bI,.int .i64 x.fN.ay.aH,.int .i64 x.fN.ay.aB,.int .i64 x.fN.ay.aT,.sl 2 (x.fN.ay.aI.map aS),.int .i64 x.fN.bw.bl,.sl 1 (x.fN.bw.cj.map (aj .u8)),.int .i64 x.fN.bh,.sl 5 (x.fN.aZ.map aX),.int .i64 x.fN.bg,.sl 1 (x.fD.fA.map (aj .u8)),.sl 1 (x.fD.fB.map (aj .u8)),.int .i64 x.fD.fR.aH,.int .i64 x.fD.fR.b8,.int .i64 x.fD.fR.aT,.sl 6 (x.fD.fP.map bf),.sl 3 (x.n5.map am)]
def Iz.wf(x:Iz):Prop:=aG.wf x.fN/\aC.wf x.fD/\(M1 ak.wf) x.n5/\True
structure Act where
  fN:aG
  n5:List ak
  deriving DecidableEq
def zJ(x:Act):List T:=[.bool x.fN.ia,.int .i64 x.fN.bD,.int .i64 x.fN.bI,.int .i64 x.fN.ay.aH,.int .i64 x.fN.ay.aB,.int .i64 x.fN.ay.aT,.sl 2 (x.fN.ay.aI.map aS),.int .i64 x.fN.bw.bl,.sl 1 (x.fN.bw.cj.map (aj .u8)),.int .i64 x.fN.bh,.sl 5 (x.fN.aZ.map aX),.int .i64 x.fN.bg,.sl 3 (x.n5.map am)]
def Act.wf(x:Act):Prop:=aG.wf x.fN/\(M1 ak.wf) x.n5/\True
def GG(u:Nat)(p0:List Int):Option Bool :=
  some (decide (((p0.length:Int)) > 1048576))
def wj(u:Nat)(p0:List Int)(x9:Int):Option aJ :=
  some ((aJ.mk p0 0 x9))
def rD(u:Nat)(L7:(List Int)->Int->Int->Option aJ)(p0:List Int)(x3 x4:Int)(x7:Bool):Option aJ :=
  bif x7 then ((dm p0 x4).bind λy8=>L7 p0 (bJ .i64 (aL .i64 (aL .i64 (eO .i64 x3 137) (Ir .i64 y8)) 11) 1073741823) (aL .i64 x4 1)) else (wj u p0 x3)
def jI(u i8:Nat)(p0:List Int)(x3 x4:Int):Option aJ:=match i8 with
  | 0=>none
  | i8+1=>bif decide (x4 < ((p0.length:Int))) then (rD u (jI u i8) p0 x3 x4 (decide (x4 < 4000))) else (rD u (jI u i8) p0 x3 x4 false)
def tu(u:Nat)(p0:List Int):Option aJ :=
  jI u u p0 (aL .i64 162416 ((p0.length:Int))) 0
def pO(u:Nat)(x2:Int)(p0:aJ)(x3:Int):Option (Int×aJ) :=
  some ((x2,(aJ.mk p0.fB x3 (aL .i64 (eO .i64 p0.fH 6364136223846793005) 1442695040888963407))))
def k6(u:Nat)(p0:aJ):Option (Int×aJ) :=
  bif decide (p0.fI < ((p0.fB.length:Int))) then ((dm p0.fB p0.fI).bind λy1=>pO u (bJ .i64 (aL .i64 (bJ .i64 (QT .i64 (cU .i64 (aL .i64 (eO .i64 p0.fH 6364136223846793005) 1442695040888963407) 33) (cU .i64 (aL .i64 (eO .i64 p0.fH 6364136223846793005) 1442695040888963407) 47)) 255) (Ir .i64 y1)) 255) p0 (aL .i64 p0.fI 1)) else (pO u (bJ .i64 (QT .i64 (cU .i64 (aL .i64 (eO .i64 p0.fH 6364136223846793005) 1442695040888963407) 33) (cU .i64 (aL .i64 (eO .i64 p0.fH 6364136223846793005) 1442695040888963407) 47)) 255) p0 p0.fI)
def aW(u:Nat)(p0:aJ)(p1:Int):Option (Int×aJ) :=
  bif decide (p1<=0) then (some ((0,p0))) else (bif decide (p1<=256) then ((k6 u p0).bind λr1=>(cd (!(p1 == 0))).bind λ_=>some ((ml .i64 r1.1 p1,r1.2))) else ((k6 u p0).bind λr3=>(k6 u r3.2).bind λr4=>(k6 u r4.2).bind λr5=>(cd (!(p1 == 0))).bind λ_=>some ((ml .i64 (aL .i64 (aL .i64 (eO .i64 r3.1 65536) (eO .i64 r4.1 256)) r5.1) p1,r5.2))))
def ie(u:Nat)(p0:aJ)(p1:Int):Option (Bool×aJ) :=
  (aW u p0 p1).bind λr1=>some ((r1.1 == 0,r1.2))
def sJ(u:Nat)(x23 x24:List Int)(x25 x26:Int):Option (c9×aJ) :=
  some (((c9.mk x23),(aJ.mk x24 x25 x26)))
def oO(u:Nat)(Ix:Int->(List Int)->(List Int)->Int->Int->Option (c9×aJ))(x6 x19:Int)(x7 x20:List Int)(x21 x22:Int):Option (c9×aJ) :=
  (cd (decide ((x7.length+(([x19]:List Int)).length)*8<=140737488355328))).bind λ_=>Ix (aL .i64 x6 1) (x7++(([x19]:List Int))) x20 x21 x22
def fw(u gE:Nat)(x6:Int)(x7 x8:List Int)(x9 x10:Int):Option (c9×aJ):=match gE with
  | 0=>none
  | gE+1=>(aW u ((aJ.mk x8 x9 x10)) 7).bind λr16=>bif decide (x6 < (aL .i64 1 r16.1)) then ((ie u r16.2 2).bind λr17=>bif r17.1 then ((aW u r17.2 x6).bind λr18=>oO u (fw u gE) x6 r18.1 x7 r18.2.fB r18.2.fI r18.2.fH) else (oO u (fw u gE) x6 (cG .i64 x6 1) x7 r17.2.fB r17.2.fI r17.2.fH)) else (sJ u x7 r16.2.fB r16.2.fI r16.2.fH)
def qA(u:Nat)(p0:aJ):Option (c9×aJ) :=
  fw u u 1 (([-1]:List Int)) p0.fB p0.fI p0.fH
def di(u:Nat)(p0:aJ)(p1:List Int):Option (Int×aJ) :=
  (aW u p0 ((p1.length:Int))).bind λr1=>(dm p1 r1.1).bind λy2=>some ((y2,r1.2))
def sK(u:Nat)(x18 x19:List Int)(x20 x21:Int):Option ((List Int)×aJ) :=
  some ((x18,(aJ.mk x19 x20 x21)))
def fy(u kH:Nat)(x7:List Int)(x8:Int)(x9:List Int)(x10 x11:Int):Option ((List Int)×aJ):=match kH with
  | 0=>none
  | kH+1=>bif decide (x8 > 0) then ((di u ((aJ.mk x9 x10 x11)) (([97,98,99,0,255]:List Int))).bind λr17=>(cd (decide ((x7.length+(([Ir .u8 r17.1]:List Int)).length)*1<=140737488355328))).bind λ_=>(fy u kH) (x7++(([Ir .u8 r17.1]:List Int))) (cG .i64 x8 1) r17.2.fB r17.2.fI r17.2.fH) else (sK u x7 x9 x10 x11)
def fL(u:Nat)(p0:aJ)(p1:Int):Option ((List Int)×aJ) :=
  (aW u p0 (aL .i64 p1 1)).bind λr1=>fy u u (([]:List Int)) r1.1 r1.2.fB r1.2.fI r1.2.fH
def mI(u:Nat)(p0:aJ):Option ((List Int)×aJ) :=
  (fL u p0 16).bind λr1=>some ((r1.1,r1.2))
def cq(u:Nat)(x15 x16:List Int)(x17 x18:Int):Option ((List Int)×aJ) :=
  some ((x15,(aJ.mk x16 x17 x18)))
def n7(u:Nat)(p0:aJ)(p1:List Int):Option ((List Int)×aJ) :=
  (cd (decide (((([]:List Int)).length+p1.length)*1<=140737488355328))).bind λ_=>(aW u p0 6).bind λr2=>bif r2.1 == 0 then (bif decide (((((([]:List Int))++p1).length:Int)) > 0) then ((aW u r2.2 ((((([]:List Int))++p1).length:Int))).bind λr3=>(aW u r3.2 256).bind λr4=>(dm ((([]:List Int))++p1) r3.1).bind λy5=>cq u (((([]:List Int))++p1).set (sY r3.1) (Ir .u8 r4.1)) r4.2.fB r4.2.fI r4.2.fH) else (cq u ((([]:List Int))++p1) r2.2.fB r2.2.fI r2.2.fH)) else (bif r2.1 == 1 then ((aW u r2.2 (aL .i64 ((((([]:List Int))++p1).length:Int)) 1)).bind λr6=>(cd (cS 0 r6.1 ((([]:List Int))++p1).length)).bind λ_=>cq u ((((([]:List Int))++p1).take (sY r6.1)).drop (sY 0)) r6.2.fB r6.2.fI r6.2.fH) else (bif r2.1 == 2 then ((di u r2.2 (([0,1,128,255]:List Int))).bind λr8=>(cd (decide ((((([]:List Int))++p1).length+(([Ir .u8 r8.1]:List Int)).length)*1<=140737488355328))).bind λ_=>cq u (((([]:List Int))++p1)++(([Ir .u8 r8.1]:List Int))) r8.2.fB r8.2.fI r8.2.fH) else (bif r2.1 == 3 then (bif decide (((((([]:List Int))++p1).length:Int)) > 0) then ((aW u r2.2 ((((([]:List Int))++p1).length:Int))).bind λr10=>(dm ((([]:List Int))++p1) r10.1).bind λy11=>(aW u r10.2 8).bind λr12=>(cd (decide (0<=r12.1))).bind λ_=>(dm ((([]:List Int))++p1) r10.1).bind λy14=>cq u (((([]:List Int))++p1).set (sY r10.1) (QT .u8 y11 (il .u8 1 r12.1))) r12.2.fB r12.2.fI r12.2.fH) else (cq u ((([]:List Int))++p1) r2.2.fB r2.2.fI r2.2.fH)) else (cq u ((([]:List Int))++p1) r2.2.fB r2.2.fI r2.2.fH))))
def tv(u:Nat)(p0:aJ)(p1:List Int):Option ((List Int)×aJ) :=
  (aW u p0 5).bind λr1=>bif r1.1 == 0 then ((fL u r1.2 16).bind λr2=>some ((r2.1,r2.2))) else (bif r1.1 == 1 then ((cd (decide (((([]:List Int)).length+p1.length)*1<=140737488355328))).bind λ_=>some (((([]:List Int))++p1,r1.2))) else (bif r1.1 == 2 then ((aW u r1.2 (aL .i64 ((p1.length:Int)) 1)).bind λr4=>(cd (cS r4.1 ((p1.length:Int)) p1.length)).bind λ_=>(cd (decide (((([120]:List Int)).length+((p1.take (sY ((p1.length:Int)))).drop (sY r4.1)).length)*1<=140737488355328))).bind λ_=>(cd (cS 0 r4.1 p1.length)).bind λ_=>(cd (decide ((((([120]:List Int))++((p1.take (sY ((p1.length:Int)))).drop (sY r4.1))).length+((p1.take (sY r4.1)).drop (sY 0)).length)*1<=140737488355328))).bind λ_=>some ((((([120]:List Int))++((p1.take (sY ((p1.length:Int)))).drop (sY r4.1)))++((p1.take (sY r4.1)).drop (sY 0)),r4.2))) else (bif r1.1 == 3 then (some ((([]:List Int),r1.2))) else ((fL u r1.2 3).bind λr9=>(n7 u r9.2 p1).bind λr10=>(cd (decide ((r9.1.length+r10.1.length)*1<=140737488355328))).bind λ_=>some ((r9.1++r10.1,r10.2))))))
def qB(u:Nat)(p0:aJ):Option (iW×aJ) :=
  (aW u p0 5).bind λr1=>(di u r1.2 (([1,2,3,8,40]:List Int))).bind λr2=>(aW u r2.2 3).bind λr3=>(aW u r3.2 3).bind λr4=>some (((iW.mk (aL .i64 2 r1.1) r2.1 (aL .i64 1 r3.1) (aL .i64 2 r4.1)),r4.2))
def bF(u:Nat)(p0 p1 p2:Int):Option Bool :=
  bif decide (p0>=p1) then (some (decide (p0<=p2))) else (some false)
def wy(u:Nat)(p0:iW):Option Bool :=
  (bF u p0.aB 2 6).bind λr1=>bif r1 then ((bF u p0.bc 1 40).bind λr2=>bif r2 then ((bF u p0.aU 1 5).bind λr3=>bif r3 then ((bF u p0.aY 2 8).bind λr4=>some r4) else (some false)) else (some false)) else (some false)
def yA(u:Nat)  : Option Bool :=
  some true
def jP(u lJ:Nat)(x5:Int)(p0:c9):Option Bool:=match lJ with
  | 0=>none
  | lJ+1=>bif decide (x5 < ((p0.cy.length:Int))) then ((dm p0.cy x5).bind λy7=>(bF u y7 0 (cG .i64 x5 1)).bind λr8=>bif !r8 then (some false) else ((jP u lJ) (aL .i64 x5 1) p0)) else (yA u)
def ua(u:Nat)(x3:Bool)(p0:c9):Option Bool :=
  bif x3 then (some false) else (jP u u 1 p0)
def pP(u:Nat)(p0:c9):Option Bool :=
  (bF u ((p0.cy.length:Int)) 1 7).bind λr1=>bif !r1 then (ua u true p0) else ((dm p0.cy 0).bind λy2=>ua u (y2 != (-1)) p0)
def AZ(u:Nat)(p0:c9)(s:Unit):Option Bool:=(yA u)
def vu(u:Nat)(p0:c9)(y7:Int)(i_:Nat)(s:Unit)(k_:Unit->Option Bool):Option Bool:=(bF u y7 0 (cG .i64 (i_:Int) 1)).bind λr8=>bif !r8 then (some false) else ((λz0 z1=>k_ ()) (aL .i64 (i_:Int) 1) p0)
theorem VU(u:Nat)(p0:c9)(s:Unit)(k:Nat)(hn:p0.cy.length<=9223372036854775807)(hk:p0.cy.length < k):jP u k 0 p0=Pu.bZ (AZ u p0) (vu u p0) p0.cy 0 s:=Pu.dz (λ(k:Nat) (s:Unit) (i:Int)=>jP u k i p0) hn (λ_ _ _=>rfl) s hk
def mJ(u:Nat)(p0 p1:Int):Option Bool :=
  (bF u p0 2 6).bind λr1=>bif r1 then ((bF u p1 0 (eO .i64 p0 40)).bind λr2=>some r2) else (some false)
def xm(u:Nat)(p0:List bp)(p1:Int):Option Bool :=
  some (((p0.length:Int)) == p1)
def mq(u kG:Nat)(p0:List bp)(p1 x2:Int):Option Bool:=match kG with
  | 0=>none
  | kG+1=>bif decide (x2 < ((p0.length:Int))) then ((dm p0 x2).bind λy4=>bif decide (((y4.fB.length:Int)) > 240) then (some false) else ((mq u kG) p0 p1 (aL .i64 x2 1))) else (xm u p0 p1)
def ub(u:Nat)(p0:List bp)(p1:Int):Option Bool :=
  mq u u p0 p1 0
def GH(u:Nat)(p0:List bp)(p1:Int)(s:Unit):Option Bool:=(xm u p0 p1)
def zK(u:Nat)(p0:List bp)(p1:Int)(y4:bp)(i_:Nat)(s:Unit)(k_:Unit->Option Bool):Option Bool:=bif decide (((y4.fB.length:Int)) > 240) then (some false) else ((λz0 z1 z2=>k_ ()) p0 p1 (aL .i64 (i_:Int) 1))
theorem GI(u:Nat)(p0:List bp)(p1:Int)(s:Unit)(k:Nat)(hn:p0.length<=9223372036854775807)(hk:p0.length < k):mq u k p0 p1 0=Pu.bZ (GH u p0 p1) (zK u p0 p1) p0 0 s:=Pu.dz (λ(k:Nat) (s:Unit) (i:Int)=>mq u k p0 p1 i) hn (λ_ _ _=>rfl) s hk
def pz(u:Nat)(x8:List bp):Option ((List bp)) :=
  some x8
def gk(u iV:Nat)(p0 x3:List bp)(x4:Int):Option ((List bp)):=match iV with
  | 0=>none
  | iV+1=>bif decide (x4 < ((p0.length:Int))) then ((dm p0 x4).bind λy7=>(cd (decide (((([]:List Int)).length+y7.fB.length)*1<=140737488355328))).bind λ_=>(cd (decide ((x3.length+([(bp.mk ((([]:List Int))++y7.fB))]).length)*24<=140737488355328))).bind λ_=>(gk u iV) p0 (x3++([(bp.mk ((([]:List Int))++y7.fB))])) (aL .i64 x4 1)) else (pz u x3)
def jQ(u:Nat)(p0:List bp):Option ((List bp)) :=
  gk u u p0 (([]:List bp)) 0
def EN(u:Nat)(p0:List bp)(s:(List bp)):Option ((List bp)):=(pz u s)
def xM(u:Nat)(p0:List bp)(y7:bp)(i_:Nat)(s:(List bp))(k_:((List bp))->Option ((List bp))):Option ((List bp)):=(cd (decide (((([]:List Int)).length+y7.fB.length)*1<=140737488355328))).bind λ_=>(cd (decide ((s.length+([(bp.mk ((([]:List Int))++y7.fB))]).length)*24<=140737488355328))).bind λ_=>(λz0 z1 z2=>k_ z1) p0 (s++([(bp.mk ((([]:List Int))++y7.fB))])) (aL .i64 (i_:Int) 1)
theorem EO(u:Nat)(p0:List bp)(s:(List bp))(k:Nat)(hn:p0.length<=9223372036854775807)(hk:p0.length < k):gk u k p0 s 0=Pu.bZ (EN u p0) (xM u p0) p0 0 s:=Pu.dz (λ(k:Nat) (s:(List bp)) (i:Int)=>gk u k p0 s i) hn (λ_ _ _=>rfl) s hk
def uc(u:Nat)(p0:Int):Option aG :=
  some ((aG.mk true p0 0 ((af.mk 0 0 0 ([]))) ((bH.mk 0 ([]))) 0 ([]) 0))
def qC(u:Nat)(p1:Int)(x3:Bool)(p0:c9):Option aG :=
  bif x3 then (some ((aG.mk false 0 0 ((af.mk 0 0 0 ([]))) ((bH.mk 0 ([]))) 0 ([]) 0))) else ((dm p0.cy p1).bind λy4=>(uc u y4).bind λr5=>some r5)
def mZ(u:Nat)(p0:c9)(p1:Int):Option aG :=
  (pP u p0).bind λr1=>bif !r1 then (qC u p1 true p0) else ((bF u p1 1 (cG .i64 ((p0.cy.length:Int)) 1)).bind λr2=>qC u p1 (!r2) p0)
def sL(u:Nat)(p0 p1:Int)(x3:Bool):Option Int :=
  bif x3 then (some 0) else ((cd (!(p1 == 0))).bind λ_=>some (Pc .i64 (cG .i64 (aL .i64 p0 p1) 1) p1))
def ud(u:Nat)(p0 p1:Int):Option Int :=
  (bF u p0 0 1000000000000).bind λr1=>bif !r1 then (sL u p0 p1 true) else ((bF u p1 1 1000000000000).bind λr2=>sL u p0 p1 (!r2))
def mK(u:Nat)(p0 p1:Int):Option Int :=
  (mJ u p0 p1).bind λr1=>bif !r1 then (some 0) else ((ud u p1 p0).bind λr2=>some r2)
def vw(u:Nat)(p0 p1:Int):Option Int :=
  bif decide (p1 < p0) then (some p1) else (some p0)
def fp(u:Nat)(p0 p1 p2:Int):Option (Int×Int) :=
  (mK u p0 p1).bind λr1=>(bF u p2 0 (cG .i64 r1 1)).bind λr2=>bif !r2 then (some ((0,0))) else ((vw u p0 (cG .i64 p1 (eO .i64 p2 p0))).bind λr3=>some ((eO .i64 p2 p0,r3)))
def kW(u:Nat)(p0:List Int)(p1 p2:Int):Option ((List Int)×Bool) :=
  (fp u p1 ((p0.length:Int)) p2).bind λr1=>bif r1.2 == 0 then (some ((([]:List Int),false))) else ((cd (cS r1.1 (aL .i64 r1.1 r1.2) p0.length)).bind λ_=>(cd (decide (((([]:List Int)).length+((p0.take (sY (aL .i64 r1.1 r1.2))).drop (sY r1.1)).length)*1<=140737488355328))).bind λ_=>some (((([]:List Int))++((p0.take (sY (aL .i64 r1.1 r1.2))).drop (sY r1.1)),true)))
def pQ(u:Nat)(x11 x12:Int):Option Int :=
  some (aL .i64 x11 (eO .i64 251 x12))
def ni(u lK:Nat)(p0:List Int)(x4 x5 x6:Int):Option Int:=match lK with
  | 0=>none
  | lK+1=>bif decide (x6 < ((p0.length:Int))) then ((dm p0 x6).bind λy10=>(ni u lK) p0 (ml .i64 (aL .i64 x4 (Ir .i64 y10)) 251) (ml .i64 (aL .i64 x5 (ml .i64 (aL .i64 x4 (Ir .i64 y10)) 251)) 251) (aL .i64 x6 1)) else (pQ u x4 x5)
def n8(u:Nat)(p0:List Int):Option Int :=
  ni u u p0 0 0 0
def A0(u:Nat)(p0:List Int)(s:Int×Int):Option Int:=(pQ u s.1 s.2)
def vz(u:Nat)(p0:List Int)(y10:Int)(i_:Nat)(s:Int×Int)(k_:(Int×Int)->Option Int):Option Int:=(λz0 z1 z2 z3=>k_ (z1,z2)) p0 (ml .i64 (aL .i64 s.1 (Ir .i64 y10)) 251) (ml .i64 (aL .i64 s.2 (ml .i64 (aL .i64 s.1 (Ir .i64 y10)) 251)) 251) (aL .i64 (i_:Int) 1)
theorem IA(u:Nat)(p0:List Int)(s:Int×Int)(k:Nat)(hn:p0.length<=9223372036854775807)(hk:p0.length < k):ni u k p0 s.1 s.2 0=Pu.bZ (A0 u p0) (vz u p0) p0 0 s:=Pu.dz (λ(k:Nat) (s:Int×Int) (i:Int)=>ni u k p0 s.1 s.2 i) hn (λ_ _ _=>rfl) s hk
def rE(u:Nat)(p0:List Int)(x8:Int):Option cC :=
  (n8 u p0).bind λr9=>some ((cC.mk r9 x8))
def pd(u mG:Nat)(p0:List Int)(x3 x4:Int):Option cC:=match mG with
  | 0=>none
  | mG+1=>bif decide (x4 < ((p0.length:Int))) then ((dm p0 x4).bind λy7=>(pd u mG) p0 (aL .i64 (eO .i64 256 x3) (Ir .i64 y7)) (aL .i64 x4 1)) else (rE u p0 x3)
def ic(u:Nat)(p0:List Int):Option cC :=
  bif decide (((p0.length:Int)) > 6) then (some ((cC.mk 0 0))) else (pd u u p0 1 0)
def CB(u:Nat)(p0:List Int)(s:Int):Option cC:=(rE u p0 s)
def xn(u:Nat)(p0:List Int)(y7:Int)(i_:Nat)(s:Int)(k_:Int->Option cC):Option cC:=(λz0 z1 z2=>k_ z1) p0 (aL .i64 (eO .i64 256 s) (Ir .i64 y7)) (aL .i64 (i_:Int) 1)
theorem KM(u:Nat)(p0:List Int)(s:Int)(k:Nat)(hn:p0.length<=9223372036854775807)(hk:p0.length < k):pd u k p0 s 0=Pu.bZ (CB u p0) (xn u p0) p0 0 s:=Pu.dz (λ(k:Nat) (s i:Int)=>pd u k p0 s i) hn (λ_ _ _=>rfl) s hk
def ue(u:Nat)(x10:List cC):Option ((List cC)) :=
  some x10
def jR(u ga:Nat)(p0:List Int)(p1:Int)(x3:List cC)(x4:Int):Option ((List cC)):=match ga with
  | 0=>none
  | ga+1=>(mK u p1 ((p0.length:Int))).bind λr7=>bif decide (x4 < r7) then ((kW u p0 p1 x4).bind λr8=>(ic u r8.1).bind λr9=>(cd (decide ((x3.length+([r9]).length)*16<=140737488355328))).bind λ_=>(jR u ga) p0 p1 (x3++([r9])) (aL .i64 x4 1)) else (ue u x3)
def n9(u:Nat)(p0:List Int)(p1:Int):Option ((List cC)) :=
  jR u u p0 p1 (([]:List cC)) 0
def wl(u:Nat)(p0:Int)(p1:List Int)(p2:Int)(x3:Bool):Option af :=
  bif x3 then (some ((af.mk 0 0 0 ([])))) else ((n9 u p1 p2).bind λr4=>some ((af.mk p0 p2 ((p1.length:Int)) r4)))
def vA(u:Nat)(p0:Int)(p1:List Int)(p2:Int):Option af :=
  (bF u p0 1 1000000).bind λr1=>bif !r1 then (wl u p0 p1 p2 true) else ((mJ u p2 ((p1.length:Int))).bind λr2=>wl u p0 p1 p2 (!r2))
def vB(u:Nat)(p0:World):Option af :=
  (vA u 1 p0.ct p0.fC.aB).bind λr1=>some r1
def xo(u:Nat)(x8:List Int):Option ((List Int)×Bool) :=
  some ((x8,true))
def ms(u kB:Nat)(x4:Int)(x5:List Int):Option ((List Int)×Bool):=match kB with
  | 0=>none
  | kB+1=>bif decide (x4 > 1) then (bif decide (x4 < 256) then (some ((([]:List Int),false))) else ((cd (decide (((([Ir .u8 (bJ .i64 x4 255)]:List Int)).length+x5.length)*1<=140737488355328))).bind λ_=>(ms u kB) (cU .i64 x4 8) ((([Ir .u8 (bJ .i64 x4 255)]:List Int))++x5))) else (xo u x5)
def oo(u:Nat)(p0:Int):Option ((List Int)×Bool) :=
  (bF u p0 1 562949953421311).bind λr1=>bif !r1 then (some ((([]:List Int),false))) else (ms u u p0 (([]:List Int)))
def AA(u:Nat)  : Option Bool :=
  some true
def k7(u:Nat)(L6:Int->af->Option Bool)(x6:Int)(x13:Bool)(p0:af):Option Bool :=
  bif x13 then (some false) else (L6 (aL .i64 x6 1) p0)
def jJ(u hJ:Nat)(x6:Int)(p0:af):Option Bool:=match hJ with
  | 0=>none
  | hJ+1=>bif decide (x6 < ((p0.aI.length:Int))) then ((dm p0.aI x6).bind λy8=>(oo u y8.fS).bind λr9=>(fp u p0.aB p0.aT x6).bind λr10=>bif !r9.2 then (k7 u (jJ u hJ) x6 true p0) else (bif ((r9.1.length:Int)) != r10.2 then (k7 u (jJ u hJ) x6 true p0) else ((ic u r9.1).bind λr11=>(dm p0.aI x6).bind λy12=>k7 u (jJ u hJ) x6 (!([r11.fW,r11.fS] == [y12.fW,y12.fS])) p0))) else (AA u)
def rF(u:Nat)(x4:Bool)(p0:af):Option Bool :=
  bif x4 then (some false) else (jJ u u 0 p0)
def iE(u:Nat)(p0:af):Option Bool :=
  bif p0.aH == 0 then (bif p0.aB == 0 then (bif p0.aT == 0 then (some (((p0.aI.length:Int)) == 0)) else (some false)) else (some false)) else ((bF u p0.aH 1 1000000).bind λr1=>bif !r1 then (rF u true p0) else ((mJ u p0.aB p0.aT).bind λr2=>bif !r2 then (rF u true p0) else ((mK u p0.aB p0.aT).bind λr3=>rF u (((p0.aI.length:Int)) != r3) p0)))
def CC(u:Nat)(p0:af)(s:Unit):Option Bool:=(AA u)
def xp(u:Nat)(p0:af)(y8:cC)(i_:Nat)(s:Unit)(k_:Unit->Option Bool):Option Bool:=(oo u y8.fS).bind λr9=>(fp u p0.aB p0.aT (i_:Int)).bind λr10=>bif !r9.2 then (k7 u (λz0 z1=>k_ ()) (i_:Int) true p0) else (bif ((r9.1.length:Int)) != r10.2 then (k7 u (λz0 z1=>k_ ()) (i_:Int) true p0) else ((ic u r9.1).bind λr11=>(dm p0.aI (i_:Int)).bind λy12=>k7 u (λz0 z1=>k_ ()) (i_:Int) (!([r11.fW,r11.fS] == [y12.fW,y12.fS])) p0))
theorem KN(u:Nat)(p0:af)(s:Unit)(k:Nat)(hn:p0.aI.length<=9223372036854775807)(hk:p0.aI.length < k):jJ u k 0 p0=Pu.bZ (CC u p0) (xp u p0) p0.aI 0 s:=Pu.dz (λ(k:Nat) (s:Unit) (i:Int)=>jJ u k i p0) hn (λ_ _ _=>rfl) s hk
def tw(u:Nat)  : Option Bool :=
  some true
def jg(u iA:Nat)(p0 p1:List cC)(x2:Int):Option Bool:=match iA with
  | 0=>none
  | iA+1=>bif decide (x2 < ((p0.length:Int))) then ((dm p0 x2).bind λy4=>(dm p1 x2).bind λy5=>bif !([y4.fW,y4.fS] == [y5.fW,y5.fS]) then (some false) else ((jg u iA) p0 p1 (aL .i64 x2 1))) else (tw u)
def mt(u:Nat)(p0 p1:List cC):Option Bool :=
  bif ((p0.length:Int)) != ((p1.length:Int)) then (some false) else (jg u u p0 p1 0)
def Dj(u:Nat)(p0 p1:List cC)(s:Unit):Option Bool:=(tw u)
def wz(u:Nat)(p0 p1:List cC)(y4:cC)(i_:Nat)(s:Unit)(k_:Unit->Option Bool):Option Bool:=(dm p1 (i_:Int)).bind λy5=>bif !([y4.fW,y4.fS] == [y5.fW,y5.fS]) then (some false) else ((λz0 z1 z2=>k_ ()) p0 p1 (aL .i64 (i_:Int) 1))
theorem Dk(u:Nat)(p0 p1:List cC)(s:Unit)(k:Nat)(hn:p0.length<=9223372036854775807)(hk:p0.length < k):jg u k p0 p1 0=Pu.bZ (Dj u p0 p1) (wz u p0 p1) p0 0 s:=Pu.dz (λ(k:Nat) (s:Unit) (i:Int)=>jg u k p0 p1 i) hn (λ_ _ _=>rfl) s hk
def vC(u:Nat)(p0:af)(p1:List Int):Option Bool :=
  bif ((p1.length:Int)) == p0.aT then ((n9 u p1 p0.aB).bind λr1=>(mt u r1 p0.aI).bind λr2=>some r2) else (some false)
def mL(u:Nat)(p0:af):Option af :=
  (cd (decide (((([]:List cC)).length+p0.aI.length)*16<=140737488355328))).bind λ_=>some ((af.mk p0.aH p0.aB p0.aT ((([]:List cC))++p0.aI)))
def rG(u:Nat)(p0:af):Option bH :=
  (iE u p0).bind λr1=>bif !r1 then (some ((bH.mk 0 ([])))) else ((cd (decide (0<=p0.aT) && (p0.aT == 0 || p0.aT == p0.aT))).bind λ_=>(cd (decide (sY p0.aT*1<=140737488355328))).bind λ_=>some ((bH.mk 0 (zQq (sY p0.aT) (0:Int)))))
def yq(u:Nat)(p0:Int):Option Bool :=
  (bF u p0 0 63000).bind λr1=>some r1
def oP(u:Nat)(p0:Int):Option (Int×Int) :=
  (yq u p0).bind λr1=>bif !r1 then (some ((0,0))) else (some ((ml .i64 p0 251,Pc .i64 p0 251)))
def vD(u:Nat)(p0 p1:Int):Option Int :=
  (bF u p1 1 1000000000000).bind λr1=>bif !r1 then (some 0) else ((cd (!(p1 == 0))).bind λ_=>(cd (!(p1 == 0))).bind λ_=>some (ml .i64 (aL .i64 (ml .i64 p0 p1) p1) p1))
def qD(u:Nat)(p0 p1:Int)(p2 p3:Int)(x5:Bool):Option Int :=
  bif x5 then (some p0) else ((oP u p0).bind λr6=>(vD u (cG .i64 r6.2 (eO .i64 (ml .i64 p1 251) p2)) 251).bind λr7=>(vD u (aL .i64 (cG .i64 r6.1 p2) p3) 251).bind λr8=>(vD u (aL .i64 r7 r8) 251).bind λr9=>some (aL .i64 r8 (eO .i64 251 r9)))
def yr(u:Nat)(p0 p1:Int)(p2 p3:Int):Option Int :=
  (yq u p0).bind λr1=>bif !r1 then (qD u p0 p1 p2 p3 true) else ((bF u p1 1 1000000000000).bind λr2=>bif !r2 then (qD u p0 p1 p2 p3 true) else ((bF u p2 0 255).bind λr3=>bif !r3 then (qD u p0 p1 p2 p3 true) else ((bF u p3 0 255).bind λr4=>qD u p0 p1 p2 p3 (!r4))))
def sM(u:Nat)(x17:List Int):Option ((List Int)) :=
  some x17
def gR(u kC:Nat)(p0:List Int)(p1:Int)(x8:List Int)(x9 x10:Int):Option ((List Int)):=match kC with
  | 0=>none
  | kC+1=>bif decide (x10 < ((p0.length:Int))) then ((dm p0 (cG .i64 x10 p1)).bind λy14=>(dm p0 x10).bind λy15=>(yr u x9 p1 (Ir .i64 y14) (Ir .i64 y15)).bind λr16=>(cd (decide ((x8.length+(([r16]:List Int)).length)*8<=140737488355328))).bind λ_=>(gR u kC) p0 p1 (x8++(([r16]:List Int))) r16 (aL .i64 x10 1)) else (sM u x8)
def sN(u:Nat)(p0:List Int)(p1:Int)(x1:Bool):Option ((List Int)) :=
  bif x1 then (some (([]:List Int))) else ((cd (cS 0 p1 p0.length)).bind λ_=>(n8 u ((p0.take (sY p1)).drop (sY 0))).bind λr3=>(cd (decide (((([]:List Int)).length+(([r3]:List Int)).length)*8<=140737488355328))).bind λ_=>gR u u p0 p1 ((([]:List Int))++(([r3]:List Int))) r3 p1)
def uf(u:Nat)(p0:List Int)(p1:Int):Option ((List Int)) :=
  bif decide (p1 < 1) then (sN u p0 p1 true) else (sN u p0 p1 (decide (p1 > ((p0.length:Int)))))
def GJ(u:Nat)(p0:List Int)(p1:Int)(s:(List Int)×Int):Option ((List Int)):=(sM u s.1)
def GK(u:Nat)(p0:List Int)(p1:Int)(i_:Nat)(s:(List Int)×Int)(k_:((List Int)×Int)->Option ((List Int))):Option ((List Int)):=(dm p0 (cG .i64 (i_:Int) p1)).bind λy14=>(dm p0 (i_:Int)).bind λy15=>(yr u s.2 p1 (Ir .i64 y14) (Ir .i64 y15)).bind λr16=>(cd (decide ((s.1.length+(([r16]:List Int)).length)*8<=140737488355328))).bind λ_=>(λz0 z1 z2 z3 z4=>k_ (z2,z3)) p0 p1 (s.1++(([r16]:List Int))) r16 (aL .i64 (i_:Int) 1)
theorem Vh(u:Nat)(p0:List Int)(p1:Int)(s:(List Int)×Int)(k:Nat)(hn:(((p0.length:Int)):Int)<=9223372036854775807)(hk:sY (((p0.length:Int))) < k):gR u k p0 p1 s.1 s.2 0=Pu.gX (GJ u p0 p1) (GK u p0 p1) (sY (((p0.length:Int)))) 0 s:=Pu.kZ (λ(k:Nat) (s:(List Int)×Int) (i:Int)=>gR u k p0 p1 s.1 s.2 i) hn (λ_ _ _=>rfl) s hk
def sO(u:Nat)  : Option Int :=
  some (-1)
def mu(u:Nat)(Is:(List Int)->Int->((List Int))->Int->cC->Option Int)(p0:List Int)(p2:Int)(r2:(List Int))(x4:Int)(x9:Bool)(p1:cC):Option Int :=
  bif x9 then (some x4) else (Is p0 p2 r2 (aL .i64 x4 1) p1)
def eJ(u gA:Nat)(p0:List Int)(p2:Int)(r2:(List Int))(x4:Int)(p1:cC):Option Int:=match gA with
  | 0=>none
  | gA+1=>bif decide (x4 < ((r2.length:Int))) then ((dm r2 x4).bind λy6=>bif y6 == p1.fW then ((cd (cS x4 (aL .i64 x4 p2) p0.length)).bind λ_=>(ic u ((p0.take (sY (aL .i64 x4 p2))).drop (sY x4))).bind λr8=>mu u (eJ u gA) p0 p2 r2 x4 ([r8.fW,r8.fS] == [p1.fW,p1.fS]) p1) else (mu u (eJ u gA) p0 p2 r2 x4 false p1)) else (sO u)
def ug(u:Nat)(p0:List Int)(p1:cC)(p2:Int):Option Int :=
  (bF u p2 1 6).bind λr1=>bif !r1 then (some (-1)) else ((uf u p0 p2).bind λr2=>eJ u u p0 p2 r2 0 p1)
def GL(u:Nat)(p0:List Int)(p2:Int)(r2:(List Int))(p1:cC)(s:Unit):Option Int:=(sO u)
def GM(u:Nat)(p0:List Int)(p2:Int)(r2:(List Int))(p1:cC)(y6:Int)(i_:Nat)(s:Unit)(k_:Unit->Option Int):Option Int:=bif y6 == p1.fW then ((cd (cS (i_:Int) (aL .i64 (i_:Int) p2) p0.length)).bind λ_=>(ic u ((p0.take (sY (aL .i64 (i_:Int) p2))).drop (sY (i_:Int)))).bind λr8=>mu u (λz0 z1 z2 z3 z4=>k_ ()) p0 p2 r2 (i_:Int) ([r8.fW,r8.fS] == [p1.fW,p1.fS]) p1) else (mu u (λz0 z1 z2 z3 z4=>k_ ()) p0 p2 r2 (i_:Int) false p1)
theorem Vi(u:Nat)(p0:List Int)(p2:Int)(r2:(List Int))(p1:cC)(s:Unit)(k:Nat)(hn:r2.length<=9223372036854775807)(hk:r2.length < k):eJ u k p0 p2 r2 0 p1=Pu.bZ (GL u p0 p2 r2 p1) (GM u p0 p2 r2 p1) r2 0 s:=Pu.dz (λ(k:Nat) (s:Unit) (i:Int)=>eJ u k p0 p2 r2 i p1) hn (λ_ _ _=>rfl) s hk
def sP(u:Nat)(p0:List Int)(p2:Int)(r1:Int×Int)(x2:Bool)(p1:af):Option Int :=
  bif x2 then (some (-1)) else ((dm p1.aI p2).bind λy3=>(ug u p0 y3 r1.2).bind λr4=>some r4)
def qE(u:Nat)(p0:List Int)(p1:af)(p2:Int):Option Int :=
  (fp u p1.aB p1.aT p2).bind λr1=>bif r1.2 == 0 then (sP u p0 p2 r1 true p1) else (sP u p0 p2 r1 (decide (p2>=((p1.aI.length:Int)))) p1)
def ek(u:Nat)(p0:Int):Option Bool :=
  (bF u p0 0 1099511627775).bind λr1=>some r1
def dT(u:Nat)(p0 p1:Int):Option Bool :=
  (ek u p0).bind λr1=>bif r1 then ((bF u p1 0 39).bind λr2=>bif r2 then ((cd (decide (0<=p1))).bind λ_=>some ((bJ .i64 (cU .i64 p0 p1) 1) == 1)) else (some false)) else (some false)
def nj(u:Nat)(p0 p1:Int)(x3:Bool):Option Int :=
  bif x3 then (some p0) else ((cd (decide (0<=p1))).bind λ_=>some (tZ .i64 p0 (il .i64 1 p1)))
def iB(u:Nat)(p0 p1:Int):Option Int :=
  (ek u p0).bind λr1=>bif !r1 then (nj u p0 p1 true) else ((bF u p1 0 39).bind λr2=>nj u p0 p1 (!r2))
def wm(u:Nat)(p2:Int)(p1:bH)(x15:List Int):Option (Bool×bH) :=
  (iB u p1.bl p2).bind λr16=>some ((true,(bH.mk r16 x15)))
def pf(u mH:Nat)(p2:Int)(p3:List Int)(r6:Int×Int)(x9:Int)(p1:bH)(x10:List Int):Option (Bool×bH):=match mH with
  | 0=>none
  | mH+1=>bif decide (x9 < ((p3.length:Int))) then ((dm p3 x9).bind λy13=>(dm x10 (aL .i64 r6.1 x9)).bind λy14=>(pf u mH) p2 p3 r6 (aL .i64 x9 1) p1 (x10.set (sY (aL .i64 r6.1 x9)) y13)) else (wm u p2 p1 x10)
def pg(u:Nat)(p2:Int)(p3:List Int)(x5:Bool)(p0:af)(p1:bH):Option (Bool×bH) :=
  bif x5 then (some ((false,p1))) else ((fp u p0.aB p0.aT p2).bind λr6=>pf u u p2 p3 r6 0 p1 p1.cj)
def tx(u:Nat)(p0:af)(p1:bH)(p2:Int)(p3:List Int):Option (Bool×bH) :=
  (bF u p2 0 (cG .i64 ((p0.aI.length:Int)) 1)).bind λr1=>bif !r1 then (pg u p2 p3 true p0 p1) else ((dT u p1.bl p2).bind λr2=>bif r2 then (pg u p2 p3 true p0 p1) else ((ic u p3).bind λr3=>(dm p0.aI p2).bind λy4=>bif !([r3.fW,r3.fS] == [y4.fW,y4.fS]) then (pg u p2 p3 true p0 p1) else (pg u p2 p3 (decide (((p3.length:Int)) > 6)) p0 p1)))
def xq(u:Nat)(p2:Int)(p3:List Int)(r6:Int×Int)(p1:bH)(s:(List Int)):Option (Bool×bH):=(wm u p2 p1 s)
def xr(u:Nat)(p2:Int)(p3:List Int)(r6:Int×Int)(p1:bH)(y13:Int)(i_:Nat)(s:(List Int))(k_:((List Int))->Option (Bool×bH)):Option (Bool×bH):=(dm s (aL .i64 r6.1 (i_:Int))).bind λy14=>(λz0 z1 z2 z3 z4 z5=>k_ z5) p2 p3 r6 (aL .i64 (i_:Int) 1) p1 (s.set (sY (aL .i64 r6.1 (i_:Int))) y13)
theorem KO(u:Nat)(p2:Int)(p3:List Int)(r6:Int×Int)(p1:bH)(s:(List Int))(k:Nat)(hn:p3.length<=9223372036854775807)(hk:p3.length < k):pf u k p2 p3 r6 0 p1 s=Pu.bZ (xq u p2 p3 r6 p1) (xr u p2 p3 r6 p1) p3 0 s:=Pu.dz (λ(k:Nat) (s:(List Int)) (i:Int)=>pf u k p2 p3 r6 i p1 s) hn (λ_ _ _=>rfl) s hk
def uh(u:Nat)(x18:Int)(x19:List Int):Option bH :=
  some ((bH.mk x18 x19))
def ko(u:Nat)(E5:(List Int)->Int->af->Int->(List Int)->Option bH)(p1:List Int)(x6:Int)(p0:af)(x16:Int)(x17:List Int):Option bH :=
  E5 p1 (aL .i64 x6 1) p0 x16 x17
def gl(u eT:Nat)(p1:List Int)(x6:Int)(p0:af)(x7:Int)(x8:List Int):Option bH:=match eT with
  | 0=>none
  | eT+1=>bif decide (x6 < ((p0.aI.length:Int))) then ((qE u p1 p0 x6).bind λr12=>(fp u p0.aB p0.aT x6).bind λr13=>bif decide (r12>=0) then ((cd (cS r12 (aL .i64 r12 r13.2) p1.length)).bind λ_=>(tx u p0 ((bH.mk x7 x8)) x6 ((p1.take (sY (aL .i64 r12 r13.2))).drop (sY r12))).bind λr15=>ko u (gl u eT) p1 x6 p0 r15.2.bl r15.2.cj) else (ko u (gl u eT) p1 x6 p0 x7 x8)) else (uh u x7 x8)
def nm(u:Nat)(p0:af)(p1:List Int):Option bH :=
  (rG u p0).bind λr1=>(iE u p0).bind λr2=>bif !r2 then (some r1) else (gl u u p1 0 p0 r1.bl r1.cj)
def xN(u:Nat)(p1:List Int)(p0:af)(s:Int×(List Int)):Option bH:=(uh u s.1 s.2)
def rp(u:Nat)(p1:List Int)(p0:af)(i_:Nat)(s:Int×(List Int))(k_:(Int×(List Int))->Option bH):Option bH:=(qE u p1 p0 (i_:Int)).bind λr12=>(fp u p0.aB p0.aT (i_:Int)).bind λr13=>bif decide (r12>=0) then ((cd (cS r12 (aL .i64 r12 r13.2) p1.length)).bind λ_=>(tx u p0 ((bH.mk s.1 s.2)) (i_:Int) ((p1.take (sY (aL .i64 r12 r13.2))).drop (sY r12))).bind λr15=>ko u (λz0 z1 z2 z3 z4=>k_ (z3,z4)) p1 (i_:Int) p0 r15.2.bl r15.2.cj) else (ko u (λz0 z1 z2 z3 z4=>k_ (z3,z4)) p1 (i_:Int) p0 s.1 s.2)
theorem EP(u:Nat)(p1:List Int)(p0:af)(s:Int×(List Int))(k:Nat)(hn:(((p0.aI.length:Int)):Int)<=9223372036854775807)(hk:sY (((p0.aI.length:Int))) < k):gl u k p1 0 p0 s.1 s.2=Pu.gX (xN u p1 p0) (rp u p1 p0) (sY (((p0.aI.length:Int)))) 0 s:=Pu.kZ (λ(k:Nat) (s:Int×(List Int)) (i:Int)=>gl u k p1 i p0 s.1 s.2) hn (λ_ _ _=>rfl) s hk
def np(u:Nat)(p1:List Int)(x3:Bool)(p0:af):Option aG :=
  bif x3 then (some ((aG.mk false 0 0 ((af.mk 0 0 0 ([]))) ((bH.mk 0 ([]))) 0 ([]) 0))) else ((mL u p0).bind λr4=>(nm u p0 p1).bind λr5=>some ((aG.mk true (-1) 0 r4 r5 6 ([]) 0)))
def pi(u:Nat)(p0:af)(p1:List Int):Option aG :=
  bif p0.aH == 0 then (np u p1 true p0) else ((iE u p0).bind λr1=>bif !r1 then (np u p1 true p0) else ((vC u p0 p1).bind λr2=>np u p1 (!r2) p0))
def oQ(u:Nat)(p0:Int)(p1:List Int)(x2:Bool):Option aC :=
  bif x2 then (some ((aC.mk ([]) ([]) ((dq.mk 0 0 0)) ([])))) else ((cd (decide (((([]:List Int)).length+p1.length)*1<=140737488355328))).bind λ_=>some ((aC.mk ((([]:List Int))++p1) ([]) ((dq.mk p0 0 ((p1.length:Int)))) ([]))))
def mM(u:Nat)(p0:Int)(p1:List Int):Option aC :=
  (bF u p0 0 1000000).bind λr1=>bif !r1 then (oQ u p0 p1 true) else (oQ u p0 p1 (decide (((p1.length:Int)) > 240)))
def qF(u:Nat)(p0:iW)(p1:c9)(p2:List Int)(r8:(List bp))(x36:List aG)(x37:List aC):Option World :=
  some ((World.mk p0 ((c9.mk ((([]:List Int))++p1.cy))) ((([]:List Int))++p2) r8 x36 x37 ([]) ([]) 0))
def jh(u:Nat)(GE:(List Int)->(List bp)->Int->iW->c9->((List bp))->(List aG)->(List aC)->Option World)(p2:List Int)(p3:List bp)(x12:Int)(p0:iW)(p1:c9)(r8:(List bp))(x13:List aG)(x14:List aC)(x21:Bool)(x22 x23:Int)(x24 x25 x26:Int)(x27:List cC)(x28:Int)(x29:List Int)(x30:Int)(x31:List bS)(x32:Int):Option World :=
  (cd (decide ((x13.length+([(aG.mk x21 x22 x23 ((af.mk x24 x25 x26 x27)) ((bH.mk x28 x29)) x30 x31 x32)]).length)*144<=140737488355328))).bind λ_=>(dm p3 x12).bind λy34=>(mM u 0 y34.fB).bind λr35=>(cd (decide ((x14.length+([r35]).length)*96<=140737488355328))).bind λ_=>GE p2 p3 (aL .i64 x12 1) p0 p1 r8 (x13++([(aG.mk x21 x22 x23 ((af.mk x24 x25 x26 x27)) ((bH.mk x28 x29)) x30 x31 x32)])) (x14++([r35]))
def dE(u fv:Nat)(p2:List Int)(p3:List bp)(x12:Int)(p0:iW)(p1:c9)(r8:(List bp))(x13:List aG)(x14:List aC):Option World:=match fv with
  | 0=>none
  | fv+1=>bif decide (x12 < ((p1.cy.length:Int))) then ((mZ u p1 x12).bind λr18=>bif x12 == 0 then ((vB u ((World.mk p0 ((c9.mk ((([]:List Int))++p1.cy))) ((([]:List Int))++p2) r8 x13 x14 ([]) ([]) 0))).bind λr19=>(pi u r19 p2).bind λr20=>jh u (dE u fv) p2 p3 x12 p0 p1 r8 x13 x14 r20.ia r20.bD r20.bI r20.ay.aH r20.ay.aB r20.ay.aT r20.ay.aI r20.bw.bl r20.bw.cj r20.bh r20.aZ r20.bg) else (jh u (dE u fv) p2 p3 x12 p0 p1 r8 x13 x14 r18.ia r18.bD r18.bI r18.ay.aH r18.ay.aB r18.ay.aT r18.ay.aI r18.bw.bl r18.bw.cj r18.bh r18.aZ r18.bg)) else (qF u p0 p1 p2 r8 x13 x14)
def lu(u:Nat)(p2:List Int)(p3:List bp)(x5:Bool)(p0:iW)(p1:c9):Option World :=
  bif x5 then (some ((World.mk ((iW.mk 0 0 0 0)) ((c9.mk ([]))) ([]) ([]) ([]) ([]) ([]) ([]) 0))) else ((cd (decide (((([]:List Int)).length+p1.cy.length)*8<=140737488355328))).bind λ_=>(cd (decide (((([]:List Int)).length+p2.length)*1<=140737488355328))).bind λ_=>(jQ u p3).bind λr8=>dE u u p2 p3 0 p0 p1 r8 ([]) ([]))
def rH(u:Nat)(p0:iW)(p1:c9)(p2:List Int)(p3:List bp):Option World :=
  (wy u p0).bind λr1=>bif !r1 then (lu u p2 p3 true p0 p1) else ((pP u p1).bind λr2=>bif !r2 then (lu u p2 p3 true p0 p1) else ((mJ u p0.aB ((p2.length:Int))).bind λr3=>bif !r3 then (lu u p2 p3 true p0 p1) else ((ub u p3 ((p1.cy.length:Int))).bind λr4=>lu u p2 p3 (!r4) p0 p1)))
def FE(u:Nat)(p2:List Int)(p3:List bp)(p0:iW)(p1:c9)(r8:(List bp))(s:(List aG)×(List aC)):Option World:=(qF u p0 p1 p2 r8 s.1 s.2)
def FF(u:Nat)(p2:List Int)(p3:List bp)(p0:iW)(p1:c9)(r8:(List bp))(i_:Nat)(s:(List aG)×(List aC))(k_:((List aG)×(List aC))->Option World):Option World:=(mZ u p1 (i_:Int)).bind λr18=>bif (i_:Int) == 0 then ((vB u ((World.mk p0 ((c9.mk ((([]:List Int))++p1.cy))) ((([]:List Int))++p2) r8 s.1 s.2 ([]) ([]) 0))).bind λr19=>(pi u r19 p2).bind λr20=>jh u (λz0 z1 z2 z3 z4 z5 z6 z7=>k_ (z6,z7)) p2 p3 (i_:Int) p0 p1 r8 s.1 s.2 r20.ia r20.bD r20.bI r20.ay.aH r20.ay.aB r20.ay.aT r20.ay.aI r20.bw.bl r20.bw.cj r20.bh r20.aZ r20.bg) else (jh u (λz0 z1 z2 z3 z4 z5 z6 z7=>k_ (z6,z7)) p2 p3 (i_:Int) p0 p1 r8 s.1 s.2 r18.ia r18.bD r18.bI r18.ay.aH r18.ay.aB r18.ay.aT r18.ay.aI r18.bw.bl r18.bw.cj r18.bh r18.aZ r18.bg)
theorem T1(u:Nat)(p2:List Int)(p3:List bp)(p0:iW)(p1:c9)(r8:(List bp))(s:(List aG)×(List aC))(k:Nat)(hn:(((p1.cy.length:Int)):Int)<=9223372036854775807)(hk:sY (((p1.cy.length:Int))) < k):dE u k p2 p3 0 p0 p1 r8 s.1 s.2=Pu.gX (FE u p2 p3 p0 p1 r8) (FF u p2 p3 p0 p1 r8) (sY (((p1.cy.length:Int)))) 0 s:=Pu.kZ (λ(k:Nat) (s:(List aG)×(List aC)) (i:Int)=>dE u k p2 p3 i p0 p1 r8 s.1 s.2) hn (λ_ _ _=>rfl) s hk
def ui(u:Nat)(r2:(List Int)×aJ)(x19:List bp)(r1:c9×aJ)(x20:List Int)(x21 x22:Int):Option (World×aJ) :=
  (qB u ((aJ.mk x20 x21 x22))).bind λr23=>(rH u r23.1 r1.1 r2.1 x19).bind λr24=>some ((r24,r23.2))
def iF(u lM:Nat)(r2:(List Int)×aJ)(x8:List bp)(x9:Int)(r1:c9×aJ)(x10:List Int)(x11 x12:Int):Option (World×aJ):=match lM with
  | 0=>none
  | lM+1=>bif decide (x9 < ((r1.1.cy.length:Int))) then ((tv u ((aJ.mk x10 x11 x12)) r2.1).bind λr18=>(cd (decide ((x8.length+([(bp.mk r18.1)]).length)*24<=140737488355328))).bind λ_=>(iF u lM) r2 (x8++([(bp.mk r18.1)])) (aL .i64 x9 1) r1 r18.2.fB r18.2.fI r18.2.fH) else (ui u r2 x8 r1 x10 x11 x12)
def wA(u:Nat)(p0:aJ):Option (World×aJ) :=
  (qA u p0).bind λr1=>(mI u r1.2).bind λr2=>iF u u r2 (([]:List bp)) 0 r1 r2.2.fB r2.2.fI r2.2.fH
def IB(u:Nat)(r2:(List Int)×aJ)(r1:c9×aJ)(s:(List bp)×(List Int)×Int×Int):Option (World×aJ):=(ui u r2 s.1 r1 s.2.1 s.2.2.1 s.2.2.2)
def IC(u:Nat)(r2:(List Int)×aJ)(r1:c9×aJ)(i_:Nat)(s:(List bp)×(List Int)×Int×Int)(k_:((List bp)×(List Int)×Int×Int)->Option (World×aJ)):Option (World×aJ):=(tv u ((aJ.mk s.2.1 s.2.2.1 s.2.2.2)) r2.1).bind λr18=>(cd (decide ((s.1.length+([(bp.mk r18.1)]).length)*24<=140737488355328))).bind λ_=>(λz0 z1 z2 z3 z4 z5 z6=>k_ (z1,z4,z5,z6)) r2 (s.1++([(bp.mk r18.1)])) (aL .i64 (i_:Int) 1) r1 r18.2.fB r18.2.fI r18.2.fH
theorem VW(u:Nat)(r2:(List Int)×aJ)(r1:c9×aJ)(s:(List bp)×(List Int)×Int×Int)(k:Nat)(hn:(((r1.1.cy.length:Int)):Int)<=9223372036854775807)(hk:sY (((r1.1.cy.length:Int))) < k):iF u k r2 s.1 0 r1 s.2.1 s.2.2.1 s.2.2.2=Pu.gX (IB u r2 r1) (IC u r2 r1) (sY (((r1.1.cy.length:Int)))) 0 s:=Pu.kZ (λ(k:Nat) (s:(List bp)×(List Int)×Int×Int) (i:Int)=>iF u k r2 s.1 i r1 s.2.1 s.2.2.1 s.2.2.2) hn (λ_ _ _=>rfl) s hk
def oa(u:Nat)(p0:bH):Option bH :=
  (cd (decide (((([]:List Int)).length+p0.cj.length)*1<=140737488355328))).bind λ_=>some ((bH.mk p0.bl ((([]:List Int))++p0.cj)))
def dC(u:Nat)(p0:aG):Option aG :=
  (mL u p0.ay).bind λr1=>(oa u p0.bw).bind λr2=>(cd (decide (((([]:List bS)).length+p0.aZ.length)*40<=140737488355328))).bind λ_=>some ((aG.mk p0.ia p0.bD p0.bI r1 r2 p0.bh ((([]:List bS))++p0.aZ) p0.bg))
def gH(u:Nat)(p0:dv):Option dv :=
  (cd (decide (((([]:List Int)).length+p0.fB.length)*1<=140737488355328))).bind λ_=>some ((dv.mk p0.mi p0.Di ((([]:List Int))++p0.fB) p0.fR))
def uj(u:Nat)(p0:aC)(x11:List dv):Option aC :=
  some ((aC.mk ((([]:List Int))++p0.fA) ((([]:List Int))++p0.fB) p0.fR x11))
def jS(u gc:Nat)(x5:Int)(p0:aC)(x6:List dv):Option aC:=match gc with
  | 0=>none
  | gc+1=>bif decide (x5 < ((p0.fP.length:Int))) then ((dm p0.fP x5).bind λy9=>(gH u y9).bind λr10=>(cd (decide ((x6.length+([r10]).length)*64<=140737488355328))).bind λ_=>(jS u gc) (aL .i64 x5 1) p0 (x6++([r10]))) else (uj u p0 x6)
def d9(u:Nat)(p0:aC):Option aC :=
  (cd (decide (((([]:List Int)).length+p0.fA.length)*1<=140737488355328))).bind λ_=>(cd (decide (((([]:List Int)).length+p0.fB.length)*1<=140737488355328))).bind λ_=>jS u u 0 p0 (([]:List dv))
def ID(u:Nat)(p0:aC)(s:(List dv)):Option aC:=(uj u p0 s)
def A2(u:Nat)(p0:aC)(y9:dv)(i_:Nat)(s:(List dv))(k_:((List dv))->Option aC):Option aC:=(gH u y9).bind λr10=>(cd (decide ((s.length+([r10]).length)*64<=140737488355328))).bind λ_=>(λz0 z1 z2=>k_ z2) (aL .i64 (i_:Int) 1) p0 (s++([r10]))
theorem IE(u:Nat)(p0:aC)(s:(List dv))(k:Nat)(hn:p0.fP.length<=9223372036854775807)(hk:p0.fP.length < k):jS u k 0 p0 s=Pu.bZ (ID u p0) (A2 u p0) p0.fP 0 s:=Pu.dz (λ(k:Nat) (s:(List dv)) (i:Int)=>jS u k i p0 s) hn (λ_ _ _=>rfl) s hk
def oq(u:Nat)(x10:List ak):Option ((List ak)) :=
  some x10
def fM(u eS:Nat)(p0 x3:List ak)(x4:Int):Option ((List ak)):=match eS with
  | 0=>none
  | eS+1=>bif decide (x4 < ((p0.length:Int))) then ((dm p0 x4).bind λy7=>(dm p0 x4).bind λy8=>(dm p0 x4).bind λy9=>(cd (decide (((([]:List Int)).length+y9.fB.length)*1<=140737488355328))).bind λ_=>(cd (decide ((x3.length+([(ak.mk y7.cQ y8.rB ((([]:List Int))++y9.fB))]).length)*40<=140737488355328))).bind λ_=>(fM u eS) p0 (x3++([(ak.mk y7.cQ y8.rB ((([]:List Int))++y9.fB))])) (aL .i64 x4 1)) else (oq u x3)
def kT(u:Nat)(p0:List ak):Option ((List ak)) :=
  fM u u p0 (([]:List ak)) 0
def AB(u:Nat)(p0:List ak)(s:(List ak)):Option ((List ak)):=(oq u s)
def rI(u:Nat)(p0:List ak)(y7:ak)(i_:Nat)(s:(List ak))(k_:((List ak))->Option ((List ak))):Option ((List ak)):=(dm p0 (i_:Int)).bind λy8=>(dm p0 (i_:Int)).bind λy9=>(cd (decide (((([]:List Int)).length+y9.fB.length)*1<=140737488355328))).bind λ_=>(cd (decide ((s.length+([(ak.mk y7.cQ y8.rB ((([]:List Int))++y9.fB))]).length)*40<=140737488355328))).bind λ_=>(λz0 z1 z2=>k_ z1) p0 (s++([(ak.mk y7.cQ y8.rB ((([]:List Int))++y9.fB))])) (aL .i64 (i_:Int) 1)
theorem AC(u:Nat)(p0:List ak)(s:(List ak))(k:Nat)(hn:p0.length<=9223372036854775807)(hk:p0.length < k):fM u k p0 s 0=Pu.bZ (AB u p0) (rI u p0) p0 0 s:=Pu.dz (λ(k:Nat) (s:(List ak)) (i:Int)=>fM u k p0 s i) hn (λ_ _ _=>rfl) s hk
def sQ(u:Nat)(p0:World)(r3:(List bp))(x12:List aG)(x21:List aC):Option World :=
  (kT u p0.br).bind λr22=>(cd (decide (((([]:List dZ)).length+p0.dB.length)*24<=140737488355328))).bind λ_=>some ((World.mk p0.fC ((c9.mk ((([]:List Int))++p0.fT.cy))) ((([]:List Int))++p0.ct) r3 x12 x21 r22 ((([]:List dZ))++p0.dB) p0.bC))
def iX(u kE:Nat)(x15:Int)(p0:World)(r3:(List bp))(x12:List aG)(x16:List aC):Option World:=match kE with
  | 0=>none
  | kE+1=>bif decide (x15 < ((p0.fD.length:Int))) then ((dm p0.fD x15).bind λy19=>(d9 u y19).bind λr20=>(cd (decide ((x16.length+([r20]).length)*96<=140737488355328))).bind λ_=>(iX u kE) (aL .i64 x15 1) p0 r3 x12 (x16++([r20]))) else (sQ u p0 r3 x12 x16)
def sR(u:Nat)(p0:World)(r3:(List bp))(x12:List aG):Option World :=
  iX u u 0 p0 r3 x12 (([]:List aC))
def iY(u kF:Nat)(x6:Int)(p0:World)(r3:(List bp))(x7:List aG):Option World:=match kF with
  | 0=>none
  | kF+1=>bif decide (x6 < ((p0.fN.length:Int))) then ((dm p0.fN x6).bind λy10=>(dC u y10).bind λr11=>(cd (decide ((x7.length+([r11]).length)*144<=140737488355328))).bind λ_=>(iY u kF) (aL .i64 x6 1) p0 r3 (x7++([r11]))) else (sR u p0 r3 x7)
def uk(u:Nat)(p0:World):Option World :=
  (cd (decide (((([]:List Int)).length+p0.fT.cy.length)*8<=140737488355328))).bind λ_=>(cd (decide (((([]:List Int)).length+p0.ct.length)*1<=140737488355328))).bind λ_=>(jQ u p0.ca).bind λr3=>iY u u 0 p0 r3 (([]:List aG))
def zL(u:Nat)(p0:World)(r3:(List bp))(x12:List aG)(s:(List aC)):Option World:=(sQ u p0 r3 x12 s)
def zM(u:Nat)(p0:World)(r3:(List bp))(x12:List aG)(y19:aC)(i_:Nat)(s:(List aC))(k_:((List aC))->Option World):Option World:=(d9 u y19).bind λr20=>(cd (decide ((s.length+([r20]).length)*96<=140737488355328))).bind λ_=>(λz0 z1 z2 z3 z4=>k_ z4) (aL .i64 (i_:Int) 1) p0 r3 x12 (s++([r20]))
theorem GN(u:Nat)(p0:World)(r3:(List bp))(x12:List aG)(s:(List aC))(k:Nat)(hn:p0.fD.length<=9223372036854775807)(hk:p0.fD.length < k):iX u k 0 p0 r3 x12 s=Pu.bZ (zL u p0 r3 x12) (zM u p0 r3 x12) p0.fD 0 s:=Pu.dz (λ(k:Nat) (s:(List aC)) (i:Int)=>iX u k i p0 r3 x12 s) hn (λ_ _ _=>rfl) s hk
def zN(u:Nat)(p0:World)(r3:(List bp))(s:(List aG)):Option World:=(sR u p0 r3 s)
def zO(u:Nat)(p0:World)(r3:(List bp))(y10:aG)(i_:Nat)(s:(List aG))(k_:((List aG))->Option World):Option World:=(dC u y10).bind λr11=>(cd (decide ((s.length+([r11]).length)*144<=140737488355328))).bind λ_=>(λz0 z1 z2 z3=>k_ z3) (aL .i64 (i_:Int) 1) p0 r3 (s++([r11]))
theorem GO(u:Nat)(p0:World)(r3:(List bp))(s:(List aG))(k:Nat)(hn:p0.fN.length<=9223372036854775807)(hk:p0.fN.length < k):iY u k 0 p0 r3 s=Pu.bZ (zN u p0 r3) (zO u p0 r3) p0.fN 0 s:=Pu.dz (λ(k:Nat) (s:(List aG)) (i:Int)=>iY u k i p0 r3 s) hn (λ_ _ _=>rfl) s hk
def pR(u:Nat)(p0:aJ):Option (af×(List Int)×aJ) :=
  (mI u p0).bind λr1=>(aW u r1.2 5).bind λr2=>(aW u r2.2 5).bind λr3=>(vA u (aL .i64 1 r2.1) r1.1 (aL .i64 2 r3.1)).bind λr4=>some ((r4,r1.1,r3.2))
def vE(u:Nat)(p0:aJ):Option (Int×aJ) :=
  (ie u p0 3).bind λr1=>bif r1.1 then ((di u r1.2 (([0,1,3,1099511627775,549755813888]:List Int))).bind λr2=>some ((r2.1,r2.2))) else ((aW u r1.2 65536).bind λr3=>(aW u r3.2 20).bind λr4=>(cd (decide (0<=r4.1))).bind λ_=>some ((il .i64 r3.1 r4.1,r4.2)))
def ul(u:Nat)(p0 p1 p2:Int):Option dW :=
  some ((dW.mk 2 p0 ((af.mk 0 0 0 ([]))) p1 p2 0 ([])))
def mN(u:Nat)(p0 p1:Int)(p2:List Int):Option dW :=
  (cd (decide (((([]:List Int)).length+p2.length)*1<=140737488355328))).bind λ_=>some ((dW.mk 3 p0 ((af.mk 0 0 0 ([]))) 0 0 p1 ((([]:List Int))++p2)))
def qG(u:Nat)(p0:aJ):Option (dW×aJ) :=
  (aW u p0 4).bind λr1=>bif r1.1 == 0 then ((pR u r1.2).bind λr2=>some (((dW.mk 1 0 r2.1 0 0 0 ([])),r2.2.2))) else (bif r1.1 == 1 then ((vE u r1.2).bind λr3=>(aW u r3.2 3).bind λr4=>(aW u r4.2 64).bind λr5=>(ul u r4.1 r3.1 r5.1).bind λr6=>some ((r6,r5.2))) else (bif r1.1 == 2 then ((fL u r1.2 5).bind λr7=>(cd (decide (((([112]:List Int)).length+r7.1.length)*1<=140737488355328))).bind λ_=>(aW u r7.2 3).bind λr9=>(aW u r9.2 9).bind λr10=>(mN u (aL .i64 1 r9.1) r10.1 ((([112]:List Int))++r7.1)).bind λr11=>some ((r11,r10.2))) else ((aW u r1.2 3).bind λr12=>some (((dW.mk 4 r12.1 ((af.mk 0 0 0 ([]))) 0 0 0 ([])),r12.2)))))
def qH(u:Nat)(p0 p1:af):Option Bool :=
  bif p0.aH == p1.aH then (bif p0.aB == p1.aB then (bif p0.aT == p1.aT then ((mt u p0.aI p1.aI).bind λr1=>some r1) else (some false)) else (some false)) else (some false)
def pj(u:Nat)(r1 x2:Bool)(p0:dW):Option Bool :=
  bif p0.ba == 1 then (bif p0.aH == 0 then (bif p0.ay.aH != 0 then ((iE u p0.ay).bind λr3=>bif r3 then (some x2) else (some false)) else (some false)) else (some false)) else (bif p0.ba == 2 then ((bF u p0.aH 0 1000000).bind λr4=>bif r4 then (bif r1 then ((ek u p0.bQ).bind λr5=>bif r5 then ((ek u p0.bW).bind λr6=>bif r6 then (bif p0.fI == 0 then (some (((p0.fB.length:Int)) == 0)) else (some false)) else (some false)) else (some false)) else (some false)) else (some false)) else (bif p0.ba == 3 then ((bF u p0.aH 1 1000000).bind λr7=>bif r7 then (bif r1 then (bif p0.bQ == 0 then (bif p0.bW == 0 then ((bF u p0.fI 0 39).bind λr8=>bif r8 then ((bF u ((p0.fB.length:Int)) 1 6).bind λr9=>some r9) else (some false)) else (some false)) else (some false)) else (some false)) else (some false)) else (bif p0.ba == 4 then ((bF u p0.aH 0 1000000).bind λr10=>bif r10 then (bif r1 then (some x2) else (some false)) else (some false)) else (some false))))
def tz(u:Nat)(p0:dW):Option Bool :=
  (qH u p0.ay ((af.mk 0 0 0 ([])))).bind λr1=>bif p0.bQ == 0 then (bif p0.bW == 0 then (bif p0.fI == 0 then (pj u r1 (((p0.fB.length:Int)) == 0) p0) else (pj u r1 false p0)) else (pj u r1 false p0)) else (pj u r1 false p0)
def um(u:Nat)(x9:Int)(x10:List Int):Option ((List Int)) :=
  (cd (decide ((x10.length+(([Ir .u8 x9]:List Int)).length)*1<=140737488355328))).bind λ_=>some (x10++(([Ir .u8 x9]:List Int)))
def lO(u lH:Nat)(x5:Int)(x6:List Int):Option ((List Int)):=match lH with
  | 0=>none
  | lH+1=>bif decide (x5 > 127) then ((cd (decide ((x6.length+(([Ir .u8 (tZ .i64 (bJ .i64 x5 127) 128)]:List Int)).length)*1<=140737488355328))).bind λ_=>(lO u lH) (cU .i64 x5 7) (x6++(([Ir .u8 (tZ .i64 (bJ .i64 x5 127) 128)]:List Int)))) else (um u x5 x6)
def ed(u:Nat)(p0:List Int)(p1:Int):Option ((List Int)) :=
  (cd (decide (((([]:List Int)).length+p0.length)*1<=140737488355328))).bind λ_=>(bF u p1 0 1000000000000).bind λr2=>bif !r2 then (some ((([]:List Int))++p0)) else (lO u u p1 ((([]:List Int))++p0))
def qI(u:Nat)(x7:List Int)(x8:Int):Option ((List Int)) :=
  (cd (decide ((x7.length+(([Ir .u8 x8]:List Int)).length)*1<=140737488355328))).bind λ_=>some (x7++(([Ir .u8 x8]:List Int)))
def ji(u jE:Nat)(x3:List Int)(x4:Int):Option ((List Int)):=match jE with
  | 0=>none
  | jE+1=>bif decide (x4 > 127) then ((cd (decide ((x3.length+(([Ir .u8 (tZ .i64 (bJ .i64 x4 127) 128)]:List Int)).length)*1<=140737488355328))).bind λ_=>(ji u jE) (x3++(([Ir .u8 (tZ .i64 (bJ .i64 x4 127) 128)]:List Int))) (cU .i64 x4 7)) else (qI u x3 x4)
def rJ(u:Nat)(p0:List Int)(p1:Int):Option ((List Int)) :=
  ji u u p0 p1
def yB(u:Nat)(x14:List Int):Option ((List Int)) :=
  some x14
def nq(u lG:Nat)(x8:List Int)(x9:Int)(p1:af):Option ((List Int)):=match lG with
  | 0=>none
  | lG+1=>bif decide (x9 < ((p1.aI.length:Int))) then ((dm p1.aI x9).bind λy12=>(rJ u x8 y12.fS).bind λr13=>(nq u lG) r13 (aL .i64 x9 1) p1) else (yB u x8)
def wB(u:Nat)(p0:List Int)(p1:af):Option ((List Int)) :=
  (cd (decide (((([]:List Int)).length+p0.length)*1<=140737488355328))).bind λ_=>(iE u p1).bind λr2=>bif !r2 then (some ((([]:List Int))++p0)) else ((ed u ((([]:List Int))++p0) p1.aH).bind λr3=>(ed u r3 p1.aB).bind λr4=>(ed u r4 p1.aT).bind λr5=>nq u u r5 0 p1)
def A3(u:Nat)(p1:af)(s:(List Int)):Option ((List Int)):=(yB u s)
def vF(u:Nat)(p1:af)(y12:cC)(i_:Nat)(s:(List Int))(k_:((List Int))->Option ((List Int))):Option ((List Int)):=(rJ u s y12.fS).bind λr13=>(λz0 z1 z2=>k_ z0) r13 (aL .i64 (i_:Int) 1) p1
theorem IF(u:Nat)(p1:af)(s:(List Int))(k:Nat)(hn:p1.aI.length<=9223372036854775807)(hk:p1.aI.length < k):nq u k s 0 p1=Pu.bZ (A3 u p1) (vF u p1) p1.aI 0 s:=Pu.dz (λ(k:Nat) (s:(List Int)) (i:Int)=>nq u k s i p1) hn (λ_ _ _=>rfl) s hk
def un(u:Nat)(p0:Int):Option (Int×Int) :=
  some ((bJ .i64 p0 1048575,cU .i64 p0 20))
def xZ(u:Nat)(p0 p1:List Int):Option ((List Int)) :=
  (ed u p0 ((p1.length:Int))).bind λr1=>(cd (decide ((r1.length+p1.length)*1<=140737488355328))).bind λ_=>some (r1++p1)
def jT(u:Nat)(x15:List Int):Option ((List Int)) :=
  (n8 u x15).bind λr16=>(ed u x15 r16).bind λr17=>some r17
def oc(u:Nat)(p0:dW):Option ((List Int)) :=
  (tz u p0).bind λr1=>bif !r1 then (some (([]:List Int))) else ((ed u (([]:List Int)) p0.ba).bind λr2=>bif p0.ba == 1 then ((wB u r2 p0.ay).bind λr3=>jT u r3) else (bif p0.ba == 2 then ((un u p0.bQ).bind λr4=>(ed u r2 p0.aH).bind λr5=>(ed u r5 r4.1).bind λr6=>(ed u r6 r4.2).bind λr7=>(un u p0.bW).bind λr8=>(ed u r7 r8.1).bind λr9=>(ed u r9 r8.2).bind λr10=>jT u r10) else (bif p0.ba == 3 then ((ed u r2 p0.aH).bind λr11=>(ed u r11 p0.fI).bind λr12=>(xZ u r12 p0.fB).bind λr13=>jT u r13) else ((ed u r2 p0.aH).bind λr14=>jT u r14))))
def uo(u:Nat)  : Option (Int×Int×Bool) :=
  some ((0,0,false))
def pS(u:Nat)(n4:(List Int)->Int->Int->Int->Option (Int×Int×Bool))(p0:List Int)(p1 x3:Int)(y8 x4:Int)(x10:Bool):Option (Int×Int×Bool) :=
  bif x10 then (some ((0,0,false))) else (some ((tZ .i64 x3 (il .i64 (bJ .i64 (Ir .i64 y8) 127) (eO .i64 7 x4)),aL .i64 (aL .i64 p1 x4) 1,true)))
def lP(u:Nat)(n4:(List Int)->Int->Int->Int->Option (Int×Int×Bool))(p0:List Int)(p1 x3 x4:Int)(x7:Bool):Option (Int×Int×Bool) :=
  bif x7 then (some ((0,0,false))) else ((dm p0 (aL .i64 p1 x4)).bind λy8=>(cd (decide (0<=(eO .i64 7 x4)))).bind λ_=>bif decide ((Ir .i64 y8) < 128) then (bif (Ir .i64 y8) == 0 then (bif decide (x4 > 0) then (pS u n4 p0 p1 x3 y8 x4 true) else (pS u n4 p0 p1 x3 y8 x4 (decide ((tZ .i64 x3 (il .i64 (bJ .i64 (Ir .i64 y8) 127) (eO .i64 7 x4))) > 1000000000000)))) else (pS u n4 p0 p1 x3 y8 x4 (decide ((tZ .i64 x3 (il .i64 (bJ .i64 (Ir .i64 y8) 127) (eO .i64 7 x4))) > 1000000000000)))) else (n4 p0 p1 (tZ .i64 x3 (il .i64 (bJ .i64 (Ir .i64 y8) 127) (eO .i64 7 x4))) (aL .i64 x4 1)))
def dI(u fZ:Nat)(p0:List Int)(p1 x3 x4:Int):Option (Int×Int×Bool):=match fZ with
  | 0=>none
  | fZ+1=>bif decide (x4 < 6) then (bif decide (p1 < 0) then (lP u (dI u fZ) p0 p1 x3 x4 true) else (lP u (dI u fZ) p0 p1 x3 x4 (decide (p1>=(cG .i64 ((p0.length:Int)) x4))))) else (uo u)
def gm(u:Nat)(p0:List Int)(p1:Int):Option (Int×Int×Bool) :=
  dI u u p0 p1 0 0
def IG(u:Nat)(p0:List Int)(p1 s:Int):Option (Int×Int×Bool):=(uo u)
def IH(u:Nat)(p0:List Int)(p1:Int)(i_:Nat)(s:Int)(k_:Int->Option (Int×Int×Bool)):Option (Int×Int×Bool):=bif decide (p1 < 0) then (lP u (λz0 z1 z2 z3=>k_ z2) p0 p1 s (i_:Int) true) else (lP u (λz0 z1 z2 z3=>k_ z2) p0 p1 s (i_:Int) (decide (p1>=(cG .i64 ((p0.length:Int)) (i_:Int)))))
theorem VX(u:Nat)(p0:List Int)(p1 s:Int)(k:Nat)(hn:(6:Int)<=9223372036854775807)(hk:sY (6) < k):dI u k p0 p1 s 0=Pu.gX (IG u p0 p1) (IH u p0 p1) (sY (6)) 0 s:=Pu.kZ (λ(k:Nat) (s i:Int)=>dI u k p0 p1 s i) hn (λ_ _ _=>rfl) s hk
def qJ(u:Nat)  : Option (Int×Int×Bool) :=
  some ((0,0,false))
def fO(u jD:Nat)(p0:List Int)(p1 x3 x4:Int):Option (Int×Int×Bool):=match jD with
  | 0=>none
  | jD+1=>bif decide (x4 < 8) then (bif decide (p1>=(cG .i64 ((p0.length:Int)) x4)) then (some ((0,0,false))) else ((dm p0 (aL .i64 p1 x4)).bind λy7=>(cd (decide (0<=(eO .i64 7 x4)))).bind λ_=>bif decide ((Ir .i64 y7) < 128) then (bif decide ((Ir .i64 y7) > 0) then (some ((tZ .i64 x3 (il .i64 (bJ .i64 (Ir .i64 y7) 127) (eO .i64 7 x4)),aL .i64 (aL .i64 p1 x4) 1,true))) else (some ((tZ .i64 x3 (il .i64 (bJ .i64 (Ir .i64 y7) 127) (eO .i64 7 x4)),aL .i64 (aL .i64 p1 x4) 1,x4 == 0)))) else ((fO u jD) p0 p1 (tZ .i64 x3 (il .i64 (bJ .i64 (Ir .i64 y7) 127) (eO .i64 7 x4))) (aL .i64 x4 1)))) else (qJ u)
def rK(u:Nat)(p0:List Int)(p1:Int):Option (Int×Int×Bool) :=
  fO u u p0 p1 0 0
def FG(u:Nat)(p0:List Int)(p1 s:Int):Option (Int×Int×Bool):=(qJ u)
def FH(u:Nat)(p0:List Int)(p1:Int)(i_:Nat)(s:Int)(k_:Int->Option (Int×Int×Bool)):Option (Int×Int×Bool):=bif decide (p1>=(cG .i64 ((p0.length:Int)) (i_:Int))) then (some ((0,0,false))) else ((dm p0 (aL .i64 p1 (i_:Int))).bind λy7=>(cd (decide (0<=(eO .i64 7 (i_:Int))))).bind λ_=>bif decide ((Ir .i64 y7) < 128) then (bif decide ((Ir .i64 y7) > 0) then (some ((tZ .i64 s (il .i64 (bJ .i64 (Ir .i64 y7) 127) (eO .i64 7 (i_:Int))),aL .i64 (aL .i64 p1 (i_:Int)) 1,true))) else (some ((tZ .i64 s (il .i64 (bJ .i64 (Ir .i64 y7) 127) (eO .i64 7 (i_:Int))),aL .i64 (aL .i64 p1 (i_:Int)) 1,(i_:Int) == 0)))) else ((λz0 z1 z2 z3=>k_ z2) p0 p1 (tZ .i64 s (il .i64 (bJ .i64 (Ir .i64 y7) 127) (eO .i64 7 (i_:Int)))) (aL .i64 (i_:Int) 1)))
theorem T2(u:Nat)(p0:List Int)(p1 s:Int)(k:Nat)(hn:(8:Int)<=9223372036854775807)(hk:sY (8) < k):fO u k p0 p1 s 0=Pu.gX (FG u p0 p1) (FH u p0 p1) (sY (8)) 0 s:=Pu.kZ (λ(k:Nat) (s i:Int)=>fO u k p0 p1 s i) hn (λ_ _ _=>rfl) s hk
def lQ(u:Nat)(x19:Int)(r1 r2 r3:Int×Int×Bool)(x20:List cC):Option (af×Int×Bool) :=
  (iE u ((af.mk r1.1 r2.1 r3.1 x20))).bind λr21=>bif !r21 then (some (((af.mk 0 0 0 ([])),0,false))) else (some (((af.mk r1.1 r2.1 r3.1 x20),x19,true)))
def iG(u:Nat)(Kc:(List Int)->(Int×Int×Bool)->(Int×Int×Bool)->(Int×Int×Bool)->Int->Int->(List cC)->Option (af×Int×Bool))(p0:List Int)(r1 r2 r3:Int×Int×Bool)(x8 x9:Int)(x15:Bool)(x10:List cC):Option (af×Int×Bool) :=
  bif x15 then ((rK u p0 x8).bind λr16=>bif !r16.2.2 then (some (((af.mk 0 0 0 ([])),0,false))) else ((oo u r16.1).bind λr17=>(ic u r17.1).bind λr18=>(cd (decide ((x10.length+([(cC.mk r18.fW r16.1)]).length)*16<=140737488355328))).bind λ_=>Kc p0 r1 r2 r3 r16.2.1 (aL .i64 x9 1) (x10++([(cC.mk r18.fW r16.1)])))) else (lQ u x8 r1 r2 r3 x10)
def dd(u dH:Nat)(p0:List Int)(r1 r2 r3:Int×Int×Bool)(x8 x9:Int)(x10:List cC):Option (af×Int×Bool):=match dH with
  | 0=>none
  | dH+1=>(mK u r2.1 r3.1).bind λr14=>bif decide (x9 < r14) then (iG u (dd u dH) p0 r1 r2 r3 x8 x9 (decide (r1.1 > 0)) x10) else (iG u (dd u dH) p0 r1 r2 r3 x8 x9 false x10)
def nr(u:Nat)(p0:List Int)(r1 r2 r3:Int×Int×Bool)(x4:Bool):Option (af×Int×Bool) :=
  bif x4 then (some (((af.mk 0 0 0 ([])),0,false))) else (dd u u p0 r1 r2 r3 r3.2.1 0 ([]))
def pT(u:Nat)(p0:List Int)(p1:Int):Option (af×Int×Bool) :=
  (gm u p0 p1).bind λr1=>(gm u p0 r1.2.1).bind λr2=>(gm u p0 r2.2.1).bind λr3=>bif !r1.2.2 then (nr u p0 r1 r2 r3 true) else (bif !r2.2.2 then (nr u p0 r1 r2 r3 true) else (nr u p0 r1 r2 r3 (!r3.2.2)))
def mv(u:Nat)(p0:List Int)(r1:Int×Int×Bool)(x2:Bool):Option ((List Int)×Int×Bool) :=
  bif x2 then (some ((([]:List Int),0,false))) else ((cd (cS r1.2.1 (aL .i64 r1.2.1 r1.1) p0.length)).bind λ_=>(cd (decide (((([]:List Int)).length+((p0.take (sY (aL .i64 r1.2.1 r1.1))).drop (sY r1.2.1)).length)*1<=140737488355328))).bind λ_=>some (((([]:List Int))++((p0.take (sY (aL .i64 r1.2.1 r1.1))).drop (sY r1.2.1)),aL .i64 r1.2.1 r1.1,true)))
def ot(u:Nat)(p0:List Int)(p1 p2:Int):Option ((List Int)×Int×Bool) :=
  (gm u p0 p1).bind λr1=>bif !r1.2.2 then (mv u p0 r1 true) else (bif decide (r1.1 > p2) then (mv u p0 r1 true) else (mv u p0 r1 (decide (r1.1 > (cG .i64 ((p0.length:Int)) r1.2.1)))))
def oS(u:Nat)(x20 p2:Int)(r2:Int×Int×Bool)(x21 x22:Int):Option (dW×Int×Bool) :=
  some (((dW.mk p2 r2.1 ((af.mk 0 0 0 ([]))) x21 x22 0 ([])),x20,true))
def oT(u:Nat)(x14:Int)(x15:List Int)(p2:Int)(r2:Int×Int×Bool):Option (dW×Int×Bool) :=
  (dm x15 0).bind λy16=>(dm x15 1).bind λy17=>(dm x15 2).bind λy18=>(dm x15 3).bind λy19=>oS u x14 p2 r2 (aL .i64 y16 (il .i64 y17 20)) (aL .i64 y18 (il .i64 y19 20))
def kI(u:Nat)(Iw:(List Int)->Int->(List Int)->Int->Int->(Int×Int×Bool)->Option (dW×Int×Bool))(p0:List Int)(x6:Int)(x7:List Int)(x8:Int)(r12:Int×Int×Bool)(x13:Bool)(p2:Int)(r2:Int×Int×Bool):Option (dW×Int×Bool) :=
  bif x13 then (some (((dW.mk p2 r2.1 ((af.mk 0 0 0 ([]))) 0 0 0 ([])),0,false))) else ((cd (decide ((x7.length+(([r12.1]:List Int)).length)*8<=140737488355328))).bind λ_=>Iw p0 r12.2.1 (x7++(([r12.1]:List Int))) (aL .i64 x8 1) p2 r2)
def cD(u dA:Nat)(p0:List Int)(x6:Int)(x7:List Int)(x8 p2:Int)(r2:Int×Int×Bool):Option (dW×Int×Bool):=match dA with
  | 0=>none
  | dA+1=>bif decide (x8 < 4) then ((gm u p0 x6).bind λr12=>bif !r12.2.2 then (kI u (cD u dA) p0 x6 x7 x8 r12 true p2 r2) else (kI u (cD u dA) p0 x6 x7 x8 r12 (decide (r12.1>=1048576)) p2 r2)) else (oT u x6 x7 p2 r2)
def eD(u:Nat)(p0:List Int)(p1 p2:Int):Option (dW×Int×Bool) :=
  bif p2 == 1 then ((pT u p0 p1).bind λr1=>some (((dW.mk p2 0 r1.1 0 0 0 ([])),r1.2.1,r1.2.2))) else ((gm u p0 p1).bind λr2=>bif !r2.2.2 then (some (((dW.mk p2 r2.1 ((af.mk 0 0 0 ([]))) 0 0 0 ([])),0,false))) else (bif p2 == 2 then (cD u u p0 r2.2.1 (([]:List Int)) 0 p2 r2) else (bif p2 == 3 then ((gm u p0 r2.2.1).bind λr13=>(ot u p0 r13.2.1 6).bind λr14=>bif r13.2.2 then (some (((dW.mk p2 r2.1 ((af.mk 0 0 0 ([]))) 0 0 r13.1 r14.1),r14.2.1,r14.2.2))) else (some (((dW.mk p2 r2.1 ((af.mk 0 0 0 ([]))) 0 0 r13.1 r14.1),r14.2.1,false)))) else (oS u r2.2.1 p2 r2 0 0))))
def GP(u:Nat)(p0:List Int)(p2:Int)(r2:Int×Int×Bool)(s:Int×(List Int)):Option (dW×Int×Bool):=(oT u s.1 s.2 p2 r2)
def GQ(u:Nat)(p0:List Int)(p2:Int)(r2:Int×Int×Bool)(i_:Nat)(s:Int×(List Int))(k_:(Int×(List Int))->Option (dW×Int×Bool)):Option (dW×Int×Bool):=(gm u p0 s.1).bind λr12=>bif !r12.2.2 then (kI u (λz0 z1 z2 z3 z4 z5=>k_ (z1,z2)) p0 s.1 s.2 (i_:Int) r12 true p2 r2) else (kI u (λz0 z1 z2 z3 z4 z5=>k_ (z1,z2)) p0 s.1 s.2 (i_:Int) r12 (decide (r12.1>=1048576)) p2 r2)
theorem Vj(u:Nat)(p0:List Int)(p2:Int)(r2:Int×Int×Bool)(s:Int×(List Int))(k:Nat)(hn:(4:Int)<=9223372036854775807)(hk:sY (4) < k):cD u k p0 s.1 s.2 0 p2 r2=Pu.gX (GP u p0 p2 r2) (GQ u p0 p2 r2) (sY (4)) 0 s:=Pu.kZ (λ(k:Nat) (s:Int×(List Int)) (i:Int)=>cD u k p0 s.1 s.2 i p2 r2) hn (λ_ _ _=>rfl) s hk
def nt(u:Nat)(x9:Bool)(r3:dW×Int×Bool):Option (dW×Bool) :=
  bif x9 then (some (((dW.mk 0 0 ((af.mk 0 0 0 ([]))) 0 0 0 ([])),false))) else (some ((r3.1,true)))
def pU(u:Nat)(p0:List Int)(r3:dW×Int×Bool)(x5:Bool):Option (dW×Bool) :=
  bif x5 then (some (((dW.mk 0 0 ((af.mk 0 0 0 ([]))) 0 0 0 ([])),false))) else ((gm u p0 r3.2.1).bind λr6=>bif !r6.2.2 then (nt u true r3) else (bif r6.2.1 != ((p0.length:Int)) then (nt u true r3) else ((cd (cS 0 r3.2.1 p0.length)).bind λ_=>(n8 u ((p0.take (sY r3.2.1)).drop (sY 0))).bind λr8=>nt u (r6.1 != r8) r3)))
def pV(u:Nat)(p0:List Int)(r1:Int×Int×Bool)(x2:Bool):Option (dW×Bool) :=
  bif x2 then (some (((dW.mk 0 0 ((af.mk 0 0 0 ([]))) 0 0 0 ([])),false))) else ((eD u p0 r1.2.1 r1.1).bind λr3=>bif !r3.2.2 then (pU u p0 r3 true) else ((tz u r3.1).bind λr4=>pU u p0 r3 (!r4)))
def jU(u:Nat)(p0:List Int):Option (dW×Bool) :=
  (gm u p0 0).bind λr1=>bif !r1.2.2 then (pV u p0 r1 true) else (pV u p0 r1 (decide (((p0.length:Int)) > 400)))
def nu(u:Nat)(p0 p1:List Int):Option Bool :=
  some ((strOfNums p0).toList == (strOfNums p1).toList)
def vG(u:Nat)  : Option Bool :=
  some false
def jj(u jB:Nat)(x4:Int)(p0:World)(p1:cK):Option Bool:=match jB with
  | 0=>none
  | jB+1=>bif decide (x4 < ((p0.br.length:Int))) then ((dm p0.br x4).bind λy6=>(nu u y6.fB p1.fP.fB).bind λr7=>bif r7 then (some true) else ((jj u jB) (aL .i64 x4 1) p0 p1)) else (vG u)
def lv(u:Nat)(x2:Bool)(p0:World)(p1:cK):Option Bool :=
  bif x2 then (some true) else (jj u u 0 p0 p1)
def pk(u:Nat)(p0:World)(p1:cK):Option Bool :=
  bif p1.ba != 7 then (some true) else ((jU u p1.fP.fB).bind λr1=>bif !r1.2 then (lv u true p0 p1) else (bif r1.1.ba == 4 then (lv u true p0 p1) else (lv u (r1.1.ba == 3) p0 p1)))
def yC(u:Nat)(p0:World)(p1:cK)(s:Unit):Option Bool:=(vG u)
def tA(u:Nat)(p0:World)(p1:cK)(y6:ak)(i_:Nat)(s:Unit)(k_:Unit->Option Bool):Option Bool:=(nu u y6.fB p1.fP.fB).bind λr7=>bif r7 then (some true) else ((λz0 z1 z2=>k_ ()) (aL .i64 (i_:Int) 1) p0 p1)
theorem FI(u:Nat)(p0:World)(p1:cK)(s:Unit)(k:Nat)(hn:p0.br.length<=9223372036854775807)(hk:p0.br.length < k):jj u k 0 p0 p1=Pu.bZ (yC u p0 p1) (tA u p0 p1) p0.br 0 s:=Pu.dz (λ(k:Nat) (s:Unit) (i:Int)=>jj u k i p0 p1) hn (λ_ _ _=>rfl) s hk
def sS(u:Nat)(x17 x18:List Int)(x19 x20:Int):Option ((List Int)×aJ) :=
  some ((x17,(aJ.mk x18 x19 x20)))
def gS(u kD:Nat)(p1:Int)(x6:List Int)(x7:Int)(x8:List Int)(x9 x10:Int):Option ((List Int)×aJ):=match kD with
  | 0=>none
  | kD+1=>bif decide (x7 < p1) then ((k6 u ((aJ.mk x8 x9 x10))).bind λr16=>(cd (decide ((x6.length+(([Ir .u8 r16.1]:List Int)).length)*1<=140737488355328))).bind λ_=>(gS u kD) p1 (x6++(([Ir .u8 r16.1]:List Int))) (aL .i64 x7 1) r16.2.fB r16.2.fI r16.2.fH) else (sS u x6 x8 x9 x10)
def yb(u:Nat)(p0:aJ)(p1:Int):Option ((List Int)×aJ) :=
  gS u u p1 (([]:List Int)) 0 p0.fB p0.fI p0.fH
def GR(u:Nat)(p1:Int)(s:(List Int)×(List Int)×Int×Int):Option ((List Int)×aJ):=(sS u s.1 s.2.1 s.2.2.1 s.2.2.2)
def GS(u:Nat)(p1:Int)(i_:Nat)(s:(List Int)×(List Int)×Int×Int)(k_:((List Int)×(List Int)×Int×Int)->Option ((List Int)×aJ)):Option ((List Int)×aJ):=(k6 u ((aJ.mk s.2.1 s.2.2.1 s.2.2.2))).bind λr16=>(cd (decide ((s.1.length+(([Ir .u8 r16.1]:List Int)).length)*1<=140737488355328))).bind λ_=>(λz0 z1 z2 z3 z4 z5=>k_ (z1,z3,z4,z5)) p1 (s.1++(([Ir .u8 r16.1]:List Int))) (aL .i64 (i_:Int) 1) r16.2.fB r16.2.fI r16.2.fH
theorem Vk(u:Nat)(p1:Int)(s:(List Int)×(List Int)×Int×Int)(k:Nat)(hn:(p1:Int)<=9223372036854775807)(hk:sY (p1) < k):gS u k p1 s.1 0 s.2.1 s.2.2.1 s.2.2.2=Pu.gX (GR u p1) (GS u p1) (sY (p1)) 0 s:=Pu.kZ (λ(k:Nat) (s:(List Int)×(List Int)×Int×Int) (i:Int)=>gS u k p1 s.1 i s.2.1 s.2.2.1 s.2.2.2) hn (λ_ _ _=>rfl) s hk
def qK(u:Nat)(x20:List Int)(x21 x22:Int)(r1 r2:Int×aJ)(x24:List Int):Option (cK×aJ) :=
  some (((cK.mk 7 0 0 ((ak.mk r1.1 r2.1 x24))),(aJ.mk x20 x21 x22)))
def nv(u:Nat)(r1 r2:Int×aJ)(x19:List Int)(p1:World)(x20:List Int)(x21 x22:Int):Option (cK×aJ) :=
  (pk u p1 ((cK.mk 7 0 0 ((ak.mk r1.1 r2.1 x19))))).bind λr23=>bif !r23 then (qK u x20 x21 x22 r1 r2 (([]:List Int))) else (qK u x20 x21 x22 r1 r2 x19)
def nw(u:Nat)(r1 r2:Int×aJ)(x13:List Int)(p1:World)(x14:List Int)(x15 x16:Int):Option (cK×aJ) :=
  (pk u p1 ((cK.mk 7 0 0 ((ak.mk r1.1 r2.1 x13))))).bind λr17=>bif !r17 then ((yb u ((aJ.mk x14 x15 x16)) 3).bind λr18=>nv u r1 r2 r18.1 p1 r18.2.fB r18.2.fI r18.2.fH) else (nv u r1 r2 x13 p1 x14 x15 x16)
def nx(u:Nat)(x6:Bool)(r1 r2:Int×aJ)(r4:(List Int))(p1:World)(x7:List Int)(x8 x9:Int):Option (cK×aJ) :=
  bif x6 then ((aW u ((aJ.mk x7 x8 x9)) ((p1.br.length:Int))).bind λr10=>(dm p1.br r10.1).bind λy11=>(n7 u r10.2 y11.fB).bind λr12=>nw u r1 r2 r12.1 p1 r12.2.fB r12.2.fI r12.2.fH) else (nw u r1 r2 r4 p1 x7 x8 x9)
def rL(u:Nat)(p0:aJ)(p1:World):Option (cK×aJ) :=
  (aW u p0 ((p1.fN.length:Int))).bind λr1=>(aW u r1.2 ((p1.fN.length:Int))).bind λr2=>(qG u r2.2).bind λr3=>(oc u r3.1).bind λr4=>bif decide (((p1.br.length:Int)) > 0) then ((ie u r3.2 2).bind λr5=>nx u r5.1 r1 r2 r4 p1 r5.2.fB r5.2.fI r5.2.fH) else (nx u false r1 r2 r4 p1 r3.2.fB r3.2.fI r3.2.fH)
def oU(u:Nat)(r1:Int×aJ)(x6:Bool)(p1:World)(x7:List Int)(x8 x9:Int):Option (cK×aJ) :=
  bif x6 then ((vw u ((p1.br.length:Int)) 4).bind λr10=>(aW u ((aJ.mk x7 x8 x9)) r10).bind λr11=>(aW u r11.2 12).bind λr12=>bif r12.1 == 0 then (some (((cK.mk 3 r11.1 0 ((ak.mk 0 0 ([])))),r12.2))) else (bif r12.1 == 1 then (some (((cK.mk 4 r11.1 0 ((ak.mk 0 0 ([])))),r12.2))) else (some (((cK.mk 2 r11.1 0 ((ak.mk 0 0 ([])))),r12.2))))) else (some (((cK.mk 1 r1.1 0 ((ak.mk 0 0 ([])))),(aJ.mk x7 x8 x9))))
def uq(u:Nat)(p0:aJ)(p1:World):Option (cK×aJ) :=
  (aW u p0 ((p1.fN.length:Int))).bind λr1=>(aW u r1.2 24).bind λr2=>bif r2.1 == 0 then ((di u r2.2 (([0,0,1,5,1099511627775,21]:List Int))).bind λr3=>some (((cK.mk 5 r1.1 r3.1 ((ak.mk 0 0 ([])))),r3.2))) else (bif r2.1 == 1 then (some (((cK.mk 6 r1.1 0 ((ak.mk 0 0 ([])))),r2.2))) else (bif r2.1 == 2 then ((rL u r2.2 p1).bind λr4=>some ((r4.1,r4.2))) else (bif decide (((p1.br.length:Int)) > 0) then ((ie u r2.2 3).bind λr5=>oU u r1 (!r5.1) p1 r5.2.fB r5.2.fI r5.2.fH) else (oU u r1 false p1 r2.2.fB r2.2.fI r2.2.fH))))
def yD(u:Nat)(x9:List bS):Option ((List bS)) :=
  some x9
def ny(u:Nat)(J9:(List bS)->Int->(List bS)->Int->Option ((List bS)))(p0:List bS)(p1:Int)(x8:List bS)(x4:Int):Option ((List bS)) :=
  J9 p0 p1 x8 (aL .i64 x4 1)
def jV(u iu:Nat)(p0:List bS)(p1:Int)(x3:List bS)(x4:Int):Option ((List bS)):=match iu with
  | 0=>none
  | iu+1=>bif decide (x4 < ((p0.length:Int))) then ((dm p0 x4).bind λy7=>bif decide (y7.zF>=p1) then (ny u (jV u iu) p0 p1 x3 x4) else ((cd (decide ((x3.length+([(bS.mk y7.pN y7.bQ y7.bW (aL .i64 y7.zF 1) 0)]).length)*40<=140737488355328))).bind λ_=>ny u (jV u iu) p0 p1 (x3++([(bS.mk y7.pN y7.bQ y7.bW (aL .i64 y7.zF 1) 0)])) x4)) else (yD u x3)
def wC(u:Nat)(p0:List bS)(p1:Int):Option ((List bS)) :=
  jV u u p0 p1 (([]:List bS)) 0
def II(u:Nat)(p0:List bS)(p1:Int)(s:(List bS)):Option ((List bS)):=(yD u s)
def A4(u:Nat)(p0:List bS)(p1:Int)(y7:bS)(i_:Nat)(s:(List bS))(k_:((List bS))->Option ((List bS))):Option ((List bS)):=bif decide (y7.zF>=p1) then (ny u (λz0 z1 z2 z3=>k_ z2) p0 p1 s (i_:Int)) else ((cd (decide ((s.length+([(bS.mk y7.pN y7.bQ y7.bW (aL .i64 y7.zF 1) 0)]).length)*40<=140737488355328))).bind λ_=>ny u (λz0 z1 z2 z3=>k_ z2) p0 p1 (s++([(bS.mk y7.pN y7.bQ y7.bW (aL .i64 y7.zF 1) 0)])) (i_:Int))
theorem IJ(u:Nat)(p0:List bS)(p1:Int)(s:(List bS))(k:Nat)(hn:p0.length<=9223372036854775807)(hk:p0.length < k):jV u k p0 p1 s 0=Pu.bZ (II u p0 p1) (A4 u p0 p1) p0 0 s:=Pu.dz (λ(k:Nat) (s:(List bS)) (i:Int)=>jV u k p0 p1 s i) hn (λ_ _ _=>rfl) s hk
def ur(u:Nat)(x11:List Int):Option ((List Int)) :=
  some x11
def pW(u:Nat)(Kd:Int->(List Int)->c9->Option ((List Int)))(x3:Int)(x4:List Int)(x8:Bool)(p0:c9):Option ((List Int)) :=
  bif x8 then ((cd (decide ((x4.length+(([x3]:List Int)).length)*8<=140737488355328))).bind λ_=>(dm p0.cy x3).bind λy10=>Kd y10 (x4++(([x3]:List Int))) p0) else (ur u x4)
def iH(u iy:Nat)(x3:Int)(x4:List Int)(p0:c9):Option ((List Int)):=match iy with
  | 0=>none
  | iy+1=>(bF u x3 0 (cG .i64 ((p0.cy.length:Int)) 1)).bind λr7=>bif r7 then (pW u (iH u iy) x3 x4 (decide (((x4.length:Int)) < ((p0.cy.length:Int)))) p0) else (pW u (iH u iy) x3 x4 false p0)
def wD(u:Nat)(p0:c9)(p1:Int):Option ((List Int)) :=
  iH u u p1 (([]:List Int)) p0
def yE(u:Nat)  : Option Bool :=
  some false
def nz(u lL:Nat)(p0:List Int)(p1 x2:Int):Option Bool:=match lL with
  | 0=>none
  | lL+1=>bif decide (x2 < ((p0.length:Int))) then ((dm p0 x2).bind λy4=>bif y4 == p1 then (some true) else ((nz u lL) p0 p1 (aL .i64 x2 1))) else (yE u)
def wE(u:Nat)(p0:List Int)(p1:Int):Option Bool :=
  nz u u p0 p1 0
def A5(u:Nat)(p0:List Int)(p1:Int)(s:Unit):Option Bool:=(yE u)
def vH(u:Nat)(p0:List Int)(p1 y4:Int)(i_:Nat)(s:Unit)(k_:Unit->Option Bool):Option Bool:=bif y4 == p1 then (some true) else ((λz0 z1 z2=>k_ ()) p0 p1 (aL .i64 (i_:Int) 1))
theorem IK(u:Nat)(p0:List Int)(p1:Int)(s:Unit)(k:Nat)(hn:p0.length<=9223372036854775807)(hk:p0.length < k):nz u k p0 p1 0=Pu.bZ (A5 u p0 p1) (vH u p0 p1) p0 0 s:=Pu.dz (λ(k:Nat) (s:Unit) (i:Int)=>nz u k p0 p1 i) hn (λ_ _ _=>rfl) s hk
def rM(u:Nat)(p0:c9)(p1 p2:Int):Option Bool :=
  bif p1 != p2 then ((wD u p0 p2).bind λr1=>(wE u r1 p1).bind λr2=>some r2) else (some false)
def qL(u:Nat)(p1 p2:Int)(x5:Bool)(p0:c9):Option Int :=
  bif x5 then ((dm p0.cy p1).bind λy6=>some y6) else ((dm p0.cy p2).bind λy7=>some y7)
def qM(u:Nat)(p1 p2:Int)(x3:Bool)(p0:c9):Option Int :=
  bif x3 then (some (-1)) else (bif decide (p2<=0) then (qL u p1 p2 true p0) else ((rM u p0 p2 p1).bind λr4=>qL u p1 p2 (!r4) p0))
def rN(u:Nat)(p0:c9)(p1 p2:Int):Option Int :=
  (pP u p0).bind λr1=>bif !r1 then (qM u p1 p2 true p0) else ((bF u p1 1 (cG .i64 ((p0.cy.length:Int)) 1)).bind λr2=>qM u p1 p2 (!r2) p0)
def qN(u:Nat)(p0:Int):Option Int :=
  (bF u p0 0 40).bind λr1=>bif !r1 then (some 0) else ((cd (decide (0<=p0))).bind λ_=>some (cG .i64 (il .i64 1 p0) 1))
def pm(u:Nat)(p0:af):Option Int :=
  (qN u ((p0.aI.length:Int))).bind λr1=>some r1
def sT(u:Nat)(p0 p1:Int)(x3:Bool):Option Int :=
  bif x3 then (some 0) else (some (Mm .i64 p0 p1))
def qO(u:Nat)(p0 p1:Int):Option Int :=
  (ek u p0).bind λr1=>bif !r1 then (sT u p0 p1 true) else ((ek u p1).bind λr2=>sT u p0 p1 (!r2))
def yF(u:Nat)  : Option Bool :=
  some true
def nA(u lN:Nat)(p0:List Int)(x2:Int):Option Bool:=match lN with
  | 0=>none
  | lN+1=>bif decide (x2 < ((p0.length:Int))) then ((dm p0 x2).bind λy4=>bif y4 != 0 then (some false) else ((nA u lN) p0 (aL .i64 x2 1))) else (yF u)
def od(u:Nat)(p0:List Int):Option Bool :=
  nA u u p0 0
def IL(u:Nat)(p0:List Int)(s:Unit):Option Bool:=(yF u)
def A6(u:Nat)(p0:List Int)(y4:Int)(i_:Nat)(s:Unit)(k_:Unit->Option Bool):Option Bool:=bif y4 != 0 then (some false) else ((λz0 z1=>k_ ()) p0 (aL .i64 (i_:Int) 1))
theorem IM(u:Nat)(p0:List Int)(s:Unit)(k:Nat)(hn:p0.length<=9223372036854775807)(hk:p0.length < k):nA u k p0 0=Pu.bZ (IL u p0) (A6 u p0) p0 0 s:=Pu.dz (λ(k:Nat) (s:Unit) (i:Int)=>nA u k p0 i) hn (λ_ _ _=>rfl) s hk
def xt(u:Nat)  : Option Bool :=
  some true
def ei(u:Nat)(Iq:Int->af->bH->Option Bool)(x7:Int)(x18:Bool)(p0:af)(p1:bH):Option Bool :=
  bif x18 then (some false) else (Iq (aL .i64 x7 1) p0 p1)
def eK(u dP:Nat)(x7:Int)(p0:af)(p1:bH):Option Bool:=match dP with
  | 0=>none
  | dP+1=>bif decide (x7 < ((p0.aI.length:Int))) then ((fp u p0.aB p0.aT x7).bind λr9=>(cd (cS r9.1 (aL .i64 r9.1 r9.2) p1.cj.length)).bind λ_=>(dT u p1.bl x7).bind λr11=>bif r11 then ((ic u ((p1.cj.take (sY (aL .i64 r9.1 r9.2))).drop (sY r9.1))).bind λr12=>(dm p0.aI x7).bind λy13=>bif !([r12.fW,r12.fS] == [y13.fW,y13.fS]) then (ei u (eK u dP) x7 true p0 p1) else ((dT u p1.bl x7).bind λr14=>bif !r14 then ((od u ((p1.cj.take (sY (aL .i64 r9.1 r9.2))).drop (sY r9.1))).bind λr15=>ei u (eK u dP) x7 (!r15) p0 p1) else (ei u (eK u dP) x7 false p0 p1))) else ((dT u p1.bl x7).bind λr16=>bif !r16 then ((od u ((p1.cj.take (sY (aL .i64 r9.1 r9.2))).drop (sY r9.1))).bind λr17=>ei u (eK u dP) x7 (!r17) p0 p1) else (ei u (eK u dP) x7 false p0 p1))) else (xt u)
def mw(u:Nat)(x5:Bool)(p0:af)(p1:bH):Option Bool :=
  bif x5 then (some false) else (eK u u 0 p0 p1)
def ou(u:Nat)(p0:af)(p1:bH):Option Bool :=
  (iE u p0).bind λr1=>bif !r1 then (mw u true p0 p1) else ((ek u p1.bl).bind λr2=>bif !r2 then (mw u true p0 p1) else ((pm u p0).bind λr3=>(qO u p1.bl r3).bind λr4=>bif r4 != 0 then (mw u true p0 p1) else (mw u (((p1.cj.length:Int)) != p0.aT) p0 p1)))
def GT(u:Nat)(p0:af)(p1:bH)(s:Unit):Option Bool:=(xt u)
def zP(u:Nat)(p0:af)(p1:bH)(i_:Nat)(s:Unit)(k_:Unit->Option Bool):Option Bool:=(fp u p0.aB p0.aT (i_:Int)).bind λr9=>(cd (cS r9.1 (aL .i64 r9.1 r9.2) p1.cj.length)).bind λ_=>(dT u p1.bl (i_:Int)).bind λr11=>bif r11 then ((ic u ((p1.cj.take (sY (aL .i64 r9.1 r9.2))).drop (sY r9.1))).bind λr12=>(dm p0.aI (i_:Int)).bind λy13=>bif !([r12.fW,r12.fS] == [y13.fW,y13.fS]) then (ei u (λz0 z1 z2=>k_ ()) (i_:Int) true p0 p1) else ((dT u p1.bl (i_:Int)).bind λr14=>bif !r14 then ((od u ((p1.cj.take (sY (aL .i64 r9.1 r9.2))).drop (sY r9.1))).bind λr15=>ei u (λz0 z1 z2=>k_ ()) (i_:Int) (!r15) p0 p1) else (ei u (λz0 z1 z2=>k_ ()) (i_:Int) false p0 p1))) else ((dT u p1.bl (i_:Int)).bind λr16=>bif !r16 then ((od u ((p1.cj.take (sY (aL .i64 r9.1 r9.2))).drop (sY r9.1))).bind λr17=>ei u (λz0 z1 z2=>k_ ()) (i_:Int) (!r17) p0 p1) else (ei u (λz0 z1 z2=>k_ ()) (i_:Int) false p0 p1))
theorem GU(u:Nat)(p0:af)(p1:bH)(s:Unit)(k:Nat)(hn:(((p0.aI.length:Int)):Int)<=9223372036854775807)(hk:sY (((p0.aI.length:Int))) < k):eK u k 0 p0 p1=Pu.gX (GT u p0 p1) (zP u p0 p1) (sY (((p0.aI.length:Int)))) 0 s:=Pu.kZ (λ(k:Nat) (s:Unit) (i:Int)=>eK u k i p0 p1) hn (λ_ _ _=>rfl) s hk
def qP(u:Nat)(p0:af)(p1:bH):Option Int :=
  (pm u p0).bind λr1=>(qO u r1 p1.bl).bind λr2=>some r2
def yG(u:Nat)(p0:af)(p1:bH):Option Bool :=
  bif p0.aH != 0 then ((ou u p0 p1).bind λr1=>bif r1 then ((qP u p0 p1).bind λr2=>some (r2 == 0)) else (some false)) else (some false)
def po(u:Nat)(p0:dq):Option Bool :=
  (bF u p0.aH 0 1000000).bind λr1=>bif r1 then ((bF u p0.b8 0 1).bind λr2=>bif r2 then ((bF u p0.aT 0 240).bind λr3=>some r3) else (some false)) else (some false)
def tP(u:Nat)(p0:aC)(p1:Int):Option ((List Int)) :=
  bif p1 == 1 then (some p0.fB) else (some p0.fA)
def tB(u:Nat)(p0:dv):Option Bool :=
  bif p0.mi == 2 then (bif p0.Di == 0 then (bif ((p0.fB.length:Int)) == 0 then ((po u p0.fR).bind λr1=>some r1) else (some false)) else (some false)) else ((bF u p0.mi 0 1).bind λr2=>bif r2 then ((bF u p0.Di 0 240).bind λr3=>bif r3 then (bif decide (((p0.fB.length:Int))<=(cG .i64 240 p0.Di)) then (some ([p0.fR.aH,p0.fR.b8,p0.fR.aT] == [0,0,0])) else (some false)) else (some false)) else (some false))
def yH(u:Nat)  : Option Bool :=
  some true
def lR(u lF:Nat)(x5:Int)(p0:aC):Option Bool:=match lF with
  | 0=>none
  | lF+1=>bif decide (x5 < ((p0.fP.length:Int))) then ((dm p0.fP x5).bind λy7=>(tB u y7).bind λr8=>bif !r8 then (some false) else ((lR u lF) (aL .i64 x5 1) p0)) else (yH u)
def lS(u:Nat)(x3:Bool)(p0:aC):Option Bool :=
  bif x3 then (some false) else (lR u u 0 p0)
def k8(u:Nat)(p0:aC):Option Bool :=
  bif decide (((p0.fA.length:Int)) > 240) then (lS u true p0) else (bif decide (((p0.fB.length:Int)) > 240) then (lS u true p0) else ((po u p0.fR).bind λr1=>bif !r1 then (lS u true p0) else ((tP u p0 p0.fR.b8).bind λr2=>bif decide (p0.fR.aT > ((r2.length:Int))) then (lS u true p0) else (lS u (decide (((p0.fP.length:Int)) > 200)) p0))))
def A7(u:Nat)(p0:aC)(s:Unit):Option Bool:=(yH u)
def vI(u:Nat)(p0:aC)(y7:dv)(i_:Nat)(s:Unit)(k_:Unit->Option Bool):Option Bool:=(tB u y7).bind λr8=>bif !r8 then (some false) else ((λz0 z1=>k_ ()) (aL .i64 (i_:Int) 1) p0)
theorem IN(u:Nat)(p0:aC)(s:Unit)(k:Nat)(hn:p0.fP.length<=9223372036854775807)(hk:p0.fP.length < k):lR u k 0 p0=Pu.bZ (A7 u p0) (vI u p0) p0.fP 0 s:=Pu.dz (λ(k:Nat) (s:Unit) (i:Int)=>lR u k i p0) hn (λ_ _ _=>rfl) s hk
def yI(u:Nat)(p0:aC):Option Int :=
  some (cG .i64 1 p0.fR.b8)
def ov(u:Nat)(p0:aC)(p1:dv):Option (aC×Bool) :=
  (d9 u p0).bind λr1=>(gH u p1).bind λr2=>(cd (decide ((r1.fP.length+([r2]).length)*64<=140737488355328))).bind λ_=>(k8 u ((aC.mk r1.fA r1.fB r1.fR (r1.fP++([r2]))))).bind λr4=>bif !r4 then ((d9 u p0).bind λr5=>some ((r5,false))) else (some (((aC.mk r1.fA r1.fB r1.fR (r1.fP++([r2]))),true)))
def rO(u:Nat)(p0:aC)(p1 p2:Int)(p3:List Int):Option (aC×Bool) :=
  (bF u p1 0 1).bind λr1=>bif !r1 then ((d9 u p0).bind λr2=>some ((r2,false))) else ((ov u p0 ((dv.mk p1 p2 p3 ((dq.mk 0 0 0))))).bind λr3=>some ((r3.1,r3.2)))
def A8(u:Nat)(x32 x33:List Int)(x34 x35 x36:Int)(x37:List dv):Option (aC×Bool) :=
  some (((aC.mk x32 x33 ((dq.mk x34 x35 x36)) x37),true))
def jk(u jC:Nat)(p1:List Int)(p2 x12:Int)(x13 x14:List Int)(x15 x16 x17:Int)(x18:List dv)(p0:aC):Option (aC×Bool):=match jC with
  | 0=>none
  | jC+1=>(mK u p2 ((p1.length:Int))).bind λr26=>bif decide (x12 < r26) then ((fp u p2 ((p1.length:Int)) x12).bind λr27=>(kW u p1 p2 x12).bind λr28=>(yI u p0).bind λr29=>(rO u ((aC.mk x13 x14 ((dq.mk x15 x16 x17)) x18)) r29 r27.1 r28.1).bind λr30=>bif !r30.2 then ((d9 u p0).bind λr31=>some ((r31,false))) else ((jk u jC) p1 p2 (aL .i64 x12 1) r30.1.fA r30.1.fB r30.1.fR.aH r30.1.fR.b8 r30.1.fR.aT r30.1.fP p0)) else (A8 u x13 x14 x15 x16 x17 x18)
def nB(u:Nat)(p1:List Int)(p2:Int)(x4:Bool)(r1 p0:aC):Option (aC×Bool) :=
  bif x4 then (some ((r1,false))) else (jk u u p1 p2 0 r1.fA r1.fB r1.fR.aH r1.fR.b8 r1.fR.aT r1.fP p0)
def rP(u:Nat)(p0:aC)(p1:List Int)(p2:Int):Option (aC×Bool) :=
  (d9 u p0).bind λr1=>(k8 u p0).bind λr2=>bif !r2 then (nB u p1 p2 true r1 p0) else (bif decide (((p0.fP.length:Int)) > 0) then (nB u p1 p2 true r1 p0) else ((mJ u p2 ((p1.length:Int))).bind λr3=>nB u p1 p2 (!r3) r1 p0))
def rQ(u:Nat)(x14:List Int):Option ((List Int)) :=
  some x14
def k9(u hP:Nat)(p1:Int)(p2 x8:List Int)(x9:Int):Option ((List Int)):=match hP with
  | 0=>none
  | hP+1=>bif decide (x9 < ((p2.length:Int))) then ((dm p2 x9).bind λy12=>(dm x8 (aL .i64 p1 x9)).bind λy13=>(k9 u hP) p1 p2 (x8.set (sY (aL .i64 p1 x9)) y12) (aL .i64 x9 1)) else (rQ u x8)
def rS(u:Nat)(p1:Int)(p2 x5:List Int):Option ((List Int)) :=
  k9 u u p1 p2 x5 0
def m0(u hZ:Nat)(p1:Int)(p2 x3:List Int):Option ((List Int)):=match hZ with
  | 0=>none
  | hZ+1=>bif decide (((x3.length:Int)) < (aL .i64 p1 ((p2.length:Int)))) then ((cd (decide ((x3.length+(([0]:List Int)).length)*1<=140737488355328))).bind λ_=>(m0 u hZ) p1 p2 (x3++(([0]:List Int)))) else (rS u p1 p2 x3)
def pX(u:Nat)(p0:List Int)(p1:Int)(p2:List Int):Option ((List Int)) :=
  (cd (decide (((([]:List Int)).length+p0.length)*1<=140737488355328))).bind λ_=>m0 u u p1 p2 ((([]:List Int))++p0)
def xu(u:Nat)(p1:Int)(p2:List Int)(s:(List Int)):Option ((List Int)):=(rQ u s)
def xv(u:Nat)(p1:Int)(p2:List Int)(y12:Int)(i_:Nat)(s:(List Int))(k_:((List Int))->Option ((List Int))):Option ((List Int)):=(dm s (aL .i64 p1 (i_:Int))).bind λy13=>(λz0 z1 z2 z3=>k_ z2) p1 p2 (s.set (sY (aL .i64 p1 (i_:Int))) y12) (aL .i64 (i_:Int) 1)
theorem KP(u:Nat)(p1:Int)(p2:List Int)(s:(List Int))(k:Nat)(hn:p2.length<=9223372036854775807)(hk:p2.length < k):k9 u k p1 p2 s 0=Pu.bZ (xu u p1 p2) (xv u p1 p2) p2 0 s:=Pu.dz (λ(k:Nat) (s:(List Int)) (i:Int)=>k9 u k p1 p2 s i) hn (λ_ _ _=>rfl) s hk
def nC(u:Nat)(x5 x6:List Int)(x7 x8 x9:Int)(r1:aC):Option aC :=
  some ((aC.mk x5 x6 ((dq.mk x7 x8 x9)) r1.fP))
def jW(u:Nat)(p0:aC)(p1:dv):Option aC :=
  (d9 u p0).bind λr1=>(tB u p1).bind λr2=>bif !r2 then (nC u r1.fA r1.fB r1.fR.aH r1.fR.b8 r1.fR.aT r1) else (bif p1.mi == 0 then ((pX u p0.fA p1.Di p1.fB).bind λr3=>nC u r3 r1.fB r1.fR.aH r1.fR.b8 r1.fR.aT r1) else (bif p1.mi == 1 then ((pX u p0.fB p1.Di p1.fB).bind λr4=>nC u r1.fA r4 r1.fR.aH r1.fR.b8 r1.fR.aT r1) else (nC u r1.fA r1.fB p1.fR.aH p1.fR.b8 p1.fR.aT r1)))
def yd(u:Nat)(x26 x27:List Int)(x28 x29 x30:Int)(x31:List dv):Option aC :=
  some ((aC.mk x26 x27 ((dq.mk x28 x29 x30)) (([]:List dv))))
def mO(u iP:Nat)(x10:Int)(p0:aC)(x11 x12:List Int)(x13 x14 x15:Int)(x16:List dv):Option aC:=match iP with
  | 0=>none
  | iP+1=>bif decide (x10 < ((p0.fP.length:Int))) then ((dm p0.fP x10).bind λy24=>(jW u ((aC.mk x11 x12 ((dq.mk x13 x14 x15)) x16)) y24).bind λr25=>(mO u iP) (aL .i64 x10 1) p0 r25.fA r25.fB r25.fR.aH r25.fR.b8 r25.fR.aT r25.fP) else (yd u x11 x12 x13 x14 x15 x16)
def qQ(u:Nat)(p0:aC):Option aC :=
  (d9 u p0).bind λr1=>(k8 u p0).bind λr2=>bif !r2 then (some r1) else (mO u u 0 p0 r1.fA r1.fB r1.fR.aH r1.fR.b8 r1.fR.aT r1.fP)
def yJ(u:Nat)(p0:aC)(s:(List Int)×(List Int)×Int×Int×Int×(List dv)):Option aC:=(yd u s.1 s.2.1 s.2.2.1 s.2.2.2.1 s.2.2.2.2.1 s.2.2.2.2.2)
def yK(u:Nat)(p0:aC)(y24:dv)(i_:Nat)(s:(List Int)×(List Int)×Int×Int×Int×(List dv))(k_:((List Int)×(List Int)×Int×Int×Int×(List dv))->Option aC):Option aC:=(jW u ((aC.mk s.1 s.2.1 ((dq.mk s.2.2.1 s.2.2.2.1 s.2.2.2.2.1)) s.2.2.2.2.2)) y24).bind λr25=>(λz0 z1 z2 z3 z4 z5 z6 z7=>k_ (z2,z3,z4,z5,z6,z7)) (aL .i64 (i_:Int) 1) p0 r25.fA r25.fB r25.fR.aH r25.fR.b8 r25.fR.aT r25.fP
theorem Mu(u:Nat)(p0:aC)(s:(List Int)×(List Int)×Int×Int×Int×(List dv))(k:Nat)(hn:p0.fP.length<=9223372036854775807)(hk:p0.fP.length < k):mO u k 0 p0 s.1 s.2.1 s.2.2.1 s.2.2.2.1 s.2.2.2.2.1 s.2.2.2.2.2=Pu.bZ (yJ u p0) (yK u p0) p0.fP 0 s:=Pu.dz (λ(k:Nat) (s:(List Int)×(List Int)×Int×Int×Int×(List dv)) (i:Int)=>mO u k i p0 s.1 s.2.1 s.2.2.1 s.2.2.2.1 s.2.2.2.2.1 s.2.2.2.2.2) hn (λ_ _ _=>rfl) s hk
def pY(u:Nat)(p0:aC)(p1:dq):Option (aC×Bool) :=
  (ov u p0 ((dv.mk 2 0 ([]) p1))).bind λr1=>some ((r1.1,r1.2))
def jl(u:Nat)(p3:Int)(p0:aC):Option (aC×Int) :=
  (d9 u p0).bind λr7=>some ((r7,p3))
def oV(u:Nat)(p0:aC)(p1:af)(p2:bH)(p3:Int):Option (aC×Int) :=
  bif p3 == 1 then ((yG u p1 p2).bind λr1=>bif r1 then ((rP u p0 p2.cj p1.aB).bind λr2=>bif r2.2 then (some ((r2.1,2))) else (jl u p3 p0)) else (jl u p3 p0)) else (bif p3 == 2 then ((qQ u p0).bind λr3=>some ((r3,3))) else (bif p3 == 3 then ((yI u p0).bind λr4=>(pY u p0 ((dq.mk p1.aH r4 p1.aT))).bind λr5=>bif r5.2 then (some ((r5.1,4))) else (jl u p3 p0)) else (bif p3 == 4 then ((qQ u p0).bind λr6=>some ((r6,5))) else (jl u p3 p0))))
def wF(u:Nat)(p0:aG):Option Int :=
  bif p0.bh == 0 then (some 0) else ((qP u p0.ay p0.bw).bind λr1=>some r1)
def sU(u:Nat)(x14:Int):Option Int :=
  some x14
def sV(u:Nat)(pH:Int->Int->Int->Int->Option Int)(p0 x12:Int)(x13 x6:Int):Option Int :=
  pH p0 x12 x13 (aL .i64 x6 1)
def oX(u:Nat)(pH:Int->Int->Int->Int->Option Int)(p0 x4:Int)(x5 x6:Int)(x10:Bool):Option Int :=
  bif x10 then ((dT u p0 x6).bind λr11=>bif r11 then ((cd (decide (0<=x6))).bind λ_=>sV u pH p0 (cG .i64 x4 1) (tZ .i64 x5 (il .i64 1 x6)) x6) else (sV u pH p0 x4 x5 x6)) else (sU u x5)
def fE(u fd:Nat)(p0 x4:Int)(x5 x6:Int):Option Int:=match fd with
  | 0=>none
  | fd+1=>bif decide (x6 < 40) then (oX u (fE u fd) p0 x4 x5 x6 (decide (x4 > 0))) else (oX u (fE u fd) p0 x4 x5 x6 false)
def ut(u:Nat)(p0 p1:Int):Option Int :=
  fE u u p0 p1 0 0
def wG(u:Nat)(p0:aG)(p1:Int):Option Int :=
  (wF u p0).bind λr1=>(ut u r1 p1).bind λr2=>some r2
def yL(u:Nat)(x11:Int):Option Int :=
  some x11
def nD(u:Nat)(Kb:(List bS)->Int->Int->Option Int)(p0:List bS)(x10 x4:Int):Option Int :=
  Kb p0 x10 (aL .i64 x4 1)
def jX(u iw:Nat)(p0:List bS)(x3 x4:Int):Option Int:=match iw with
  | 0=>none
  | iw+1=>bif decide (x4 < ((p0.length:Int))) then ((dm p0 x4).bind λy7=>(ek u y7.bW).bind λr8=>bif r8 then ((dm p0 x4).bind λy9=>nD u (jX u iw) p0 (tZ .i64 x3 y9.bW) x4) else (nD u (jX u iw) p0 x3 x4)) else (yL u x3)
def wH(u:Nat)(p0:List bS):Option Int :=
  jX u u p0 0 0
def A9(u:Nat)(p0:List bS)(s:Int):Option Int:=(yL u s)
def vJ(u:Nat)(p0:List bS)(y7:bS)(i_:Nat)(s:Int)(k_:Int->Option Int):Option Int:=(ek u y7.bW).bind λr8=>bif r8 then ((dm p0 (i_:Int)).bind λy9=>nD u (λz0 z1 z2=>k_ z1) p0 (tZ .i64 s y9.bW) (i_:Int)) else (nD u (λz0 z1 z2=>k_ z1) p0 s (i_:Int))
theorem IP(u:Nat)(p0:List bS)(s:Int)(k:Nat)(hn:p0.length<=9223372036854775807)(hk:p0.length < k):jX u k p0 s 0=Pu.bZ (A9 u p0) (vJ u p0) p0 0 s:=Pu.dz (λ(k:Nat) (s i:Int)=>jX u k p0 s i) hn (λ_ _ _=>rfl) s hk
def sW(u:Nat)(x3:Int):Option Int :=
  some x3
def uv(u:Nat)(p0:aG)(p1:Int):Option Int :=
  (wH u p0.aZ).bind λr1=>bif p0.bh == 5 then ((iB u r1 p1).bind λr2=>sW u r2) else (sW u r1)
def ep(u:Nat)(p0 p1:Int)(p2:dW):Option ak :=
  (oc u p2).bind λr1=>some ((ak.mk p0 p1 r1))
def uw(u:Nat)(p2:Int)(p1:iW)(p4:aC)(r1:aG)(x5 x6:Int)(r3:(List bS))(r2:aC):Option Iz :=
  (oV u p4 r1.ay r1.bw r1.bh).bind λr7=>(wG u ((aG.mk r1.ia x5 x6 r1.ay r1.bw r7.2 r3 r1.bg)) p1.bc).bind λr8=>(uv u ((aG.mk r1.ia x5 x6 r1.ay r1.bw r7.2 r3 r1.bg)) p2).bind λr9=>(ul u r1.ay.aH r8 r9).bind λr10=>(ep u p2 x5 r10).bind λr11=>(cd (decide (((([]:List ak)).length+([r11]).length)*40<=140737488355328))).bind λ_=>some ((Iz.mk ((aG.mk r1.ia x5 x6 r1.ay r1.bw r7.2 r3 r1.bg)) r7.1 ((([]:List ak))++([r11]))))
def Ba(u:Nat)(p0:c9)(p1:iW)(p2:Int)(p3:aG)(p4:aC):Option Iz :=
  (dC u p3).bind λr1=>(d9 u p4).bind λr2=>bif !p3.ia then (some ((Iz.mk r1 r2 (([]:List ak))))) else ((wC u p3.aZ p1.aY).bind λr3=>bif p2 == 0 then (some ((Iz.mk ((aG.mk r1.ia r1.bD r1.bI r1.ay r1.bw r1.bh r3 r1.bg)) r2 (([]:List ak))))) else (bif decide (r1.bI>=p1.aU) then ((rN u p0 p2 p3.bD).bind λr4=>uw u p2 p1 p4 r1 r4 0 r3 r2) else (uw u p2 p1 p4 r1 r1.bD (aL .i64 r1.bI 1) r3 r2)))
def gT(u:Nat)(pJ:(List ak)->Int->World->(List ak)->(List dZ)->Int->Option World)(p1:List ak)(x5:Int)(p0:World)(x23:List ak)(x24:List dZ)(x25:Int):Option World :=
  pJ p1 (aL .i64 x5 1) p0 x23 x24 x25
def fF(u:Nat)(pJ:(List ak)->Int->World->(List ak)->(List dZ)->Int->Option World)(p1:List ak)(x5:Int)(x20:Bool)(p0:World)(x6:List ak)(y13 y14 y15:ak)(x7:List dZ)(x8:Int)(r19:dW×Bool):Option World :=
  bif x20 then ((dm p1 x5).bind λy21=>(dm p1 x5).bind λy22=>(cd (decide ((x7.length+([(dZ.mk y21.cQ y22.rB r19.1.fI)]).length)*24<=140737488355328))).bind λ_=>gT u pJ p1 x5 p0 (x6++([(ak.mk y13.cQ y14.rB ((([]:List Int))++y15.fB))])) (x7++([(dZ.mk y21.cQ y22.rB r19.1.fI)])) x8) else (gT u pJ p1 x5 p0 (x6++([(ak.mk y13.cQ y14.rB ((([]:List Int))++y15.fB))])) x7 x8)
def cT(u dQ:Nat)(p1:List ak)(x5:Int)(p0:World)(x6:List ak)(x7:List dZ)(x8:Int):Option World:=match dQ with
  | 0=>none
  | dQ+1=>bif decide (x5 < ((p1.length:Int))) then (bif decide (((x6.length:Int))>=400) then (gT u (cT u dQ) p1 x5 p0 x6 x7 (aL .i64 x8 1)) else ((dm p1 x5).bind λy13=>(dm p1 x5).bind λy14=>(dm p1 x5).bind λy15=>(cd (decide (((([]:List Int)).length+y15.fB.length)*1<=140737488355328))).bind λ_=>(cd (decide ((x6.length+([(ak.mk y13.cQ y14.rB ((([]:List Int))++y15.fB))]).length)*40<=140737488355328))).bind λ_=>(dm p1 x5).bind λy18=>(jU u y18.fB).bind λr19=>bif r19.2 then (bif r19.1.ba == 3 then (fF u (cT u dQ) p1 x5 (decide (((x7.length:Int)) < 3000)) p0 x6 y13 y14 y15 x7 x8 r19) else (fF u (cT u dQ) p1 x5 false p0 x6 y13 y14 y15 x7 x8 r19)) else (fF u (cT u dQ) p1 x5 false p0 x6 y13 y14 y15 x7 x8 r19))) else (some ((World.mk p0.fC p0.fT p0.ct p0.ca p0.fN p0.fD x6 x7 x8)))
def qR(u:Nat)(p0:World)(p1:List ak):Option World :=
  cT u u p1 0 p0 p0.br p0.dB p0.bC
def GV(u:Nat)(p1:List ak)(p0:World)(s:(List ak)×(List dZ)×Int):Option World:=(some ((World.mk p0.fC p0.fT p0.ct p0.ca p0.fN p0.fD s.1 s.2.1 s.2.2)))
def GW(u:Nat)(p1:List ak)(p0:World)(i_:Nat)(s:(List ak)×(List dZ)×Int)(k_:((List ak)×(List dZ)×Int)->Option World):Option World:=bif decide (((s.1.length:Int))>=400) then (gT u (λz0 z1 z2 z3 z4 z5=>k_ (z3,z4,z5)) p1 (i_:Int) p0 s.1 s.2.1 (aL .i64 s.2.2 1)) else ((dm p1 (i_:Int)).bind λy13=>(dm p1 (i_:Int)).bind λy14=>(dm p1 (i_:Int)).bind λy15=>(cd (decide (((([]:List Int)).length+y15.fB.length)*1<=140737488355328))).bind λ_=>(cd (decide ((s.1.length+([(ak.mk y13.cQ y14.rB ((([]:List Int))++y15.fB))]).length)*40<=140737488355328))).bind λ_=>(dm p1 (i_:Int)).bind λy18=>(jU u y18.fB).bind λr19=>bif r19.2 then (bif r19.1.ba == 3 then (fF u (λz0 z1 z2 z3 z4 z5=>k_ (z3,z4,z5)) p1 (i_:Int) (decide (((s.2.1.length:Int)) < 3000)) p0 s.1 y13 y14 y15 s.2.1 s.2.2 r19) else (fF u (λz0 z1 z2 z3 z4 z5=>k_ (z3,z4,z5)) p1 (i_:Int) false p0 s.1 y13 y14 y15 s.2.1 s.2.2 r19)) else (fF u (λz0 z1 z2 z3 z4 z5=>k_ (z3,z4,z5)) p1 (i_:Int) false p0 s.1 y13 y14 y15 s.2.1 s.2.2 r19))
theorem Vl(u:Nat)(p1:List ak)(p0:World)(s:(List ak)×(List dZ)×Int)(k:Nat)(hn:(((p1.length:Int)):Int)<=9223372036854775807)(hk:sY (((p1.length:Int))) < k):cT u k p1 0 p0 s.1 s.2.1 s.2.2=Pu.gX (GV u p1 p0) (GW u p1 p0) (sY (((p1.length:Int)))) 0 s:=Pu.kZ (λ(k:Nat) (s:(List ak)×(List dZ)×Int) (i:Int)=>cT u k p1 i p0 s.1 s.2.1 s.2.2) hn (λ_ _ _=>rfl) s hk
def oz(u:Nat)(p0:World)(p1:Int):Option World :=
  (dm p0.fN p1).bind λy1=>(dm p0.fD p1).bind λy2=>(Ba u p0.fT p0.fC p1 y1 y2).bind λr3=>(dm p0.fN p1).bind λy4=>(dm p0.fD p1).bind λy5=>(qR u ((World.mk p0.fC p0.fT p0.ct p0.ca (p0.fN.set (sY p1) r3.fN) (p0.fD.set (sY p1) r3.fD) p0.br p0.dB p0.bC)) r3.n5).bind λr6=>some r6
def kX(u:Nat)(p0:aG):Option aG :=
  (dC u p0).bind λr1=>some ((aG.mk r1.ia r1.bD r1.bI r1.ay r1.bw r1.bh r1.aZ (aL .i64 r1.bg 1)))
def AD(u:Nat)  : Option Int :=
  some (-1)
def pp(u mF:Nat)(p0:List bS)(p1 x2:Int):Option Int:=match mF with
  | 0=>none
  | mF+1=>bif decide (x2 < ((p0.length:Int))) then ((dm p0 x2).bind λy4=>bif y4.pN == p1 then (some x2) else ((pp u mF) p0 p1 (aL .i64 x2 1))) else (AD u)
def tD(u:Nat)(p0:List bS)(p1:Int):Option Int :=
  pp u u p0 p1 0
def KQ(u:Nat)(p0:List bS)(p1:Int)(s:Unit):Option Int:=(AD u)
def KR(u:Nat)(p0:List bS)(p1:Int)(y4:bS)(i_:Nat)(s:Unit)(k_:Unit->Option Int):Option Int:=bif y4.pN == p1 then (some (i_:Int)) else ((λz0 z1 z2=>k_ ()) p0 p1 (aL .i64 (i_:Int) 1))
theorem KT(u:Nat)(p0:List bS)(p1:Int)(s:Unit)(k:Nat)(hn:p0.length<=9223372036854775807)(hk:p0.length < k):pp u k p0 p1 0=Pu.bZ (KQ u p0 p1) (KR u p0 p1) p0 0 s:=Pu.dz (λ(k:Nat) (s:Unit) (i:Int)=>pp u k p0 p1 i) hn (λ_ _ _=>rfl) s hk
def ye(u:Nat)(p1 p2 p3:Int)(p0:List bS)(x12:Int):Option ((List bS)) :=
  (cd (cS 0 x12 ((([]:List bS))++p0).length)).bind λ_=>(cd (decide (((([]:List bS)).length+((((([]:List bS))++p0).take (sY x12)).drop (sY 0)).length)*40<=140737488355328))).bind λ_=>(cd (decide ((((([]:List bS))++((((([]:List bS))++p0).take (sY x12)).drop (sY 0))).length+([(bS.mk p1 p2 p3 0 0)]).length)*40<=140737488355328))).bind λ_=>(cd (cS x12 ((((([]:List bS))++p0).length:Int)) ((([]:List bS))++p0).length)).bind λ_=>(cd (decide (((((([]:List bS))++((((([]:List bS))++p0).take (sY x12)).drop (sY 0)))++([(bS.mk p1 p2 p3 0 0)])).length+((((([]:List bS))++p0).take (sY ((((([]:List bS))++p0).length:Int)))).drop (sY x12)).length)*40<=140737488355328))).bind λ_=>some ((((([]:List bS))++((((([]:List bS))++p0).take (sY x12)).drop (sY 0)))++([(bS.mk p1 p2 p3 0 0)]))++((((([]:List bS))++p0).take (sY ((((([]:List bS))++p0).length:Int)))).drop (sY x12)))
def ux(u:Nat)(O5:Int->Int->Int->(List bS)->Int->Option ((List bS)))(p1 p2 p3:Int)(p0:List bS)(x8:Int)(x11:Bool):Option ((List bS)) :=
  bif x11 then (O5 p1 p2 p3 p0 (aL .i64 x8 1)) else (ye u p1 p2 p3 p0 x8)
def kY(u km:Nat)(p1 p2 p3:Int)(p0:List bS)(x8:Int):Option ((List bS)):=match km with
  | 0=>none
  | km+1=>bif decide (x8 < ((((([]:List bS))++p0).length:Int))) then ((dm ((([]:List bS))++p0) x8).bind λy10=>ux u (kY u km) p1 p2 p3 p0 x8 (decide (y10.pN<=p1))) else (ux u (kY u km) p1 p2 p3 p0 x8 false)
def uy(u:Nat)(p0:List bS)(p1 p2 p3:Int)(x5:Bool):Option ((List bS)) :=
  bif x5 then (some ((([]:List bS))++p0)) else ((tD u p0 p1).bind λr6=>bif decide (r6 < 0) then (kY u u p1 p2 p3 p0 0) else ((dm ((([]:List bS))++p0) r6).bind λy11=>(dm ((([]:List bS))++p0) r6).bind λy12=>some (((([]:List bS))++p0).set (sY r6) ((bS.mk y11.pN p2 (tZ .i64 y11.bW p3) 0 y11.pK)))))
def Bb(u:Nat)(p0:List bS)(p1 p2 p3:Int):Option ((List bS)) :=
  (cd (decide (((([]:List bS)).length+p0.length)*40<=140737488355328))).bind λ_=>(bF u p1 0 6).bind λr2=>bif !r2 then (uy u p0 p1 p2 p3 true) else ((ek u p2).bind λr3=>bif !r3 then (uy u p0 p1 p2 p3 true) else ((ek u p3).bind λr4=>uy u p0 p1 p2 p3 (!r4)))
def tQ(u:Nat)(p0:aG):Option Int :=
  some p0.bw.bl
def nE(u:Nat)(p0:List bS)(p2 r1:Int)(x7:Bool):Option Int :=
  bif x7 then (some 0) else ((dm p0 r1).bind λy8=>(dm p0 r1).bind λy9=>some (Mm .i64 (bJ .i64 y8.bQ p2) y9.pK))
def tR(u:Nat)(p0:List bS)(p1 p2:Int):Option Int :=
  (tD u p0 p1).bind λr1=>bif decide (r1 < 0) then (nE u p0 p2 r1 true) else ((ek u p2).bind λr2=>bif !r2 then (nE u p0 p2 r1 true) else ((dm p0 r1).bind λy3=>(ek u y3.bQ).bind λr4=>bif !r4 then (nE u p0 p2 r1 true) else ((dm p0 r1).bind λy5=>(ek u y5.pK).bind λr6=>nE u p0 p2 r1 (!r6))))
def sZ(u:Nat)(x9:List Int):Option ((List Int)) :=
  some x9
def kJ(u:Nat)(Iv:Int->(List Int)->Int->Option ((List Int)))(p0:Int)(x8:List Int)(x4:Int):Option ((List Int)) :=
  Iv p0 x8 (aL .i64 x4 1)
def iZ(u gD:Nat)(p0:Int)(x3:List Int)(x4:Int):Option ((List Int)):=match gD with
  | 0=>none
  | gD+1=>bif decide (x4 < 40) then ((dT u p0 x4).bind λr7=>bif r7 then ((cd (decide ((x3.length+(([x4]:List Int)).length)*8<=140737488355328))).bind λ_=>kJ u (iZ u gD) p0 (x3++(([x4]:List Int))) x4) else (kJ u (iZ u gD) p0 x3 x4)) else (sZ u x3)
def uA(u:Nat)(p0:Int):Option ((List Int)) :=
  iZ u u p0 (([]:List Int)) 0
def zQ(u:Nat)(p0:Int)(s:(List Int)):Option ((List Int)):=(sZ u s)
def zR(u:Nat)(p0:Int)(i_:Nat)(s:(List Int))(k_:((List Int))->Option ((List Int))):Option ((List Int)):=(dT u p0 (i_:Int)).bind λr7=>bif r7 then ((cd (decide ((s.length+(([(i_:Int)]:List Int)).length)*8<=140737488355328))).bind λ_=>kJ u (λz0 z1 z2=>k_ z1) p0 (s++(([(i_:Int)]:List Int))) (i_:Int)) else (kJ u (λz0 z1 z2=>k_ z1) p0 s (i_:Int))
theorem GX(u:Nat)(p0:Int)(s:(List Int))(k:Nat)(hn:(40:Int)<=9223372036854775807)(hk:sY (40) < k):iZ u k p0 s 0=Pu.gX (zQ u p0) (zR u p0) (sY (40)) 0 s:=Pu.kZ (λ(k:Nat) (s:(List Int)) (i:Int)=>iZ u k p0 s i) hn (λ_ _ _=>rfl) s hk
def s4(u:Nat)(p2:Int)(x3:Bool)(p0:af)(p1:bH):Option ((List Int)×Bool) :=
  bif x3 then (some ((([]:List Int),false))) else ((fp u p0.aB p0.aT p2).bind λr4=>(cd (cS r4.1 (aL .i64 r4.1 r4.2) p1.cj.length)).bind λ_=>(cd (decide (((([]:List Int)).length+((p1.cj.take (sY (aL .i64 r4.1 r4.2))).drop (sY r4.1)).length)*1<=140737488355328))).bind λ_=>some (((([]:List Int))++((p1.cj.take (sY (aL .i64 r4.1 r4.2))).drop (sY r4.1)),true)))
def oA(u:Nat)(p0:af)(p1:bH)(p2:Int):Option ((List Int)×Bool) :=
  (ou u p0 p1).bind λr1=>bif !r1 then (s4 u p2 true p0 p1) else ((dT u p1.bl p2).bind λr2=>s4 u p2 (!r2) p0 p1)
def nF(u:Nat)(p2:Int)(p0:List bS)(r2:Int)(x6:Bool):Option ((List bS)) :=
  bif x6 then (some ((([]:List bS))++p0)) else ((dm ((([]:List bS))++p0) r2).bind λy7=>(dm ((([]:List bS))++p0) r2).bind λy8=>some (((([]:List bS))++p0).set (sY r2) ((bS.mk y7.pN y7.bQ y7.bW y7.zF (tZ .i64 y7.pK p2)))))
def pq(u:Nat)(p0:List bS)(p1 p2:Int):Option ((List bS)) :=
  (cd (decide (((([]:List bS)).length+p0.length)*40<=140737488355328))).bind λ_=>(tD u p0 p1).bind λr2=>bif decide (r2 < 0) then (nF u p2 p0 r2 true) else ((ek u p2).bind λr3=>bif !r3 then (nF u p2 p0 r2 true) else ((dm p0 r2).bind λy4=>(ek u y4.pK).bind λr5=>nF u p2 p0 r2 (!r5)))
def pA(u:Nat)(p2 r3:Int)(p0 r1:aG)(x17:List ak):Option Act :=
  (pq u p0.aZ p2 r3).bind λr18=>some ((Act.mk ((aG.mk r1.ia r1.bD r1.bI r1.ay r1.bw r1.bh r18 r1.bg)) x17))
def kp(u:Nat)(E6:Int->Int->Int->((List Int))->Int->aG->aG->(List ak)->Option Act)(p1 p2 r3:Int)(r4:(List Int))(x7:Int)(p0 r1:aG)(x16:List ak):Option Act :=
  E6 p1 p2 r3 r4 (aL .i64 x7 1) p0 r1 x16
def gn(u eU:Nat)(p1 p2 r3:Int)(r4:(List Int))(x7:Int)(p0 r1:aG)(x8:List ak):Option Act:=match eU with
  | 0=>none
  | eU+1=>bif decide (x7 < ((r4.length:Int))) then ((dm r4 x7).bind λy11=>(oA u p0.ay p0.bw y11).bind λr12=>bif r12.2 then ((dm r4 x7).bind λy13=>(mN u p0.ay.aH y13 r12.1).bind λr14=>(ep u p1 p2 r14).bind λr15=>(cd (decide ((x8.length+([r15]).length)*40<=140737488355328))).bind λ_=>kp u (gn u eU) p1 p2 r3 r4 x7 p0 r1 (x8++([r15]))) else (kp u (gn u eU) p1 p2 r3 r4 x7 p0 r1 x8)) else (pA u p2 r3 p0 r1 x8)
def pZ(u:Nat)(p0:aG)(p1 p2:Int):Option Act :=
  (dC u p0).bind λr1=>(tQ u p0).bind λr2=>(tR u p0.aZ p2 r2).bind λr3=>(uA u r3).bind λr4=>gn u u p1 p2 r3 r4 0 p0 r1 (([]:List ak))
def xO(u:Nat)(p1 p2 r3:Int)(r4:(List Int))(p0 r1:aG)(s:(List ak)):Option Act:=(pA u p2 r3 p0 r1 s)
def xP(u:Nat)(p1 p2 r3:Int)(r4:(List Int))(p0 r1:aG)(y11:Int)(i_:Nat)(s:(List ak))(k_:((List ak))->Option Act):Option Act:=(oA u p0.ay p0.bw y11).bind λr12=>bif r12.2 then ((dm r4 (i_:Int)).bind λy13=>(mN u p0.ay.aH y13 r12.1).bind λr14=>(ep u p1 p2 r14).bind λr15=>(cd (decide ((s.length+([r15]).length)*40<=140737488355328))).bind λ_=>kp u (λz0 z1 z2 z3 z4 z5 z6 z7=>k_ z7) p1 p2 r3 r4 (i_:Int) p0 r1 (s++([r15]))) else (kp u (λz0 z1 z2 z3 z4 z5 z6 z7=>k_ z7) p1 p2 r3 r4 (i_:Int) p0 r1 s)
theorem EQ(u:Nat)(p1 p2 r3:Int)(r4:(List Int))(p0 r1:aG)(s:(List ak))(k:Nat)(hn:r4.length<=9223372036854775807)(hk:r4.length < k):gn u k p1 p2 r3 r4 0 p0 r1 s=Pu.bZ (xO u p1 p2 r3 r4 p0 r1) (xP u p1 p2 r3 r4 p0 r1) r4 0 s:=Pu.dz (λ(k:Nat) (s:(List ak)) (i:Int)=>gn u k p1 p2 r3 r4 i p0 r1 s) hn (λ_ _ _=>rfl) s hk
def oB(u:Nat)(r1:aG)(r2:(List bS))(x10:List ak):Option Act :=
  some ((Act.mk ((aG.mk r1.ia r1.bD r1.bI r1.ay r1.bw r1.bh r2 r1.bg)) x10))
def oC(u:Nat)(r1:aG)(r2:(List bS))(r7:Act)(x9:List ak):Option Act :=
  some ((Act.mk r7.fN x9))
def oY(u:Nat)(p0:aG)(p1 p2:Int)(p3:dW):Option Act :=
  (dC u p0).bind λr1=>bif p2 == p1 then (some ((Act.mk r1 (([]:List ak))))) else ((Bb u p0.aZ p2 p3.bQ p3.bW).bind λr2=>bif p0.bh == 0 then ((ep u p1 p2 ((dW.mk 4 0 ((af.mk 0 0 0 ([]))) 0 0 0 ([])))).bind λr3=>(cd (decide (((([]:List ak)).length+([r3]).length)*40<=140737488355328))).bind λ_=>oB u r1 r2 ((([]:List ak))++([r3]))) else (bif p3.aH != p0.ay.aH then ((ep u p1 p2 ((dW.mk 1 0 p0.ay 0 0 0 ([])))).bind λr5=>(cd (decide (((([]:List ak)).length+([r5]).length)*40<=140737488355328))).bind λ_=>oB u r1 r2 ((([]:List ak))++([r5]))) else ((pZ u ((aG.mk r1.ia r1.bD r1.bI r1.ay r1.bw r1.bh r2 r1.bg)) p1 p2).bind λr7=>bif ((r7.n5.length:Int)) == 0 then ((ep u p1 p2 ((dW.mk 4 p0.ay.aH ((af.mk 0 0 0 ([]))) 0 0 0 ([])))).bind λr8=>(cd (decide ((r7.n5.length+([r8]).length)*40<=140737488355328))).bind λ_=>oC u r1 r2 r7 (r7.n5++([r8]))) else (oC u r1 r2 r7 r7.n5))))
def qS(u:Nat)(p0:aC):Option (Int×(List Int)) :=
  (k8 u p0).bind λr1=>bif !r1 then (some ((0,([]:List Int)))) else ((tP u p0 p0.fR.b8).bind λr2=>(cd (cS 0 p0.fR.aT r2.length)).bind λ_=>(cd (decide (((([]:List Int)).length+((r2.take (sY p0.fR.aT)).drop (sY 0)).length)*1<=140737488355328))).bind λ_=>some ((p0.fR.aH,(([]:List Int))++((r2.take (sY p0.fR.aT)).drop (sY 0)))))
def s5(u:Nat)(r1:aG)(r7:af)(r8:bH)(x11:Int):Option aG :=
  some ((aG.mk r1.ia r1.bD r1.bI r7 r8 x11 r1.aZ r1.bg))
def s6(u:Nat)(x10:Bool)(r1:aG)(r7:af)(r8:bH):Option aG :=
  bif x10 then (s5 u r1 r7 r8 5) else (s5 u r1 r7 r8 1)
def s7(u:Nat)(x5:Bool)(p1:aC)(p2:af)(r1:aG):Option aG :=
  bif x5 then (some r1) else ((qS u p1).bind λr6=>(mL u p2).bind λr7=>(nm u p2 r6.2).bind λr8=>bif r6.1 == p2.aH then ((vC u p2 r6.2).bind λr9=>s6 u r9 r1 r7 r8) else (s6 u false r1 r7 r8))
def uB(u:Nat)(p0:aG)(p1:aC)(p2:af):Option aG :=
  (dC u p0).bind λr1=>bif p0.bh != 0 then ((qH u p0.ay p2).bind λr2=>bif !r2 then ((kX u p0).bind λr3=>some r3) else (some r1)) else ((iE u p2).bind λr4=>bif !r4 then (s7 u true p1 p2 r1) else (s7 u (p2.aH == 0) p1 p2 r1))
def qT(u:Nat)(x4:Bool)(x5:Int)(x6:List Int):Option (bH×Bool) :=
  bif x4 then (some (((bH.mk x5 x6),false))) else (some (((bH.mk x5 x6),true)))
def rT(u:Nat)(p0:af)(p1:bH)(p2:Int)(p3:List Int):Option (bH×Bool) :=
  (oa u p1).bind λr1=>(ou u p0 p1).bind λr2=>bif !r2 then (qT u true r1.bl r1.cj) else ((tx u p0 r1 p2 p3).bind λr3=>qT u (!r3.1) r3.2.bl r3.2.cj)
def s8(u:Nat)(r1:aG)(x24:List bS)(x25:List ak):Option Act :=
  some ((Act.mk ((aG.mk r1.ia r1.bD r1.bI r1.ay r1.bw r1.bh x24 r1.bg)) x25))
def s9(u:Nat)(pI:Int->Int->((List Int)×Bool)->Int->aG->aG->(List bS)->(List ak)->Option Act)(p1 p2:Int)(r2:(List Int)×Bool)(x6:Int)(p0 r1:aG)(x22:List bS)(x23:List ak):Option Act :=
  pI p1 p2 r2 (aL .i64 x6 1) p0 r1 x22 x23
def mx(u:Nat)(pI:Int->Int->((List Int)×Bool)->Int->aG->aG->(List bS)->(List ak)->Option Act)(p1 p2:Int)(r2:(List Int)×Bool)(x6:Int)(x12:Bool)(p0 r1:aG)(x7:List bS)(x8:List ak):Option Act :=
  bif x12 then ((dm p0.aZ x6).bind λy13=>(tQ u p0).bind λr14=>(tR u x7 y13.pN r14).bind λr15=>(dT u r15 p2).bind λr16=>bif r16 then ((mN u p0.ay.aH p2 r2.1).bind λr17=>(ep u p1 y13.pN r17).bind λr18=>(cd (decide ((x8.length+([r18]).length)*40<=140737488355328))).bind λ_=>(iB u 0 p2).bind λr20=>(pq u x7 y13.pN r20).bind λr21=>s9 u pI p1 p2 r2 x6 p0 r1 r21 (x8++([r18]))) else (s9 u pI p1 p2 r2 x6 p0 r1 x7 x8)) else (s8 u r1 x7 x8)
def eL(u fe:Nat)(p1 p2:Int)(r2:(List Int)×Bool)(x6:Int)(p0 r1:aG)(x7:List bS)(x8:List ak):Option Act:=match fe with
  | 0=>none
  | fe+1=>bif decide (x6 < ((p0.aZ.length:Int))) then (mx u (eL u fe) p1 p2 r2 x6 r2.2 p0 r1 x7 x8) else (mx u (eL u fe) p1 p2 r2 x6 false p0 r1 x7 x8)
def uC(u:Nat)(p0:aG)(p1 p2:Int):Option Act :=
  (dC u p0).bind λr1=>(oA u p0.ay p0.bw p2).bind λr2=>eL u u p1 p2 r2 0 p0 r1 r1.aZ (([]:List ak))
def qU(u:Nat)(p1:Int)(x1:Bool)(p0:aG)(p2:dW):Option Act :=
  bif x1 then ((kX u p0).bind λr2=>some ((Act.mk r2 (([]:List ak))))) else ((dT u p0.bw.bl p2.fI).bind λr3=>bif r3 then ((dC u p0).bind λr4=>some ((Act.mk r4 (([]:List ak))))) else ((rT u p0.ay p0.bw p2.fI p2.fB).bind λr5=>bif !r5.2 then ((kX u p0).bind λr6=>some ((Act.mk r6 (([]:List ak))))) else ((dC u p0).bind λr7=>(uC u ((aG.mk r7.ia r7.bD r7.bI r7.ay r5.1 r7.bh r7.aZ r7.bg)) p1 p2.fI).bind λr8=>some r8)))
def rU(u:Nat)(p0:aG)(p1:Int)(p2:dW):Option Act :=
  bif p0.bh == 0 then (qU u p1 true p0 p2) else (qU u p1 (p2.aH != p0.ay.aH) p0 p2)
def nG(u:Nat)(x4:Bool)(x5 x6:Int)(x7 x8 x9:Int)(x10:List cC)(x11:Int)(x12:List Int)(x13:Int)(x14:List bS)(x15:Int):Option Act :=
  some ((Act.mk ((aG.mk x4 x5 x6 ((af.mk x7 x8 x9 x10)) ((bH.mk x11 x12)) x13 x14 x15)) (([]:List ak))))
def rV(u:Nat)(p0:aG)(p1:Int)(p2:aC)(p3:dW):Option Act :=
  (dC u p0).bind λr1=>bif p3.ba == 1 then ((uB u ((aG.mk r1.ia r1.bD 0 r1.ay r1.bw r1.bh r1.aZ r1.bg)) p2 p3.ay).bind λr2=>nG u r2.ia r2.bD r2.bI r2.ay.aH r2.ay.aB r2.ay.aT r2.ay.aI r2.bw.bl r2.bw.cj r2.bh r2.aZ r2.bg) else (bif p3.ba == 3 then ((rU u ((aG.mk r1.ia r1.bD 0 r1.ay r1.bw r1.bh r1.aZ r1.bg)) p1 p3).bind λr3=>some r3) else (bif p3.ba == 2 then (nG u r1.ia r1.bD 0 r1.ay.aH r1.ay.aB r1.ay.aT r1.ay.aI r1.bw.bl r1.bw.cj r1.bh r1.aZ (aL .i64 r1.bg 1)) else (nG u r1.ia r1.bD 0 r1.ay.aH r1.ay.aB r1.ay.aT r1.ay.aI r1.bw.bl r1.bw.cj r1.bh r1.aZ r1.bg)))
def uD(u:Nat)(p1:Int)(x4:Bool)(p2:aG)(p3:aC)(p4:ak)(r2:dW×Bool):Option Act :=
  bif x4 then ((kX u p2).bind λr5=>some ((Act.mk r5 (([]:List ak))))) else (bif r2.1.ba == 2 then ((oY u p2 p1 p4.cQ r2.1).bind λr6=>some r6) else (bif p4.cQ == p2.bD then ((rV u p2 p1 p3 r2.1).bind λr7=>some r7) else ((kX u p2).bind λr8=>some ((Act.mk r8 (([]:List ak)))))))
def Bc(u:Nat)(p0:c9)(p1:Int)(p2:aG)(p3:aC)(p4:ak):Option Act :=
  bif !p2.ia then ((dC u p2).bind λr1=>some ((Act.mk r1 (([]:List ak))))) else ((jU u p4.fB).bind λr2=>bif !r2.2 then (uD u p1 true p2 p3 p4 r2) else ((bF u p4.cQ 0 (cG .i64 ((p0.cy.length:Int)) 1)).bind λr3=>bif !r3 then (uD u p1 true p2 p3 p4 r2) else (uD u p1 (p4.cQ == p1) p2 p3 p4 r2)))
def oD(u:Nat)(p0:World)(p1:Int):Option World :=
  (dm p0.br p1).bind λy1=>(cd (cS 0 p1 p0.br.length)).bind λ_=>(cd (decide (((([]:List ak)).length+((p0.br.take (sY p1)).drop (sY 0)).length)*40<=140737488355328))).bind λ_=>(cd (cS (aL .i64 p1 1) ((p0.br.length:Int)) p0.br.length)).bind λ_=>(cd (decide ((((([]:List ak))++((p0.br.take (sY p1)).drop (sY 0))).length+((p0.br.take (sY ((p0.br.length:Int)))).drop (sY (aL .i64 p1 1))).length)*40<=140737488355328))).bind λ_=>(dm p0.fN y1.rB).bind λy6=>(dm p0.fD y1.rB).bind λy7=>(Bc u p0.fT y1.rB y6 y7 y1).bind λr8=>(dm p0.fN y1.rB).bind λy9=>(qR u ((World.mk p0.fC p0.fT p0.ct p0.ca (p0.fN.set (sY y1.rB) r8.fN) p0.fD (((([]:List ak))++((p0.br.take (sY p1)).drop (sY 0)))++((p0.br.take (sY ((p0.br.length:Int)))).drop (sY (aL .i64 p1 1)))) p0.dB p0.bC)) r8.n5).bind λr10=>some r10
def AE(u:Nat)(p0:aG):Option aG :=
  some ((aG.mk false 0 0 ((af.mk 0 0 0 ([]))) ((bH.mk 0 ([]))) 0 ([]) 0))
def BV(u:Nat)(x33 x34:List Int)(x35 x36 x37:Int)(x38:List dv):Option aC :=
  some ((aC.mk x33 x34 ((dq.mk x35 x36 x37)) (([]:List dv))))
def qV(u:Nat)(O4:Int->Int->aC->(List Int)->(List Int)->Int->Int->Int->(List dv)->Option aC)(p1 x10:Int)(p0:aC)(x27 x28:List Int)(x29 x30 x31:Int)(x32:List dv):Option aC :=
  O4 p1 (aL .i64 x10 1) p0 x27 x28 x29 x30 x31 x32
def mP(u kl:Nat)(p1 x10:Int)(p0:aC)(x11 x12:List Int)(x13 x14 x15:Int)(x16:List dv):Option aC:=match kl with
  | 0=>none
  | kl+1=>bif decide (x10 < ((p0.fP.length:Int))) then ((dT u p1 x10).bind λr24=>bif r24 then ((dm p0.fP x10).bind λy25=>(jW u ((aC.mk x11 x12 ((dq.mk x13 x14 x15)) x16)) y25).bind λr26=>qV u (mP u kl) p1 x10 p0 r26.fA r26.fB r26.fR.aH r26.fR.b8 r26.fR.aT r26.fP) else (qV u (mP u kl) p1 x10 p0 x11 x12 x13 x14 x15 x16)) else (BV u x11 x12 x13 x14 x15 x16)
def Bd(u:Nat)(p0:aC)(p1:Int):Option aC :=
  (d9 u p0).bind λr1=>(k8 u p0).bind λr2=>bif !r2 then (some r1) else (mP u u p1 0 p0 r1.fA r1.fB r1.fR.aH r1.fR.b8 r1.fR.aT r1.fP)
def Dl(u:Nat)(p1:Int)(p0:aC)(s:(List Int)×(List Int)×Int×Int×Int×(List dv)):Option aC:=(BV u s.1 s.2.1 s.2.2.1 s.2.2.2.1 s.2.2.2.2.1 s.2.2.2.2.2)
def yM(u:Nat)(p1:Int)(p0:aC)(i_:Nat)(s:(List Int)×(List Int)×Int×Int×Int×(List dv))(k_:((List Int)×(List Int)×Int×Int×Int×(List dv))->Option aC):Option aC:=(dT u p1 (i_:Int)).bind λr24=>bif r24 then ((dm p0.fP (i_:Int)).bind λy25=>(jW u ((aC.mk s.1 s.2.1 ((dq.mk s.2.2.1 s.2.2.2.1 s.2.2.2.2.1)) s.2.2.2.2.2)) y25).bind λr26=>qV u (λz0 z1 z2 z3 z4 z5 z6 z7 z8=>k_ (z3,z4,z5,z6,z7,z8)) p1 (i_:Int) p0 r26.fA r26.fB r26.fR.aH r26.fR.b8 r26.fR.aT r26.fP) else (qV u (λz0 z1 z2 z3 z4 z5 z6 z7 z8=>k_ (z3,z4,z5,z6,z7,z8)) p1 (i_:Int) p0 s.1 s.2.1 s.2.2.1 s.2.2.2.1 s.2.2.2.2.1 s.2.2.2.2.2)
theorem Mv(u:Nat)(p1:Int)(p0:aC)(s:(List Int)×(List Int)×Int×Int×Int×(List dv))(k:Nat)(hn:(((p0.fP.length:Int)):Int)<=9223372036854775807)(hk:sY (((p0.fP.length:Int))) < k):mP u k p1 0 p0 s.1 s.2.1 s.2.2.1 s.2.2.2.1 s.2.2.2.2.1 s.2.2.2.2.2=Pu.gX (Dl u p1 p0) (yM u p1 p0) (sY (((p0.fP.length:Int)))) 0 s:=Pu.kZ (λ(k:Nat) (s:(List Int)×(List Int)×Int×Int×Int×(List dv)) (i:Int)=>mP u k p1 i p0 s.1 s.2.1 s.2.2.1 s.2.2.2.1 s.2.2.2.2.1 s.2.2.2.2.2) hn (λ_ _ _=>rfl) s hk
def Be(u:Nat)(p0:aC)(p1:Int):Option aC :=
  (Bd u p0 p1).bind λr1=>some r1
def rX(u:Nat)(p0:World)(p1:ak):Option Bool :=
  (bF u p1.cQ 0 (cG .i64 ((p0.fN.length:Int)) 1)).bind λr1=>bif r1 then ((bF u p1.rB 0 (cG .i64 ((p0.fN.length:Int)) 1)).bind λr2=>some r2) else (some false)
def rY(u:Nat)(r1:Bool)(x4 x5:Int)(x6 x7:Int)(x8 x9:List Int)(x10:List bp)(x11:List aG)(x12:List aC)(x13:List ak)(x14:List dZ)(x15:Int):Option (Bool×World) :=
  some ((r1,(World.mk ((iW.mk x4 x5 x6 x7)) ((c9.mk x8)) x9 x10 x11 x12 x13 x14 x15)))
def rZ(u:Nat)(r2:Bool)(x5 x6:Int)(x7 x8:Int)(x9 x10:List Int)(x11:List bp)(x12:List aG)(x13:List aC)(x14:List ak)(x15:List dZ)(x16:Int):Option (Bool×World) :=
  some ((r2,(World.mk ((iW.mk x5 x6 x7 x8)) ((c9.mk x9)) x10 x11 x12 x13 x14 x15 x16)))
def se(u:Nat)(r2:Bool)(p0:World)(x5:List ak)(x6:Int):Option (Bool×World) :=
  some ((r2,(World.mk p0.fC p0.fT p0.ct p0.ca p0.fN p0.fD x5 p0.dB x6)))
def m2(u:Nat)(x9:Bool)(p1:cK)(p0:World):Option (Bool×World) :=
  bif x9 then (some ((false,p0))) else ((dm p0.br p1.fN).bind λy10=>(cd (decide (((([]:List Int)).length+y10.fB.length)*1<=140737488355328))).bind λ_=>(cd (decide ((p0.br.length+([(ak.mk y10.cQ y10.rB ((([]:List Int))++y10.fB))]).length)*40<=140737488355328))).bind λ_=>some ((true,(World.mk p0.fC p0.fT p0.ct p0.ca p0.fN p0.fD (p0.br++([(ak.mk y10.cQ y10.rB ((([]:List Int))++y10.fB))])) p0.dB p0.bC))))
def la(u:Nat)(x10:Bool)(p1:cK)(p0:World):Option (Bool×World) :=
  bif x10 then (some ((false,p0))) else ((dm p0.fN p1.fN).bind λy11=>(AE u y11).bind λr12=>(dm p0.fN p1.fN).bind λy13=>(dm p0.fD p1.fN).bind λy14=>(Be u y14 p1.fS).bind λr15=>(dm p0.fD p1.fN).bind λy16=>some ((true,(World.mk p0.fC p0.fT p0.ct p0.ca (p0.fN.set (sY p1.fN) r12) (p0.fD.set (sY p1.fN) r15) p0.br p0.dB p0.bC))))
def lc(u:Nat)(x11:Bool)(p1:cK)(p0:World):Option (Bool×World) :=
  bif x11 then (some ((false,p0))) else ((mZ u p0.fT p1.fN).bind λr12=>(dm p0.fN p1.fN).bind λy13=>some ((true,(World.mk p0.fC p0.fT p0.ct p0.ca (p0.fN.set (sY p1.fN) r12) p0.fD p0.br p0.dB p0.bC))))
def m3(u:Nat)(x12:Bool)(p1:cK)(p0:World):Option (Bool×World) :=
  bif x12 then (some ((false,p0))) else ((cd (decide (((([]:List Int)).length+p1.fP.fB.length)*1<=140737488355328))).bind λ_=>(cd (decide ((p0.br.length+([(ak.mk p1.fP.cQ p1.fP.rB ((([]:List Int))++p1.fP.fB))]).length)*40<=140737488355328))).bind λ_=>some ((true,(World.mk p0.fC p0.fT p0.ct p0.ca p0.fN p0.fD (p0.br++([(ak.mk p1.fP.cQ p1.fP.rB ((([]:List Int))++p1.fP.fB))])) p0.dB p0.bC))))
def tE(u:Nat)(p0:World)(p1:cK):Option (Bool×World) :=
  (bF u p1.fN 0 (cG .i64 ((p0.fN.length:Int)) 1)).bind λr1=>(bF u p1.fN 0 (cG .i64 ((p0.br.length:Int)) 1)).bind λr2=>bif p1.ba == 1 then (bif r1 then ((oz u p0 p1.fN).bind λr3=>rY u r1 r3.fC.aB r3.fC.bc r3.fC.aU r3.fC.aY r3.fT.cy r3.ct r3.ca r3.fN r3.fD r3.br r3.dB r3.bC) else (rY u r1 p0.fC.aB p0.fC.bc p0.fC.aU p0.fC.aY p0.fT.cy p0.ct p0.ca p0.fN p0.fD p0.br p0.dB p0.bC)) else (bif p1.ba == 2 then (bif r2 then ((oD u p0 p1.fN).bind λr4=>rZ u r2 r4.fC.aB r4.fC.bc r4.fC.aU r4.fC.aY r4.fT.cy r4.ct r4.ca r4.fN r4.fD r4.br r4.dB r4.bC) else (rZ u r2 p0.fC.aB p0.fC.bc p0.fC.aU p0.fC.aY p0.fT.cy p0.ct p0.ca p0.fN p0.fD p0.br p0.dB p0.bC)) else (bif p1.ba == 3 then (bif r2 then ((cd (cS 0 p1.fN p0.br.length)).bind λ_=>(cd (decide (((([]:List ak)).length+((p0.br.take (sY p1.fN)).drop (sY 0)).length)*40<=140737488355328))).bind λ_=>(cd (cS (aL .i64 p1.fN 1) ((p0.br.length:Int)) p0.br.length)).bind λ_=>(cd (decide ((((([]:List ak))++((p0.br.take (sY p1.fN)).drop (sY 0))).length+((p0.br.take (sY ((p0.br.length:Int)))).drop (sY (aL .i64 p1.fN 1))).length)*40<=140737488355328))).bind λ_=>se u r2 p0 (((([]:List ak))++((p0.br.take (sY p1.fN)).drop (sY 0)))++((p0.br.take (sY ((p0.br.length:Int)))).drop (sY (aL .i64 p1.fN 1)))) (aL .i64 p0.bC 1)) else (se u r2 p0 p0.br p0.bC)) else (bif p1.ba == 4 then (bif !r2 then (m2 u true p1 p0) else (m2 u (decide (((p0.br.length:Int))>=400)) p1 p0)) else (bif p1.ba == 5 then (bif !r1 then (la u true p1 p0) else (bif p1.fN == 0 then (la u true p1 p0) else ((dm p0.fN p1.fN).bind λy9=>la u (!y9.ia) p1 p0))) else (bif p1.ba == 6 then (bif !r1 then (lc u true p1 p0) else (bif p1.fN == 0 then (lc u true p1 p0) else ((dm p0.fN p1.fN).bind λy10=>lc u y10.ia p1 p0))) else (bif p1.ba == 7 then ((rX u p0 p1.fP).bind λr11=>bif !r11 then (m3 u true p1 p0) else (m3 u (decide (((p0.br.length:Int))>=400)) p1 p0)) else (some ((false,p0)))))))))
def uE(u:Nat)(x59:List cK)(x60:List Int)(x61 x62:Int)(x63 x64:Int)(x65 x66:Int)(x67 x68:List Int)(x69:List bp)(x70:List aG)(x71:List aC)(x72:List ak)(x73:List dZ)(x74:Int)(r1:World×aJ):Option (World×(List cK)×World×aJ) :=
  some ((r1.1,x59,(World.mk ((iW.mk x63 x64 x65 x66)) ((c9.mk x67)) x68 x69 x70 x71 x72 x73 x74),(aJ.mk x60 x61 x62)))
def iI(u:Nat)(Ke:(List cK)->Int->(List Int)->Int->Int->Int->Int->Int->Int->(List Int)->(List Int)->(List bp)->(List aG)->(List aC)->(List ak)->(List dZ)->Int->(World×aJ)->Option (World×(List cK)×World×aJ))(x21:List cK)(x22:Int)(x55:Bool)(x23:List Int)(x24 x25:Int)(x26 x27:Int)(x28 x29:Int)(x30 x31:List Int)(x32:List bp)(x33:List aG)(x34:List aC)(x35:List ak)(x36:List dZ)(x37:Int)(r1:World×aJ):Option (World×(List cK)×World×aJ) :=
  bif x55 then ((uq u ((aJ.mk x23 x24 x25)) ((World.mk ((iW.mk x26 x27 x28 x29)) ((c9.mk x30)) x31 x32 x33 x34 x35 x36 x37))).bind λr56=>(cd (decide ((x21.length+([r56.1]).length)*64<=140737488355328))).bind λ_=>(tE u ((World.mk ((iW.mk x26 x27 x28 x29)) ((c9.mk x30)) x31 x32 x33 x34 x35 x36 x37)) r56.1).bind λr58=>Ke (x21++([r56.1])) (cG .i64 x22 1) r56.2.fB r56.2.fI r56.2.fH r58.2.fC.aB r58.2.fC.bc r58.2.fC.aU r58.2.fC.aY r58.2.fT.cy r58.2.ct r58.2.ca r58.2.fN r58.2.fD r58.2.br r58.2.dB r58.2.bC r1) else (uE u x21 x23 x24 x25 x26 x27 x28 x29 x30 x31 x32 x33 x34 x35 x36 x37 r1)
def dJ(u iz:Nat)(x21:List cK)(x22:Int)(x23:List Int)(x24 x25:Int)(x26 x27:Int)(x28 x29:Int)(x30 x31:List Int)(x32:List bp)(x33:List aG)(x34:List aC)(x35:List ak)(x36:List dZ)(x37:Int)(r1:World×aJ):Option (World×(List cK)×World×aJ):=match iz with
  | 0=>none
  | iz+1=>bif decide (x22 > 0) then (iI u (dJ u iz) x21 x22 (decide (((x21.length:Int)) < 400)) x23 x24 x25 x26 x27 x28 x29 x30 x31 x32 x33 x34 x35 x36 x37 r1) else (iI u (dJ u iz) x21 x22 false x23 x24 x25 x26 x27 x28 x29 x30 x31 x32 x33 x34 x35 x36 x37 r1)
def wI(u:Nat)(p0:aJ)(p1:Int):Option (World×(List cK)×World×aJ) :=
  (wA u p0).bind λr1=>(uk u r1.1).bind λr2=>(aW u r1.2 p1).bind λr3=>dJ u u (([]:List cK)) (aL .i64 5 r3.1) r3.2.fB r3.2.fI r3.2.fH r2.fC.aB r2.fC.bc r2.fC.aU r2.fC.aY r2.fT.cy r2.ct r2.ca r2.fN r2.fD r2.br r2.dB r2.bC r1
def pr(u:Nat)(p0:aJ)(p1:Int):Option (World×aJ) :=
  (wI u p0 p1).bind λr1=>some ((r1.2.2.1,r1.2.2.2))
def nH(u:Nat)(x7 x8:Int)(x9 x10:Int)(x11:List Int)(x12 x13:Int):Option (iW×aJ) :=
  some (((iW.mk x7 x8 x9 x10),(aJ.mk x11 x12 x13)))
def wJ(u:Nat)(p0:aJ):Option (iW×aJ) :=
  (qB u p0).bind λr1=>(aW u r1.2 12).bind λr2=>bif r2.1 == 0 then ((di u r2.2 (([1,6,7]:List Int))).bind λr3=>nH u r3.1 r1.1.bc r1.1.aU r1.1.aY r3.2.fB r3.2.fI r3.2.fH) else (bif r2.1 == 1 then ((di u r2.2 (([0,40,41]:List Int))).bind λr4=>nH u r1.1.aB r4.1 r1.1.aU r1.1.aY r4.2.fB r4.2.fI r4.2.fH) else (bif r2.1 == 2 then ((di u r2.2 (([0,5,6]:List Int))).bind λr5=>nH u r1.1.aB r1.1.bc r5.1 r1.1.aY r5.2.fB r5.2.fI r5.2.fH) else (bif r2.1 == 3 then ((di u r2.2 (([1,8,9]:List Int))).bind λr6=>nH u r1.1.aB r1.1.bc r1.1.aU r6.1 r6.2.fB r6.2.fI r6.2.fH) else (nH u r1.1.aB r1.1.bc r1.1.aU r1.1.aY r2.2.fB r2.2.fI r2.2.fH))))
def uF(u:Nat)(x6 x7:List Int)(x8 x9:Int):Option (c9×aJ) :=
  some (((c9.mk x6),(aJ.mk x7 x8 x9)))
def wK(u:Nat)(p0:aJ):Option (c9×aJ) :=
  (qA u p0).bind λr1=>(aW u r1.2 8).bind λr2=>bif r2.1 == 0 then ((aW u r2.2 ((r1.1.cy.length:Int))).bind λr3=>(di u r3.2 (([-1,0,6,-2]:List Int))).bind λr4=>(dm r1.1.cy r3.1).bind λy5=>uF u (r1.1.cy.set (sY r3.1) r4.1) r4.2.fB r4.2.fI r4.2.fH) else (bif r2.1 == 1 then (uF u (([]:List Int)) r2.2.fB r2.2.fI r2.2.fH) else (uF u r1.1.cy r2.2.fB r2.2.fI r2.2.fH))
def sf(u:Nat)(p0:aJ):Option (dv×aJ) :=
  (ie u p0 4).bind λr1=>bif r1.1 then ((aW u r1.2 4).bind λr2=>(aW u r2.2 2).bind λr3=>(aW u r3.2 6).bind λr4=>some (((dv.mk 2 0 ([]) ((dq.mk r2.1 r3.1 r4.1))),r4.2))) else ((aW u r1.2 2).bind λr5=>(aW u r5.2 9).bind λr6=>(fL u r6.2 5).bind λr7=>some (((dv.mk r5.1 r6.1 r7.1 ((dq.mk 0 0 0))),r7.2)))
def yN(u:Nat)(x47 x48:List Int)(x49 x50 x51:Int)(x52:List dv)(x53:List Int)(x54 x55:Int):Option (aC×aJ) :=
  some (((aC.mk x47 x48 ((dq.mk x49 x50 x51)) x52),(aJ.mk x53 x54 x55)))
def p5(u:Nat)(ro:Int->(List Int)->(List Int)->Int->Int->Int->(List dv)->(List Int)->Int->Int->Option (aC×aJ))(x15:Int)(x41 x42:List Int)(x43 x44 x45:Int)(x46:List dv)(r38:Bool×aJ):Option (aC×aJ) :=
  ro (cG .i64 x15 1) x41 x42 x43 x44 x45 x46 r38.2.fB r38.2.fI r38.2.fH
def p6(u:Nat)(ro:Int->(List Int)->(List Int)->Int->Int->Int->(List dv)->(List Int)->Int->Int->Option (aC×aJ))(x15:Int)(x40:Bool)(r36:aC×Bool)(r38:Bool×aJ)(r37:aC):Option (aC×aJ) :=
  bif x40 then (p5 u ro x15 r37.fA r37.fB r37.fR.aH r37.fR.b8 r37.fR.aT r37.fP r38) else (p5 u ro x15 r36.1.fA r36.1.fB r36.1.fR.aH r36.1.fR.b8 r36.1.fR.aT r36.1.fP r38)
def gI(u gf:Nat)(x15:Int)(x16 x17:List Int)(x18 x19 x20:Int)(x21:List dv)(x22:List Int)(x23 x24:Int):Option (aC×aJ):=match gf with
  | 0=>none
  | gf+1=>bif decide (x15 > 0) then ((sf u ((aJ.mk x22 x23 x24))).bind λr35=>(ov u ((aC.mk x16 x17 ((dq.mk x18 x19 x20)) x21)) r35.1).bind λr36=>(qQ u r36.1).bind λr37=>(ie u r35.2 5).bind λr38=>bif r38.1 then ((k8 u r37).bind λr39=>p6 u (gI u gf) x15 r39 r36 r38 r37) else (p6 u (gI u gf) x15 false r36 r38 r37)) else (yN u x16 x17 x18 x19 x20 x21 x22 x23 x24)
def wL(u:Nat)(p0:aJ):Option (aC×aJ) :=
  (aW u p0 3).bind λr1=>(fL u r1.2 9).bind λr2=>(mM u r1.1 r2.1).bind λr3=>(aW u r2.2 5).bind λr4=>gI u u r4.1 r3.fA r3.fB r3.fR.aH r3.fR.b8 r3.fR.aT r3.fP r4.2.fB r4.2.fI r4.2.fH
def m4(u:Nat)(r1:aC×aJ)(x8 x9 x10:Int)(x11:List dv)(x12:List Int)(x13 x14:Int):Option (aC×aJ) :=
  some (((aC.mk r1.1.fA r1.1.fB ((dq.mk x8 x9 x10)) x11),(aJ.mk x12 x13 x14)))
def vK(u:Nat)(p0:aJ):Option (aC×aJ) :=
  (wL u p0).bind λr1=>(aW u r1.2 12).bind λr2=>bif r2.1 == 0 then ((di u r2.2 (([-1,0,240,241]:List Int))).bind λr3=>m4 u r1 r1.1.fR.aH r1.1.fR.b8 r3.1 r1.1.fP r3.2.fB r3.2.fI r3.2.fH) else (bif r2.1 == 1 then ((di u r2.2 (([-1,1,2]:List Int))).bind λr4=>m4 u r1 r1.1.fR.aH r4.1 r1.1.fR.aT r1.1.fP r4.2.fB r4.2.fI r4.2.fH) else (bif r2.1 == 2 then ((di u r2.2 (([-1,1000001]:List Int))).bind λr5=>m4 u r1 r5.1 r1.1.fR.b8 r1.1.fR.aT r1.1.fP r5.2.fB r5.2.fI r5.2.fH) else (bif r2.1 == 3 then ((di u r2.2 (([3,0,2]:List Int))).bind λr6=>(di u r6.2 (([-1,240,0]:List Int))).bind λr7=>(cd (decide ((r1.1.fP.length+([(dv.mk r6.1 r7.1 (([1]:List Int)) ((dq.mk 0 0 0)))]).length)*64<=140737488355328))).bind λ_=>m4 u r1 r1.1.fR.aH r1.1.fR.b8 r1.1.fR.aT (r1.1.fP++([(dv.mk r6.1 r7.1 (([1]:List Int)) ((dq.mk 0 0 0)))])) r7.2.fB r7.2.fI r7.2.fH) else (m4 u r1 r1.1.fR.aH r1.1.fR.b8 r1.1.fR.aT r1.1.fP r2.2.fB r2.2.fI r2.2.fH))))
def lf(u:Nat)(x8 x9 x10:Int)(x11:List cC)(x12:List Int)(x13 x14:Int):Option (af×aJ) :=
  some (((af.mk x8 x9 x10 x11),(aJ.mk x12 x13 x14)))
def tF(u:Nat)(p0:aJ):Option (af×aJ) :=
  (pR u p0).bind λr1=>(aW u r1.2.2 10).bind λr2=>bif r2.1 == 0 then ((di u r2.2 (([0,-1,1000000,1000001]:List Int))).bind λr3=>lf u r3.1 r1.1.aB r1.1.aT r1.1.aI r3.2.fB r3.2.fI r3.2.fH) else (bif r2.1 == 1 then ((di u r2.2 (([0,1,7]:List Int))).bind λr4=>lf u r1.1.aH r4.1 r1.1.aT r1.1.aI r4.2.fB r4.2.fI r4.2.fH) else (bif r2.1 == 2 then (lf u r1.1.aH r1.1.aB (aL .i64 r1.1.aT 1) r1.1.aI r2.2.fB r2.2.fI r2.2.fH) else (bif r2.1 == 3 then ((cd (decide ((r1.1.aI.length+([(cC.mk 1 257)]).length)*16<=140737488355328))).bind λ_=>lf u r1.1.aH r1.1.aB r1.1.aT (r1.1.aI++([(cC.mk 1 257)])) r2.2.fB r2.2.fI r2.2.fH) else (bif r2.1 == 4 then (bif decide (((r1.1.aI.length:Int)) > 0) then ((dm r1.1.aI 0).bind λy6=>(dm r1.1.aI 0).bind λy7=>lf u r1.1.aH r1.1.aB r1.1.aT (r1.1.aI.set (sY 0) ((cC.mk (aL .i64 y6.fW 1) y7.fS))) r2.2.fB r2.2.fI r2.2.fH) else (lf u r1.1.aH r1.1.aB r1.1.aT r1.1.aI r2.2.fB r2.2.fI r2.2.fH)) else (lf u r1.1.aH r1.1.aB r1.1.aT r1.1.aI r2.2.fB r2.2.fI r2.2.fH)))))
def dt(u:Nat)(x24:List Int)(x25 x26:Int)(x27 x28:Int)(x29 x30:Int)(x31 x32:List Int)(x33:List bp)(x34:List aG)(x35:List aC)(x36:List ak)(r1:World×aJ)(x37:Int):Option (World×aJ) :=
  some (((World.mk ((iW.mk x27 x28 x29 x30)) ((c9.mk x31)) x32 x33 x34 x35 x36 r1.1.dB x37),(aJ.mk x24 x25 x26)))
def tS(u:Nat)(p0:aJ)(p1:Int):Option (World×aJ) :=
  (pr u p0 p1).bind λr1=>(aW u r1.2 ((r1.1.fN.length:Int))).bind λr2=>(aW u r2.2 40).bind λr3=>bif r3.1 == 0 then ((wJ u r3.2).bind λr4=>dt u r4.2.fB r4.2.fI r4.2.fH r4.1.aB r4.1.bc r4.1.aU r4.1.aY r1.1.fT.cy r1.1.ct r1.1.ca r1.1.fN r1.1.fD r1.1.br r1 r1.1.bC) else (bif r3.1 == 1 then ((wK u r3.2).bind λr5=>dt u r5.2.fB r5.2.fI r5.2.fH r1.1.fC.aB r1.1.fC.bc r1.1.fC.aU r1.1.fC.aY r5.1.cy r1.1.ct r1.1.ca r1.1.fN r1.1.fD r1.1.br r1 r1.1.bC) else (bif r3.1 == 2 then ((mI u r3.2).bind λr6=>dt u r6.2.fB r6.2.fI r6.2.fH r1.1.fC.aB r1.1.fC.bc r1.1.fC.aU r1.1.fC.aY r1.1.fT.cy r6.1 r1.1.ca r1.1.fN r1.1.fD r1.1.br r1 r1.1.bC) else (bif r3.1 == 3 then ((aW u r3.2 7).bind λr7=>(dm r1.1.fN r2.1).bind λy8=>dt u r7.2.fB r7.2.fI r7.2.fH r1.1.fC.aB r1.1.fC.bc r1.1.fC.aU r1.1.fC.aY r1.1.fT.cy r1.1.ct r1.1.ca (r1.1.fN.set (sY r2.1) ((aG.mk y8.ia y8.bD y8.bI y8.ay y8.bw r7.1 y8.aZ y8.bg))) r1.1.fD r1.1.br r1 r1.1.bC) else (bif r3.1 == 4 then ((aW u r3.2 7).bind λr9=>(dm r1.1.fN r2.1).bind λy10=>dt u r9.2.fB r9.2.fI r9.2.fH r1.1.fC.aB r1.1.fC.bc r1.1.fC.aU r1.1.fC.aY r1.1.fT.cy r1.1.ct r1.1.ca (r1.1.fN.set (sY r2.1) ((aG.mk y10.ia (cG .i64 r9.1 1) y10.bI y10.ay y10.bw y10.bh y10.aZ y10.bg))) r1.1.fD r1.1.br r1 r1.1.bC) else (bif r3.1 == 5 then ((vK u r3.2).bind λr11=>(dm r1.1.fD r2.1).bind λy12=>dt u r11.2.fB r11.2.fI r11.2.fH r1.1.fC.aB r1.1.fC.bc r1.1.fC.aU r1.1.fC.aY r1.1.fT.cy r1.1.ct r1.1.ca r1.1.fN (r1.1.fD.set (sY r2.1) r11.1) r1.1.br r1 r1.1.bC) else (bif r3.1 == 6 then ((tF u r3.2).bind λr13=>(dm r1.1.fN r2.1).bind λy14=>dt u r13.2.fB r13.2.fI r13.2.fH r1.1.fC.aB r1.1.fC.bc r1.1.fC.aU r1.1.fC.aY r1.1.fT.cy r1.1.ct r1.1.ca (r1.1.fN.set (sY r2.1) ((aG.mk y14.ia y14.bD y14.bI r13.1 y14.bw y14.bh y14.aZ y14.bg))) r1.1.fD r1.1.br r1 r1.1.bC) else (bif r3.1 == 7 then ((aW u r3.2 9).bind λr15=>(aW u r15.2 9).bind λr16=>(cd (decide ((r1.1.br.length+([(ak.mk (cG .i64 r15.1 1) (cG .i64 r16.1 1) ([]))]).length)*40<=140737488355328))).bind λ_=>dt u r16.2.fB r16.2.fI r16.2.fH r1.1.fC.aB r1.1.fC.bc r1.1.fC.aU r1.1.fC.aY r1.1.fT.cy r1.1.ct r1.1.ca r1.1.fN r1.1.fD (r1.1.br++([(ak.mk (cG .i64 r15.1 1) (cG .i64 r16.1 1) ([]))])) r1 r1.1.bC) else (bif r3.1 == 8 then (dt u r3.2.fB r3.2.fI r3.2.fH r1.1.fC.aB r1.1.fC.bc r1.1.fC.aU r1.1.fC.aY r1.1.fT.cy r1.1.ct r1.1.ca r1.1.fN r1.1.fD r1.1.br r1 (-1)) else (bif r3.1 == 9 then ((cd (cS 1 ((r1.1.fD.length:Int)) r1.1.fD.length)).bind λ_=>dt u r3.2.fB r3.2.fI r3.2.fH r1.1.fC.aB r1.1.fC.bc r1.1.fC.aU r1.1.fC.aY r1.1.fT.cy r1.1.ct r1.1.ca r1.1.fN ((r1.1.fD.take (sY ((r1.1.fD.length:Int)))).drop (sY 1)) r1.1.br r1 r1.1.bC) else (bif r3.1 == 10 then ((dm r1.1.fN r2.1).bind λy19=>(dm r1.1.fN r2.1).bind λy20=>dt u r3.2.fB r3.2.fI r3.2.fH r1.1.fC.aB r1.1.fC.bc r1.1.fC.aU r1.1.fC.aY r1.1.fT.cy r1.1.ct r1.1.ca (r1.1.fN.set (sY r2.1) ((aG.mk (!y19.ia) y20.bD y20.bI y20.ay y20.bw y20.bh y20.aZ y20.bg))) r1.1.fD r1.1.br r1 r1.1.bC) else (bif r3.1 == 11 then ((dm r1.1.ca r2.1).bind λy21=>(cd (decide ((y21.fB.length+(([1]:List Int)).length)*1<=140737488355328))).bind λ_=>(dm r1.1.ca r2.1).bind λy23=>dt u r3.2.fB r3.2.fI r3.2.fH r1.1.fC.aB r1.1.fC.bc r1.1.fC.aU r1.1.fC.aY r1.1.fT.cy r1.1.ct (r1.1.ca.set (sY r2.1) ((bp.mk (y21.fB++(([1]:List Int)))))) r1.1.fN r1.1.fD r1.1.br r1 r1.1.bC) else (dt u r3.2.fB r3.2.fI r3.2.fH r1.1.fC.aB r1.1.fC.bc r1.1.fC.aU r1.1.fC.aY r1.1.fT.cy r1.1.ct r1.1.ca r1.1.fN r1.1.fD r1.1.br r1 r1.1.bC))))))))))))
def mQ(u:Nat)(p0:List Int)(p1:Int):Option (aJ×World) :=
  (tu u p0).bind λr1=>(tS u r1 p1).bind λr2=>some ((r2.2,r2.1))
def lT(u:Nat)(p0:List Int):Option World :=
  (mQ u p0 120).bind λr1=>some r1.2
def lU(u:Nat)(p0:List Int):Option World :=
  (mQ u p0 60).bind λr1=>some r1.2
def nI(u:Nat)(p0:List Int):Option World :=
  (mQ u p0 40).bind λr1=>some r1.2
def lV(u:Nat)(p0:List Int):Option World :=
  (mQ u p0 60).bind λr1=>some r1.2
def lW(u:Nat)(p0:List Int):Option cK :=
  (tu u p0).bind λr1=>(aW u r1 10).bind λr2=>(aW u r2.2 5).bind λr3=>(aW u r3.2 9).bind λr4=>some ((cK.mk (cG .i64 r2.1 1) r3.1 r4.1 ((ak.mk 0 0 ([])))))
def yO(u:Nat)(p0:aJ):Option (Int×aJ) :=
  (ie u p0 8).bind λr1=>bif r1.1 then ((di u r1.2 (([-1,1099511627776]:List Int))).bind λr2=>some ((r2.1,r2.2))) else ((vE u r1.2).bind λr3=>some ((r3.1,r3.2)))
def wM(u:Nat)(p0:aJ):Option (Int×aJ) :=
  (ie u p0 8).bind λr1=>bif r1.1 then ((di u r1.2 (([-1,40,39,63,64]:List Int))).bind λr2=>some ((r2.1,r2.2))) else ((aW u r1.2 40).bind λr3=>some ((r3.1,r3.2)))
def gJ(u:Nat)(x9 x10:Int)(x11 x12 x13:Int)(x14:List cC)(x15:Int)(r1:dW×aJ)(x16:Int)(x17 x18:List Int)(x19 x20:Int):Option (dW×aJ) :=
  some (((dW.mk x9 x10 ((af.mk x11 x12 x13 x14)) x15 r1.1.bW x16 x17),(aJ.mk x18 x19 x20)))
def wN(u:Nat)(p0:aJ):Option (dW×aJ) :=
  (qG u p0).bind λr1=>(aW u r1.2 12).bind λr2=>bif r2.1 == 0 then ((aW u r2.2 7).bind λr3=>gJ u (cG .i64 r3.1 1) r1.1.aH r1.1.ay.aH r1.1.ay.aB r1.1.ay.aT r1.1.ay.aI r1.1.bQ r1 r1.1.fI r1.1.fB r3.2.fB r3.2.fI r3.2.fH) else (bif r2.1 == 1 then ((di u r2.2 (([-1,0,1000000,1000001]:List Int))).bind λr4=>gJ u r1.1.ba r4.1 r1.1.ay.aH r1.1.ay.aB r1.1.ay.aT r1.1.ay.aI r1.1.bQ r1 r1.1.fI r1.1.fB r4.2.fB r4.2.fI r4.2.fH) else (bif r2.1 == 2 then ((yO u r2.2).bind λr5=>gJ u r1.1.ba r1.1.aH r1.1.ay.aH r1.1.ay.aB r1.1.ay.aT r1.1.ay.aI r5.1 r1 r1.1.fI r1.1.fB r5.2.fB r5.2.fI r5.2.fH) else (bif r2.1 == 3 then ((wM u r2.2).bind λr6=>gJ u r1.1.ba r1.1.aH r1.1.ay.aH r1.1.ay.aB r1.1.ay.aT r1.1.ay.aI r1.1.bQ r1 r6.1 r1.1.fB r6.2.fB r6.2.fI r6.2.fH) else (bif r2.1 == 4 then ((fL u r2.2 8).bind λr7=>gJ u r1.1.ba r1.1.aH r1.1.ay.aH r1.1.ay.aB r1.1.ay.aT r1.1.ay.aI r1.1.bQ r1 r1.1.fI r7.1 r7.2.fB r7.2.fI r7.2.fH) else (bif r2.1 == 5 then ((tF u r2.2).bind λr8=>gJ u r1.1.ba r1.1.aH r8.1.aH r8.1.aB r8.1.aT r8.1.aI r1.1.bQ r1 r1.1.fI r1.1.fB r8.2.fB r8.2.fI r8.2.fH) else (gJ u r1.1.ba r1.1.aH r1.1.ay.aH r1.1.ay.aB r1.1.ay.aT r1.1.ay.aI r1.1.bQ r1 r1.1.fI r1.1.fB r2.2.fB r2.2.fI r2.2.fH))))))
def kU(u:Nat)(p0:List Int):Option ak :=
  (tu u p0).bind λr1=>(wN u r1).bind λr2=>(aW u r2.2 7).bind λr3=>(aW u r3.2 7).bind λr4=>(ep u r3.1 r4.1 r2.1).bind λr5=>some r5
def cB(u:Nat)(p0 p1 p2:Int):Option Bool :=
  bif decide (p0>=p1) then (some (decide (p0<=p2))) else (some false)
def tG(u:Nat)(p0:Int):Option Bool :=
  (cB u p0 0 1000000).bind λr1=>some r1
def tT(u:Nat)(p0:Int):Option Bool :=
  bif p0 == 0 then (some true) else (some (p0 == 1))
def pt(u:Nat)(p0:dq):Option Bool :=
  (tG u p0.aH).bind λr1=>bif r1 then ((tT u p0.b8).bind λr2=>bif r2 then ((cB u p0.aT 0 240).bind λr3=>some r3) else (some false)) else (some false)
def gG(u:Nat)(p0:aC)(p1:Int):Option ((List Int)) :=
  bif p1 == 0 then (some p0.fA) else (some p0.fB)
def yP(u:Nat)(p0:dv):Option Bool :=
  bif p0.mi == 2 then (bif p0.Di == 0 then (bif ((p0.fB.length:Int)) == 0 then ((pt u p0.fR).bind λr1=>some r1) else (some false)) else (some false)) else ((tT u p0.mi).bind λr2=>bif r2 then (bif [p0.fR.aH,p0.fR.b8,p0.fR.aT] == [0,0,0] then ((cB u p0.Di 0 (cG .i64 240 ((p0.fB.length:Int)))).bind λr3=>some r3) else (some false)) else (some false))
def si(u:Nat)(p0:dv):Option Bool :=
  (yP u p0).bind λr1=>some (!r1)
def dj(u:Nat)  : Option Int :=
  some (-1)
def bN(u bK:Nat)(p0:List dv)(x2:Int):Option Int:=match bK with
  | 0=>none
  | bK+1=>bif decide (x2 < ((p0.length:Int))) then ((dm p0 x2).bind λy4=>(si u y4).bind λr5=>bif r5 then (some x2) else ((bN u bK) p0 (aL .i64 x2 1))) else (dj u)
def cL(u:Nat)(p0:List dv):Option Int :=
  bN u u p0 0
def jY(u:Nat)(p0:List dv)(s:Unit):Option Int:=(dj u)
def ew(u:Nat)(p0:List dv)(y4:dv)(i_:Nat)(s:Unit)(k_:Unit->Option Int):Option Int:=(si u y4).bind λr5=>bif r5 then (some (i_:Int)) else ((λz0 z1=>k_ ()) p0 (aL .i64 (i_:Int) 1))
theorem jZ(u:Nat)(p0:List dv)(s:Unit)(k:Nat)(hn:p0.length<=9223372036854775807)(hk:p0.length < k):bN u k p0 0=Pu.bZ (jY u p0) (ew u p0) p0 0 s:=Pu.dz (λ(k:Nat) (s:Unit) (i:Int)=>bN u k p0 i) hn (λ_ _ _=>rfl) s hk
def b6(u:Nat)(p0:List dv):Option Bool :=
  (cL u p0).bind λr1=>some (decide (r1>=0))
def nJ(u:Nat)(p0:aC)(x3:Bool):Option Bool :=
  bif x3 then (some false) else (bif decide (((p0.fP.length:Int))<=200) then ((b6 u p0.fP).bind λr4=>some (!r4)) else (some false))
def wO(u:Nat)(p0:aC):Option Bool :=
  bif decide (((p0.fA.length:Int)) > 240) then (nJ u p0 true) else (bif decide (((p0.fB.length:Int)) > 240) then (nJ u p0 true) else ((pt u p0.fR).bind λr1=>bif !r1 then (nJ u p0 true) else ((gG u p0 p0.fR.b8).bind λr2=>nJ u p0 (decide (p0.fR.aT > ((r2.length:Int)))))))
def lg(u:Nat)(p0:List Int):Option ((List Int)) :=
  (cd (decide (0<=((p0.length:Int))) && (0 == 0 || 0 == ((p0.length:Int))))).bind λ_=>(cd (decide (sY ((p0.length:Int))*1<=140737488355328))).bind λ_=>(cd (decide (((zQq (sY 0) (0:Int)).length+p0.length)*1<=140737488355328))).bind λ_=>some ((zQq (sY 0) (0:Int))++p0)
def uG(u:Nat)(p0:aC):Option (Int×(List Int)) :=
  (wO u p0).bind λr1=>bif !r1 then (some ((0,[]))) else ((gG u p0 p0.fR.b8).bind λr2=>(cd (cS 0 p0.fR.aT r2.length)).bind λ_=>(lg u ((r2.take (sY p0.fR.aT)).drop (sY 0))).bind λr4=>some ((p0.fR.aH,r4)))
def Dm(u:Nat)(p0 p1:List Int):Option Bool :=
  some ((strOfNums p0).toList == (strOfNums p1).toList)
def p7(u:Nat)(p0 p1:List Int):Option Bool :=
  (Dm u p0 p1).bind λr1=>some r1
def vL(u:Nat)(p0:aC)(p1:Int)(p2:List Int):Option Bool :=
  (uG u p0).bind λr1=>bif r1.1 == p1 then ((p7 u r1.2 p2).bind λr2=>some r2) else (some false)
def ta(u:Nat)(p1:Int)(x3:Bool)(p0:World):Option Int :=
  bif x3 then (some (-1)) else ((dm p0.fD p1).bind λy4=>(dm p0.ca p1).bind λy5=>(vL u y4 0 y5.fB).bind λr6=>bif r6 then (some 0) else ((dm p0.fD p1).bind λy7=>(vL u y7 1 p0.ct).bind λr8=>bif r8 then (some 1) else (some (-1))))
def qW(u:Nat)(p0:World)(p1:Int):Option Int :=
  (cB u p1 0 (cG .i64 ((p0.fD.length:Int)) 1)).bind λr1=>bif !r1 then (ta u p1 true p0) else ((cB u p1 0 (cG .i64 ((p0.ca.length:Int)) 1)).bind λr2=>ta u p1 (!r2) p0)
def p8(u:Nat)(x9:List Int):Option ((List Int)) :=
  some x9
def lX(u:Nat)(J8:(List Int)->World->Int->Option ((List Int)))(x8:List Int)(p0:World)(x4:Int):Option ((List Int)) :=
  J8 x8 p0 (aL .i64 x4 1)
def j8(u ir:Nat)(x3:List Int)(p0:World)(x4:Int):Option ((List Int)):=match ir with
  | 0=>none
  | ir+1=>bif decide (x4 < ((p0.fN.length:Int))) then (bif decide (x4 > 0) then ((qW u p0 x4).bind λr7=>(cd (decide ((x3.length+(([r7]:List Int)).length)*8<=140737488355328))).bind λ_=>lX u (j8 u ir) (x3++(([r7]:List Int))) p0 x4) else (lX u (j8 u ir) x3 p0 x4)) else (p8 u x3)
def wP(u:Nat)(p0:World):Option ((List Int)) :=
  j8 u u (([]:List Int)) p0 0
def jm(u:Nat)(p0:World)(s:(List Int)):Option ((List Int)):=(p8 u s)
def ig(u:Nat)(p0:World)(i_:Nat)(s:(List Int))(k_:((List Int))->Option ((List Int))):Option ((List Int)):=bif decide ((i_:Int) > 0) then ((qW u p0 (i_:Int)).bind λr7=>(cd (decide ((s.length+(([r7]:List Int)).length)*8<=140737488355328))).bind λ_=>lX u (λz0 z1 z2=>k_ z0) (s++(([r7]:List Int))) p0 (i_:Int)) else (lX u (λz0 z1 z2=>k_ z0) s p0 (i_:Int))
theorem IQ(u:Nat)(p0:World)(s:(List Int))(k:Nat)(hn:(((p0.fN.length:Int)):Int)<=9223372036854775807)(hk:sY (((p0.fN.length:Int))) < k):j8 u k s p0 0=Pu.gX (jm u p0) (ig u p0) (sY (((p0.fN.length:Int)))) 0 s:=Pu.kZ (λ(k:Nat) (s:(List Int)) (i:Int)=>j8 u k s p0 i) hn (λ_ _ _=>rfl) s hk
def uH(u:Nat)(x10:ByteArray):Option ByteArray :=
  some x10
def gp(u:Nat)(E4:ByteArray->((List Int))->Int->Option ByteArray)(x9:ByteArray)(r1:(List Int))(x5:Int):Option ByteArray :=
  E4 x9 r1 (aL .i64 x5 1)
def eY(u eg:Nat)(x4:ByteArray)(r1:(List Int))(x5:Int):Option ByteArray:=match eg with
  | 0=>none
  | eg+1=>bif decide (x5 < ((r1.length:Int))) then ((dm r1 x5).bind λy8=>bif y8 == 0 then ((cd (decide (x4.size+((zm #[111])).size<=9223372036854775807))).bind λ_=>gp u (eY u eg) (x4++((zm #[111]))) r1 x5) else (bif y8 == 1 then ((cd (decide (x4.size+((zm #[110])).size<=9223372036854775807))).bind λ_=>gp u (eY u eg) (x4++((zm #[110]))) r1 x5) else ((cd (decide (x4.size+((zm #[63])).size<=9223372036854775807))).bind λ_=>gp u (eY u eg) (x4++((zm #[63]))) r1 x5))) else (uH u x4)
def p9(u:Nat)(p0:World):Option ByteArray :=
  (wP u p0).bind λr1=>eY u u ((zm #[])) r1 0
def xQ(u:Nat)(r1:(List Int))(s:ByteArray):Option ByteArray:=(uH u s)
def rq(u:Nat)(r1:(List Int))(y8:Int)(i_:Nat)(s:ByteArray)(k_:ByteArray->Option ByteArray):Option ByteArray:=bif y8 == 0 then ((cd (decide (s.size+((zm #[111])).size<=9223372036854775807))).bind λ_=>gp u (λz0 z1 z2=>k_ z0) (s++((zm #[111]))) r1 (i_:Int)) else (bif y8 == 1 then ((cd (decide (s.size+((zm #[110])).size<=9223372036854775807))).bind λ_=>gp u (λz0 z1 z2=>k_ z0) (s++((zm #[110]))) r1 (i_:Int)) else ((cd (decide (s.size+((zm #[63])).size<=9223372036854775807))).bind λ_=>gp u (λz0 z1 z2=>k_ z0) (s++((zm #[63]))) r1 (i_:Int)))
theorem ER(u:Nat)(r1:(List Int))(s:ByteArray)(k:Nat)(hn:r1.length<=9223372036854775807)(hk:r1.length < k):eY u k s r1 0=Pu.bZ (xQ u r1) (rq u r1) r1 0 s:=Pu.dz (λ(k:Nat) (s:ByteArray) (i:Int)=>eY u k s r1 i) hn (λ_ _ _=>rfl) s hk
def vM(u:Nat)(p0:aC)(p1:Int)(p2:List Int):Option Bool :=
  (qS u p0).bind λr1=>bif r1.1 == p1 then ((nu u r1.2 p2).bind λr2=>some r2) else (some false)
def tc(u:Nat)(p1:Int)(x2:Bool)(p0:World):Option Int :=
  bif x2 then (some (-1)) else ((dm p0.fD p1).bind λy3=>(dm p0.ca p1).bind λy4=>(vM u y3 0 y4.fB).bind λr5=>bif r5 then (some 0) else ((dm p0.fD p1).bind λy6=>(vM u y6 1 p0.ct).bind λr7=>bif r7 then (some 1) else (some (-1))))
def qX(u:Nat)(p0:World)(p1:Int):Option Int :=
  (bF u p1 0 (cG .i64 ((p0.fD.length:Int)) 1)).bind λr1=>bif !r1 then (tc u p1 true p0) else (tc u p1 (decide (p1>=((p0.ca.length:Int)))) p0)
def yQ(u:Nat)(x8:List Int):Option ((List Int)) :=
  some x8
def lY(u lI:Nat)(x3:List Int)(x4:Int)(p0:World):Option ((List Int)):=match lI with
  | 0=>none
  | lI+1=>bif decide (x4 < ((p0.fN.length:Int))) then ((qX u p0 x4).bind λr7=>(cd (decide ((x3.length+(([r7]:List Int)).length)*8<=140737488355328))).bind λ_=>(lY u lI) (x3++(([r7]:List Int))) (aL .i64 x4 1) p0) else (yQ u x3)
def wQ(u:Nat)(p0:World):Option ((List Int)) :=
  lY u u (([]:List Int)) 1 p0
def Bf(u:Nat)(p0:World)(s:(List Int)):Option ((List Int)):=(yQ u s)
def vN(u:Nat)(p0:World)(i_:Nat)(s:(List Int))(k_:((List Int))->Option ((List Int))):Option ((List Int)):=(qX u p0 (i_:Int)).bind λr7=>(cd (decide ((s.length+(([r7]:List Int)).length)*8<=140737488355328))).bind λ_=>(λz0 z1 z2=>k_ z0) (s++(([r7]:List Int))) (aL .i64 (i_:Int) 1) p0
theorem VY(u:Nat)(p0:World)(s:(List Int))(k:Nat)(hn:(((p0.fN.length:Int)):Int)<=9223372036854775807)(hk:sY (((p0.fN.length:Int))) < k):lY u k s 0 p0=Pu.gX (Bf u p0) (vN u p0) (sY (((p0.fN.length:Int)))) 0 s:=Pu.kZ (λ(k:Nat) (s:(List Int)) (i:Int)=>lY u k s i p0) hn (λ_ _ _=>rfl) s hk
def uI(u:Nat)(x10:ByteArray):Option ByteArray :=
  some x10
def gq(u:Nat)(E7:ByteArray->((List Int))->Int->Option ByteArray)(x9:ByteArray)(r1:(List Int))(x5:Int):Option ByteArray :=
  E7 x9 r1 (aL .i64 x5 1)
def eZ(u eh:Nat)(x4:ByteArray)(r1:(List Int))(x5:Int):Option ByteArray:=match eh with
  | 0=>none
  | eh+1=>bif decide (x5 < ((r1.length:Int))) then ((dm r1 x5).bind λy8=>bif y8 == 0 then ((cd (decide (x4.size+((zm #[111])).size<=9223372036854775807))).bind λ_=>gq u (eZ u eh) (x4++((zm #[111]))) r1 x5) else (bif y8 == 1 then ((cd (decide (x4.size+((zm #[110])).size<=9223372036854775807))).bind λ_=>gq u (eZ u eh) (x4++((zm #[110]))) r1 x5) else ((cd (decide (x4.size+((zm #[63])).size<=9223372036854775807))).bind λ_=>gq u (eZ u eh) (x4++((zm #[63]))) r1 x5))) else (uI u x4)
def qa(u:Nat)(p0:World):Option ByteArray :=
  (wQ u p0).bind λr1=>eZ u u ((zm #[])) r1 0
def xR(u:Nat)(r1:(List Int))(s:ByteArray):Option ByteArray:=(uI u s)
def rr(u:Nat)(r1:(List Int))(y8:Int)(i_:Nat)(s:ByteArray)(k_:ByteArray->Option ByteArray):Option ByteArray:=bif y8 == 0 then ((cd (decide (s.size+((zm #[111])).size<=9223372036854775807))).bind λ_=>gq u (λz0 z1 z2=>k_ z0) (s++((zm #[111]))) r1 (i_:Int)) else (bif y8 == 1 then ((cd (decide (s.size+((zm #[110])).size<=9223372036854775807))).bind λ_=>gq u (λz0 z1 z2=>k_ z0) (s++((zm #[110]))) r1 (i_:Int)) else ((cd (decide (s.size+((zm #[63])).size<=9223372036854775807))).bind λ_=>gq u (λz0 z1 z2=>k_ z0) (s++((zm #[63]))) r1 (i_:Int)))
theorem ES(u:Nat)(r1:(List Int))(s:ByteArray)(k:Nat)(hn:r1.length<=9223372036854775807)(hk:r1.length < k):eZ u k s r1 0=Pu.bZ (xR u r1) (rr u r1) r1 0 s:=Pu.dz (λ(k:Nat) (s:ByteArray) (i:Int)=>eZ u k s r1 i) hn (λ_ _ _=>rfl) s hk
def wR(u:Nat)(p0:Int):Option ByteArray :=
  (cB u p0 0 6).bind λr1=>bif !r1 then (some ((zm #[]))) else ((dm ([(zm #[105,100,108,101]),(zm #[103,97,116,104,101,114]),(zm #[115,116,97,103,101,100]),(zm #[115,117,114,101]),(zm #[109,101,97,110,116]),(zm #[100,111,110,101]),(zm #[114,111,111,116])]) p0).bind λy2=>some y2)
def tH(u:Nat)(p0:Int):Option Bool :=
  (cB u p0 0 1099511627775).bind λr1=>some r1
def nK(u:Nat)(p0:Int):Option Int :=
  some (bJ .i64 (Ir .i64 (aL .u64 (aL .u64 (aL .u64 (bJ .u64 (aL .u64 (cU .u64 (aL .u64 (bJ .u64 (cU .u64 (aL .u64 (bJ .u64 (cU .u64 p0 1) 6148914691236517205) (bJ .u64 p0 6148914691236517205)) 2) 3689348814741910323) (bJ .u64 (aL .u64 (bJ .u64 (cU .u64 p0 1) 6148914691236517205) (bJ .u64 p0 6148914691236517205)) 3689348814741910323)) 4) (aL .u64 (bJ .u64 (cU .u64 (aL .u64 (bJ .u64 (cU .u64 p0 1) 6148914691236517205) (bJ .u64 p0 6148914691236517205)) 2) 3689348814741910323) (bJ .u64 (aL .u64 (bJ .u64 (cU .u64 p0 1) 6148914691236517205) (bJ .u64 p0 6148914691236517205)) 3689348814741910323))) 1085102592571150095) (cU .u64 (bJ .u64 (aL .u64 (cU .u64 (aL .u64 (bJ .u64 (cU .u64 (aL .u64 (bJ .u64 (cU .u64 p0 1) 6148914691236517205) (bJ .u64 p0 6148914691236517205)) 2) 3689348814741910323) (bJ .u64 (aL .u64 (bJ .u64 (cU .u64 p0 1) 6148914691236517205) (bJ .u64 p0 6148914691236517205)) 3689348814741910323)) 4) (aL .u64 (bJ .u64 (cU .u64 (aL .u64 (bJ .u64 (cU .u64 p0 1) 6148914691236517205) (bJ .u64 p0 6148914691236517205)) 2) 3689348814741910323) (bJ .u64 (aL .u64 (bJ .u64 (cU .u64 p0 1) 6148914691236517205) (bJ .u64 p0 6148914691236517205)) 3689348814741910323))) 1085102592571150095) 8)) (cU .u64 (aL .u64 (bJ .u64 (aL .u64 (cU .u64 (aL .u64 (bJ .u64 (cU .u64 (aL .u64 (bJ .u64 (cU .u64 p0 1) 6148914691236517205) (bJ .u64 p0 6148914691236517205)) 2) 3689348814741910323) (bJ .u64 (aL .u64 (bJ .u64 (cU .u64 p0 1) 6148914691236517205) (bJ .u64 p0 6148914691236517205)) 3689348814741910323)) 4) (aL .u64 (bJ .u64 (cU .u64 (aL .u64 (bJ .u64 (cU .u64 p0 1) 6148914691236517205) (bJ .u64 p0 6148914691236517205)) 2) 3689348814741910323) (bJ .u64 (aL .u64 (bJ .u64 (cU .u64 p0 1) 6148914691236517205) (bJ .u64 p0 6148914691236517205)) 3689348814741910323))) 1085102592571150095) (cU .u64 (bJ .u64 (aL .u64 (cU .u64 (aL .u64 (bJ .u64 (cU .u64 (aL .u64 (bJ .u64 (cU .u64 p0 1) 6148914691236517205) (bJ .u64 p0 6148914691236517205)) 2) 3689348814741910323) (bJ .u64 (aL .u64 (bJ .u64 (cU .u64 p0 1) 6148914691236517205) (bJ .u64 p0 6148914691236517205)) 3689348814741910323)) 4) (aL .u64 (bJ .u64 (cU .u64 (aL .u64 (bJ .u64 (cU .u64 p0 1) 6148914691236517205) (bJ .u64 p0 6148914691236517205)) 2) 3689348814741910323) (bJ .u64 (aL .u64 (bJ .u64 (cU .u64 p0 1) 6148914691236517205) (bJ .u64 p0 6148914691236517205)) 3689348814741910323))) 1085102592571150095) 8)) 16)) (cU .u64 (aL .u64 (aL .u64 (bJ .u64 (aL .u64 (cU .u64 (aL .u64 (bJ .u64 (cU .u64 (aL .u64 (bJ .u64 (cU .u64 p0 1) 6148914691236517205) (bJ .u64 p0 6148914691236517205)) 2) 3689348814741910323) (bJ .u64 (aL .u64 (bJ .u64 (cU .u64 p0 1) 6148914691236517205) (bJ .u64 p0 6148914691236517205)) 3689348814741910323)) 4) (aL .u64 (bJ .u64 (cU .u64 (aL .u64 (bJ .u64 (cU .u64 p0 1) 6148914691236517205) (bJ .u64 p0 6148914691236517205)) 2) 3689348814741910323) (bJ .u64 (aL .u64 (bJ .u64 (cU .u64 p0 1) 6148914691236517205) (bJ .u64 p0 6148914691236517205)) 3689348814741910323))) 1085102592571150095) (cU .u64 (bJ .u64 (aL .u64 (cU .u64 (aL .u64 (bJ .u64 (cU .u64 (aL .u64 (bJ .u64 (cU .u64 p0 1) 6148914691236517205) (bJ .u64 p0 6148914691236517205)) 2) 3689348814741910323) (bJ .u64 (aL .u64 (bJ .u64 (cU .u64 p0 1) 6148914691236517205) (bJ .u64 p0 6148914691236517205)) 3689348814741910323)) 4) (aL .u64 (bJ .u64 (cU .u64 (aL .u64 (bJ .u64 (cU .u64 p0 1) 6148914691236517205) (bJ .u64 p0 6148914691236517205)) 2) 3689348814741910323) (bJ .u64 (aL .u64 (bJ .u64 (cU .u64 p0 1) 6148914691236517205) (bJ .u64 p0 6148914691236517205)) 3689348814741910323))) 1085102592571150095) 8)) (cU .u64 (aL .u64 (bJ .u64 (aL .u64 (cU .u64 (aL .u64 (bJ .u64 (cU .u64 (aL .u64 (bJ .u64 (cU .u64 p0 1) 6148914691236517205) (bJ .u64 p0 6148914691236517205)) 2) 3689348814741910323) (bJ .u64 (aL .u64 (bJ .u64 (cU .u64 p0 1) 6148914691236517205) (bJ .u64 p0 6148914691236517205)) 3689348814741910323)) 4) (aL .u64 (bJ .u64 (cU .u64 (aL .u64 (bJ .u64 (cU .u64 p0 1) 6148914691236517205) (bJ .u64 p0 6148914691236517205)) 2) 3689348814741910323) (bJ .u64 (aL .u64 (bJ .u64 (cU .u64 p0 1) 6148914691236517205) (bJ .u64 p0 6148914691236517205)) 3689348814741910323))) 1085102592571150095) (cU .u64 (bJ .u64 (aL .u64 (cU .u64 (aL .u64 (bJ .u64 (cU .u64 (aL .u64 (bJ .u64 (cU .u64 p0 1) 6148914691236517205) (bJ .u64 p0 6148914691236517205)) 2) 3689348814741910323) (bJ .u64 (aL .u64 (bJ .u64 (cU .u64 p0 1) 6148914691236517205) (bJ .u64 p0 6148914691236517205)) 3689348814741910323)) 4) (aL .u64 (bJ .u64 (cU .u64 (aL .u64 (bJ .u64 (cU .u64 p0 1) 6148914691236517205) (bJ .u64 p0 6148914691236517205)) 2) 3689348814741910323) (bJ .u64 (aL .u64 (bJ .u64 (cU .u64 p0 1) 6148914691236517205) (bJ .u64 p0 6148914691236517205)) 3689348814741910323))) 1085102592571150095) 8)) 16)) 32))) 127)
def lh(u:Nat)(p0:Int):Option Int :=
  (tH u p0).bind λr1=>bif !r1 then (some 0) else ((nK u (Ir .u64 p0)).bind λr2=>some r2)
def strconv_Itoa(u:Nat)(p0:Int):Option ByteArray :=
  bif decide (-9223372036854775808<=p0) && decide (p0<=9223372036854775807) then some (⟨(Lib.itoa p0).toArray⟩:ByteArray) else none
def de(u:Nat)(p0:Int):Option ByteArray :=
  (strconv_Itoa u p0).bind λr1=>some r1
def vO(u:Nat)(x11:ByteArray):Option ByteArray :=
  some x11
def lw(u jz:Nat)(x5:ByteArray)(p0:aG)(r2 x6:Int):Option ByteArray:=match jz with
  | 0=>none
  | jz+1=>bif decide (x6 < (((([p0.bD,r2,(p0.aZ.length:Int),p0.bg]:List Int)).length:Int))) then ((dm (([p0.bD,r2,(p0.aZ.length:Int),p0.bg]:List Int)) x6).bind λy9=>(de u y9).bind λr10=>(cd (decide (((zm #[32])).size+r10.size<=9223372036854775807))).bind λ_=>(cd (decide (x5.size+(((zm #[32]))++r10).size<=9223372036854775807))).bind λ_=>(lw u jz) (x5++(((zm #[32]))++r10)) p0 r2 (aL .i64 x6 1)) else (vO u x5)
def pu(u:Nat)(p0:aG):Option ByteArray :=
  bif !p0.ia then (some ((zm #[111,102,102]))) else ((wR u p0.bh).bind λr1=>(lh u p0.bw.bl).bind λr2=>lw u u r1 p0 r2 0)
def FJ(u:Nat)(p0:aG)(r2:Int)(s:ByteArray):Option ByteArray:=(vO u s)
def tI(u:Nat)(p0:aG)(r2:Int)(i_:Nat)(s:ByteArray)(k_:ByteArray->Option ByteArray):Option ByteArray:=(dm (([p0.bD,r2,(p0.aZ.length:Int),p0.bg]:List Int)) (i_:Int)).bind λy9=>(de u y9).bind λr10=>(cd (decide (((zm #[32])).size+r10.size<=9223372036854775807))).bind λ_=>(cd (decide (s.size+(((zm #[32]))++r10).size<=9223372036854775807))).bind λ_=>(λz0 z1 z2 z3=>k_ z0) (s++(((zm #[32]))++r10)) p0 r2 (aL .i64 (i_:Int) 1)
theorem FK(u:Nat)(p0:aG)(r2:Int)(s:ByteArray)(k:Nat)(hn:((((([p0.bD,r2,(p0.aZ.length:Int),p0.bg]:List Int)).length:Int)):Int)<=9223372036854775807)(hk:sY ((((([p0.bD,r2,(p0.aZ.length:Int),p0.bg]:List Int)).length:Int))) < k):lw u k s p0 r2 0=Pu.gX (FJ u p0 r2) (tI u p0 r2) (sY ((((([p0.bD,r2,(p0.aZ.length:Int),p0.bg]:List Int)).length:Int)))) 0 s:=Pu.kZ (λ(k:Nat) (s:ByteArray) (i:Int)=>lw u k s p0 r2 i) hn (λ_ _ _=>rfl) s hk
def strings_Join(u:Nat)(p0:List ByteArray)(p1:ByteArray):Option ByteArray :=
  bif decide (p0.length<=140737488355328) && decide ((Lib.join (p0.map (·.data.toList)) p1.data.toList).length<=140737488355328) then some (⟨(Lib.join (p0.map (·.data.toList)) p1.data.toList).toArray⟩:ByteArray) else none
def pB(u:Nat)(x9:List ByteArray):Option ByteArray :=
  (strings_Join u x9 ((zm #[59,32]))).bind λr10=>some r10
def kt(u iT:Nat)(x3:List ByteArray)(p0:World)(x4:Int):Option ByteArray:=match iT with
  | 0=>none
  | iT+1=>bif decide (x4 < ((p0.fN.length:Int))) then ((dm p0.fN x4).bind λy7=>(pu u y7).bind λr8=>(cd (decide ((x3.length+([r8]).length)*16<=140737488355328))).bind λ_=>(kt u iT) (x3++([r8])) p0 (aL .i64 x4 1)) else (pB u x3)
def qb(u:Nat)(p0:World):Option ByteArray :=
  kt u u (([]:List ByteArray)) p0 0
def xS(u:Nat)(p0:World)(s:(List ByteArray)):Option ByteArray:=(pB u s)
def xT(u:Nat)(p0:World)(y7:aG)(i_:Nat)(s:(List ByteArray))(k_:((List ByteArray))->Option ByteArray):Option ByteArray:=(pu u y7).bind λr8=>(cd (decide ((s.length+([r8]).length)*16<=140737488355328))).bind λ_=>(λz0 z1 z2=>k_ z0) (s++([r8])) p0 (aL .i64 (i_:Int) 1)
theorem ET(u:Nat)(p0:World)(s:(List ByteArray))(k:Nat)(hn:p0.fN.length<=9223372036854775807)(hk:p0.fN.length < k):kt u k s p0 0=Pu.bZ (xS u p0) (xT u p0) p0.fN 0 s:=Pu.dz (λ(k:Nat) (s:(List ByteArray)) (i:Int)=>kt u k s p0 i) hn (λ_ _ _=>rfl) s hk
def wS(u:Nat)(p0:Int):Option ByteArray :=
  (bF u p0 0 (cG .i64 ((([(zm #[105,100,108,101]),(zm #[103,97,116,104,101,114]),(zm #[115,116,97,103,101,100]),(zm #[115,117,114,101]),(zm #[109,101,97,110,116]),(zm #[100,111,110,101]),(zm #[114,111,111,116])]).length:Int)) 1)).bind λr1=>bif !r1 then (some ((zm #[]))) else ((dm ([(zm #[105,100,108,101]),(zm #[103,97,116,104,101,114]),(zm #[115,116,97,103,101,100]),(zm #[115,117,114,101]),(zm #[109,101,97,110,116]),(zm #[100,111,110,101]),(zm #[114,111,111,116])]) p0).bind λy2=>some y2)
def my(u:Nat)(p0:Int)(x8:ByteArray):Option ByteArray :=
  bif decide (p0 < 0) then ((cd (decide (((zm #[45])).size+x8.size<=9223372036854775807))).bind λ_=>some (((zm #[45]))++x8)) else (some x8)
def oZ(u:Nat)(Iu:Int->ByteArray->Int->Option ByteArray)(p0:Int)(x3:ByteArray)(x4 x7:Int):Option ByteArray :=
  (cd (decide ((strOfNums (([Ir .u8 (aL .i64 48 x7)]:List Int))).size+x3.size<=9223372036854775807))).bind λ_=>Iu p0 ((strOfNums (([Ir .u8 (aL .i64 48 x7)]:List Int)))++x3) (Pc .i64 x4 10)
def eM(u gC:Nat)(p0:Int)(x3:ByteArray)(x4:Int):Option ByteArray:=match gC with
  | 0=>none
  | gC+1=>bif x4 != 0 then (bif decide ((ml .i64 x4 10) < 0) then (oZ u (eM u gC) p0 x3 x4 (cG .i64 0 (ml .i64 x4 10))) else (oZ u (eM u gC) p0 x3 x4 (ml .i64 x4 10))) else (my u p0 x3)
def dc(u:Nat)(p0:Int):Option ByteArray :=
  bif p0 == 0 then (some ((zm #[48]))) else (eM u u p0 ((zm #[])) p0)
def nL(u:Nat)(x9:Int):Option Int :=
  some x9
def jo(u:Nat)(GD:Int->Int->Int->Option Int)(p0 x8 x4:Int):Option Int :=
  GD p0 x8 (aL .i64 x4 1)
def ii(u fu:Nat)(p0 x3 x4:Int):Option Int:=match fu with
  | 0=>none
  | fu+1=>bif decide (x4 < 40) then ((dT u p0 x4).bind λr7=>bif r7 then (jo u (ii u fu) p0 (aL .i64 x3 1) x4) else (jo u (ii u fu) p0 x3 x4)) else (nL u x3)
def li(u:Nat)(p0:Int):Option Int :=
  ii u u p0 0 0
def lZ(u:Nat)(p0 s:Int):Option Int:=(nL u s)
def l5(u:Nat)(p0:Int)(i_:Nat)(s:Int)(k_:Int->Option Int):Option Int:=(dT u p0 (i_:Int)).bind λr7=>bif r7 then (jo u (λz0 z1 z2=>k_ z1) p0 (aL .i64 s 1) (i_:Int)) else (jo u (λz0 z1 z2=>k_ z1) p0 s (i_:Int))
theorem FL(u:Nat)(p0 s:Int)(k:Nat)(hn:(40:Int)<=9223372036854775807)(hk:sY (40) < k):ii u k p0 s 0=Pu.gX (lZ u p0) (l5 u p0) (sY (40)) 0 s:=Pu.kZ (λ(k:Nat) (s i:Int)=>ii u k p0 s i) hn (λ_ _ _=>rfl) s hk
def sj(u:Nat)(p0:aG):Option ByteArray :=
  bif !p0.ia then (some ((zm #[111,102,102]))) else ((wS u p0.bh).bind λr1=>(cd (decide (r1.size+((zm #[32])).size<=9223372036854775807))).bind λ_=>(dc u p0.bD).bind λr3=>(cd (decide ((r1++((zm #[32]))).size+r3.size<=9223372036854775807))).bind λ_=>(cd (decide (((r1++((zm #[32])))++r3).size+((zm #[32])).size<=9223372036854775807))).bind λ_=>(li u p0.bw.bl).bind λr6=>(dc u r6).bind λr7=>(cd (decide ((((r1++((zm #[32])))++r3)++((zm #[32]))).size+r7.size<=9223372036854775807))).bind λ_=>(cd (decide (((((r1++((zm #[32])))++r3)++((zm #[32])))++r7).size+((zm #[32])).size<=9223372036854775807))).bind λ_=>(dc u ((p0.aZ.length:Int))).bind λr10=>(cd (decide ((((((r1++((zm #[32])))++r3)++((zm #[32])))++r7)++((zm #[32]))).size+r10.size<=9223372036854775807))).bind λ_=>(cd (decide (((((((r1++((zm #[32])))++r3)++((zm #[32])))++r7)++((zm #[32])))++r10).size+((zm #[32])).size<=9223372036854775807))).bind λ_=>(dc u p0.bg).bind λr13=>(cd (decide ((((((((r1++((zm #[32])))++r3)++((zm #[32])))++r7)++((zm #[32])))++r10)++((zm #[32]))).size+r13.size<=9223372036854775807))).bind λ_=>some ((((((((r1++((zm #[32])))++r3)++((zm #[32])))++r7)++((zm #[32])))++r10)++((zm #[32])))++r13))
def uJ(u:Nat)(x10:ByteArray):Option ByteArray :=
  some x10
def iJ(u:Nat)(E8:ByteArray->Int->World->Option ByteArray)(x7:ByteArray)(x4:Int)(p0:World):Option ByteArray :=
  (dm p0.fN x4).bind λy8=>(sj u y8).bind λr9=>(cd (decide (x7.size+r9.size<=9223372036854775807))).bind λ_=>E8 (x7++r9) (aL .i64 x4 1) p0
def gr(u eV:Nat)(x3:ByteArray)(x4:Int)(p0:World):Option ByteArray:=match eV with
  | 0=>none
  | eV+1=>bif decide (x4 < ((p0.fN.length:Int))) then (bif decide (x4 > 0) then ((cd (decide (x3.size+((zm #[59,32])).size<=9223372036854775807))).bind λ_=>iJ u (gr u eV) (x3++((zm #[59,32]))) x4 p0) else (iJ u (gr u eV) x3 x4 p0)) else (uJ u x3)
def qc(u:Nat)(p0:World):Option ByteArray :=
  gr u u ((zm #[])) 0 p0
def EU(u:Nat)(p0:World)(s:ByteArray):Option ByteArray:=(uJ u s)
def xU(u:Nat)(p0:World)(i_:Nat)(s:ByteArray)(k_:ByteArray->Option ByteArray):Option ByteArray:=bif decide ((i_:Int) > 0) then ((cd (decide (s.size+((zm #[59,32])).size<=9223372036854775807))).bind λ_=>iJ u (λz0 z1 z2=>k_ z0) (s++((zm #[59,32]))) (i_:Int) p0) else (iJ u (λz0 z1 z2=>k_ z0) s (i_:Int) p0)
theorem EV(u:Nat)(p0:World)(s:ByteArray)(k:Nat)(hn:(((p0.fN.length:Int)):Int)<=9223372036854775807)(hk:sY (((p0.fN.length:Int))) < k):gr u k s 0 p0=Pu.gX (EU u p0) (xU u p0) (sY (((p0.fN.length:Int)))) 0 s:=Pu.kZ (λ(k:Nat) (s:ByteArray) (i:Int)=>gr u k s i p0) hn (λ_ _ _=>rfl) s hk
def td(u:Nat)  : Option (Int×Int×Bool) :=
  some ((0,0,false))
def fG(u kA:Nat)(p0:List Int)(p1 x3:Int)(p2 x4:Int):Option (Int×Int×Bool):=match kA with
  | 0=>none
  | kA+1=>bif decide (x4 < p2) then ((cB u p1 0 (cG .i64 (cG .i64 ((p0.length:Int)) 1) x4)).bind λr7=>bif !r7 then (some ((0,0,false))) else ((dm p0 (aL .i64 p1 x4)).bind λy8=>(cd (decide (0<=(eO .i64 7 x4)))).bind λ_=>bif decide ((Ir .i64 y8) < 128) then (bif x4 == 0 then (some ((tZ .i64 x3 (il .i64 (bJ .i64 (Ir .i64 y8) 127) (eO .i64 7 x4)),aL .i64 (aL .i64 p1 x4) 1,true))) else (some ((tZ .i64 x3 (il .i64 (bJ .i64 (Ir .i64 y8) 127) (eO .i64 7 x4)),aL .i64 (aL .i64 p1 x4) 1,decide ((Ir .i64 y8) > 0))))) else ((fG u kA) p0 p1 (tZ .i64 x3 (il .i64 (bJ .i64 (Ir .i64 y8) 127) (eO .i64 7 x4))) p2 (aL .i64 x4 1)))) else (td u)
def oE(u:Nat)(p0:List Int)(p1 p2:Int):Option (Int×Int×Bool) :=
  fG u u p0 p1 0 p2 0
def GY(u:Nat)(p0:List Int)(p1 p2 s:Int):Option (Int×Int×Bool):=(td u)
def GZ(u:Nat)(p0:List Int)(p1 p2:Int)(i_:Nat)(s:Int)(k_:Int->Option (Int×Int×Bool)):Option (Int×Int×Bool):=(cB u p1 0 (cG .i64 (cG .i64 ((p0.length:Int)) 1) (i_:Int))).bind λr7=>bif !r7 then (some ((0,0,false))) else ((dm p0 (aL .i64 p1 (i_:Int))).bind λy8=>(cd (decide (0<=(eO .i64 7 (i_:Int))))).bind λ_=>bif decide ((Ir .i64 y8) < 128) then (bif (i_:Int) == 0 then (some ((tZ .i64 s (il .i64 (bJ .i64 (Ir .i64 y8) 127) (eO .i64 7 (i_:Int))),aL .i64 (aL .i64 p1 (i_:Int)) 1,true))) else (some ((tZ .i64 s (il .i64 (bJ .i64 (Ir .i64 y8) 127) (eO .i64 7 (i_:Int))),aL .i64 (aL .i64 p1 (i_:Int)) 1,decide ((Ir .i64 y8) > 0))))) else ((λz0 z1 z2 z3 z4=>k_ z2) p0 p1 (tZ .i64 s (il .i64 (bJ .i64 (Ir .i64 y8) 127) (eO .i64 7 (i_:Int)))) p2 (aL .i64 (i_:Int) 1)))
theorem Vm(u:Nat)(p0:List Int)(p1 p2 s:Int)(k:Nat)(hn:(p2:Int)<=9223372036854775807)(hk:sY (p2) < k):fG u k p0 p1 s p2 0=Pu.gX (GY u p0 p1 p2) (GZ u p0 p1 p2) (sY (p2)) 0 s:=Pu.kZ (λ(k:Nat) (s i:Int)=>fG u k p0 p1 s p2 i) hn (λ_ _ _=>rfl) s hk
def qd(u:Nat)(r1:Int×Int×Bool)(x2:Bool):Option (Int×Int×Bool) :=
  bif x2 then (some ((0,0,false))) else (some ((r1.1,r1.2.1,true)))
def mR(u:Nat)(p0:List Int)(p1:Int):Option (Int×Int×Bool) :=
  (oE u p0 p1 6).bind λr1=>bif !r1.2.2 then (qd u r1 true) else (qd u r1 (decide (r1.1 > 1000000000000)))
def qY(u:Nat)(x11:Int)(x12:List Int):Option ((List Int)×Int×Bool) :=
  some ((x12,x11,true))
def fQ(u jA:Nat)(p0:List Int)(x4:Int)(x5:List Int)(p2 x6:Int):Option ((List Int)×Int×Bool):=match jA with
  | 0=>none
  | jA+1=>bif decide (x6 < p2) then ((mR u p0 x4).bind λr10=>bif !r10.2.2 then (some (([],0,false))) else ((cd (decide ((x5.length+(([r10.1]:List Int)).length)*8<=140737488355328))).bind λ_=>(fQ u jA) p0 r10.2.1 (x5++(([r10.1]:List Int))) p2 (aL .i64 x6 1))) else (qY u x4 x5)
def m5(u:Nat)(p0:List Int)(p1 p2:Int):Option ((List Int)×Int×Bool) :=
  fQ u u p0 p1 (([]:List Int)) p2 0
def FM(u:Nat)(p0:List Int)(p2:Int)(s:Int×(List Int)):Option ((List Int)×Int×Bool):=(qY u s.1 s.2)
def FN(u:Nat)(p0:List Int)(p2:Int)(i_:Nat)(s:Int×(List Int))(k_:(Int×(List Int))->Option ((List Int)×Int×Bool)):Option ((List Int)×Int×Bool):=(mR u p0 s.1).bind λr10=>bif !r10.2.2 then (some (([],0,false))) else ((cd (decide ((s.2.length+(([r10.1]:List Int)).length)*8<=140737488355328))).bind λ_=>(λz0 z1 z2 z3 z4=>k_ (z1,z2)) p0 r10.2.1 (s.2++(([r10.1]:List Int))) p2 (aL .i64 (i_:Int) 1))
theorem T3(u:Nat)(p0:List Int)(p2:Int)(s:Int×(List Int))(k:Nat)(hn:(p2:Int)<=9223372036854775807)(hk:sY (p2) < k):fQ u k p0 s.1 s.2 p2 0=Pu.gX (FM u p0 p2) (FN u p0 p2) (sY (p2)) 0 s:=Pu.kZ (λ(k:Nat) (s:Int×(List Int)) (i:Int)=>fQ u k p0 s.1 s.2 p2 i) hn (λ_ _ _=>rfl) s hk
def tU(u:Nat)(p0 p1:Int):Option Bool :=
  (cB u p0 2 6).bind λr1=>bif r1 then ((cB u p1 0 (eO .i64 40 p0)).bind λr2=>some r2) else (some false)
def te(u:Nat)(p0 p1:Int)(x3:Bool):Option Int :=
  bif x3 then (some 0) else ((cd (!(p1 == 0))).bind λ_=>some (Pc .i64 (cG .i64 (aL .i64 p0 p1) 1) p1))
def uK(u:Nat)(p0 p1:Int):Option Int :=
  (cB u p0 0 1000000000000).bind λr1=>bif !r1 then (te u p0 p1 true) else ((cB u p1 1 1000000000000).bind λr2=>te u p0 p1 (!r2))
def qe(u:Nat)(p0 p1:Int):Option Int :=
  (tU u p0 p1).bind λr1=>bif !r1 then (some 0) else ((uK u p1 p0).bind λr2=>some r2)
def xw(u:Nat)(x17:List Int):Option ((List Int)×Bool) :=
  some ((x17,true))
def mz(u kx:Nat)(p0 x5:Int)(x11:List Int)(x12:Int):Option ((List Int)×Bool):=match kx with
  | 0=>none
  | kx+1=>bif decide (x12 < (((zQq (sY x5) (0:Int)).length:Int))) then ((cd (decide (0<=(eO .i64 8 (cG .i64 (cG .i64 x5 1) x12))))).bind λ_=>(dm x11 x12).bind λy16=>(mz u kx) p0 x5 (x11.set (sY x12) (Ir .u8 (cU .i64 p0 (eO .i64 8 (cG .i64 (cG .i64 x5 1) x12))))) (aL .i64 x12 1)) else (xw u x11)
def mA(u:Nat)(p0 x5:Int)(x6:Bool):Option ((List Int)×Bool) :=
  bif x6 then (some (([],false))) else ((cd (decide (0<=x5) && (x5 == 0 || x5 == x5))).bind λ_=>(cd (decide (sY x5*1<=140737488355328))).bind λ_=>mz u u p0 x5 (zQq (sY x5) (0:Int)) 0)
def o3(u:Nat)(p0 x5:Int):Option ((List Int)×Bool) :=
  bif decide (p0 < 1) then (mA u p0 x5 true) else ((cd (decide (0<=(eO .i64 8 x5)))).bind λ_=>mA u p0 x5 ((cU .i64 p0 (eO .i64 8 x5)) != 1))
def o4(u:Nat)(Ip:Int->Int->Option ((List Int)×Bool))(p0 x2:Int)(x4:Bool):Option ((List Int)×Bool) :=
  bif x4 then (Ip p0 (aL .i64 x2 1)) else (o3 u p0 x2)
def gU(u gz:Nat)(p0 x2:Int):Option ((List Int)×Bool):=match gz with
  | 0=>none
  | gz+1=>bif decide (x2 < 6) then ((cd (decide (0<=(eO .i64 8 x2)))).bind λ_=>o4 u (gU u gz) p0 x2 (decide ((cU .i64 p0 (eO .i64 8 x2)) > 1))) else (o4 u (gU u gz) p0 x2 false)
def mS(u:Nat)(p0:Int):Option ((List Int)×Bool) :=
  gU u u p0 0
def G0(u:Nat)(p0 x5:Int)(s:(List Int)):Option ((List Int)×Bool):=(xw u s)
def zS(u:Nat)(p0 x5:Int)(i_:Nat)(s:(List Int))(k_:((List Int))->Option ((List Int)×Bool)):Option ((List Int)×Bool):=(cd (decide (0<=(eO .i64 8 (cG .i64 (cG .i64 x5 1) (i_:Int)))))).bind λ_=>(dm s (i_:Int)).bind λy16=>(λz0 z1 z2 z3=>k_ z2) p0 x5 (s.set (sY (i_:Int)) (Ir .u8 (cU .i64 p0 (eO .i64 8 (cG .i64 (cG .i64 x5 1) (i_:Int)))))) (aL .i64 (i_:Int) 1)
theorem G1(u:Nat)(p0 x5:Int)(s:(List Int))(k:Nat)(hn:((((zQq (sY x5) (0:Int)).length:Int)):Int)<=9223372036854775807)(hk:sY ((((zQq (sY x5) (0:Int)).length:Int))) < k):mz u k p0 x5 s 0=Pu.gX (G0 u p0 x5) (zS u p0 x5) (sY ((((zQq (sY x5) (0:Int)).length:Int)))) 0 s:=Pu.kZ (λ(k:Nat) (s:(List Int)) (i:Int)=>mz u k p0 x5 s i) hn (λ_ _ _=>rfl) s hk
def yu(u:Nat)(p0 p1:Int):Option Int :=
  (cB u p1 1 1000000000000).bind λr1=>bif !r1 then (some 0) else ((cd (!(p1 == 0))).bind λ_=>(cd (!(p1 == 0))).bind λ_=>some (ml .i64 (aL .i64 (ml .i64 p0 p1) p1) p1))
def Bg(u:Nat)(p0 p1:Int):Option Int :=
  (yu u p0 251).bind λr1=>(yu u p1 251).bind λr2=>some (aL .i64 r1 (eO .i64 251 r2))
def qf(u:Nat)(x11 x12:Int):Option Int :=
  (Bg u x11 x12).bind λr13=>some r13
def nM(u lD:Nat)(x4 x5:Int)(p0:List Int)(x6:Int):Option Int:=match lD with
  | 0=>none
  | lD+1=>bif decide (x6 < ((p0.length:Int))) then ((dm p0 x6).bind λy10=>(nM u lD) (ml .i64 (aL .i64 x4 (Ir .i64 y10)) 251) (ml .i64 (aL .i64 x5 (ml .i64 (aL .i64 x4 (Ir .i64 y10)) 251)) 251) p0 (aL .i64 x6 1)) else (qf u x4 x5)
def oe(u:Nat)(p0:List Int):Option Int :=
  nM u u 0 0 p0 0
def Bh(u:Nat)(p0:List Int)(s:Int×Int):Option Int:=(qf u s.1 s.2)
def vP(u:Nat)(p0:List Int)(y10:Int)(i_:Nat)(s:Int×Int)(k_:(Int×Int)->Option Int):Option Int:=(λz0 z1 z2 z3=>k_ (z0,z1)) (ml .i64 (aL .i64 s.1 (Ir .i64 y10)) 251) (ml .i64 (aL .i64 s.2 (ml .i64 (aL .i64 s.1 (Ir .i64 y10)) 251)) 251) p0 (aL .i64 (i_:Int) 1)
theorem IR(u:Nat)(p0:List Int)(s:Int×Int)(k:Nat)(hn:p0.length<=9223372036854775807)(hk:p0.length < k):nM u k s.1 s.2 p0 0=Pu.bZ (Bh u p0) (vP u p0) p0 0 s:=Pu.dz (λ(k:Nat) (s:Int×Int) (i:Int)=>nM u k s.1 s.2 p0 i) hn (λ_ _ _=>rfl) s hk
def sm(u:Nat)(p0:List Int)(x8:Int):Option cC :=
  (oe u p0).bind λr9=>some ((cC.mk r9 x8))
def pv(u mE:Nat)(p0:List Int)(x3 x4:Int):Option cC:=match mE with
  | 0=>none
  | mE+1=>bif decide (x4 < ((p0.length:Int))) then ((dm p0 x4).bind λy7=>(pv u mE) p0 (tZ .i64 (il .i64 x3 8) (Ir .i64 y7)) (aL .i64 x4 1)) else (sm u p0 x3)
def yR(u:Nat)(p0:List Int):Option cC :=
  bif decide (((p0.length:Int)) > 6) then (some ((cC.mk 0 0))) else (pv u u p0 1 0)
def CD(u:Nat)(p0:List Int)(s:Int):Option cC:=(sm u p0 s)
def xy(u:Nat)(p0:List Int)(y7:Int)(i_:Nat)(s:Int)(k_:Int->Option cC):Option cC:=(λz0 z1 z2=>k_ z1) p0 (tZ .i64 (il .i64 s 8) (Ir .i64 y7)) (aL .i64 (i_:Int) 1)
theorem KU(u:Nat)(p0:List Int)(s:Int)(k:Nat)(hn:p0.length<=9223372036854775807)(hk:p0.length < k):pv u k p0 s 0=Pu.bZ (CD u p0) (xy u p0) p0 0 s:=Pu.dz (λ(k:Nat) (s i:Int)=>pv u k p0 s i) hn (λ_ _ _=>rfl) s hk
def l6(u:Nat)(p0:af):Option Bool :=
  bif p0.aH == 0 then (bif p0.aB == 0 then (bif p0.aT == 0 then (some (((p0.aI.length:Int)) == 0)) else (some false)) else (some false)) else (some false)
def tW(u:Nat)(p0 p1 p2:Int):Option (Int×Int) :=
  (qe u p0 p1).bind λr1=>(cB u p2 0 (cG .i64 r1 1)).bind λr2=>bif !r2 then (some ((0,0))) else (some ((eO .i64 p2 p0,if (cG .i64 p1 (eO .i64 p2 p0)) < p0 then (cG .i64 p1 (eO .i64 p2 p0)) else p0)))
def AF(u:Nat)  : Option Bool :=
  some true
def lj(u:Nat)(L5:af->Int->Option Bool)(p0:af)(x7:Int)(x13:Bool):Option Bool :=
  bif x13 then (some false) else (L5 p0 (aL .i64 x7 1))
def jK(u hH:Nat)(p0:af)(x7:Int):Option Bool:=match hH with
  | 0=>none
  | hH+1=>bif decide (x7 < ((p0.aI.length:Int))) then ((dm p0.aI x7).bind λy9=>(mS u y9.fS).bind λr10=>(tW u p0.aB p0.aT x7).bind λr11=>bif !r10.2 then (lj u (jK u hH) p0 x7 true) else (bif ((r10.1.length:Int)) != r11.2 then (lj u (jK u hH) p0 x7 true) else ((oe u r10.1).bind λr12=>lj u (jK u hH) p0 x7 (r12 != y9.fW)))) else (AF u)
def sn(u:Nat)(x5:Bool)(p0:af):Option Bool :=
  bif x5 then (some false) else (jK u u p0 0)
def tJ(u:Nat)(p0:af):Option Bool :=
  (l6 u p0).bind λr1=>bif r1 then (some true) else ((cB u p0.aH 1 1000000).bind λr2=>bif !r2 then (sn u true p0) else ((tU u p0.aB p0.aT).bind λr3=>bif !r3 then (sn u true p0) else ((qe u p0.aB p0.aT).bind λr4=>sn u (((p0.aI.length:Int)) != r4) p0)))
def CE(u:Nat)(p0:af)(s:Unit):Option Bool:=(AF u)
def xz(u:Nat)(p0:af)(y9:cC)(i_:Nat)(s:Unit)(k_:Unit->Option Bool):Option Bool:=(mS u y9.fS).bind λr10=>(tW u p0.aB p0.aT (i_:Int)).bind λr11=>bif !r10.2 then (lj u (λz0 z1=>k_ ()) p0 (i_:Int) true) else (bif ((r10.1.length:Int)) != r11.2 then (lj u (λz0 z1=>k_ ()) p0 (i_:Int) true) else ((oe u r10.1).bind λr12=>lj u (λz0 z1=>k_ ()) p0 (i_:Int) (r12 != y9.fW)))
theorem KV(u:Nat)(p0:af)(s:Unit)(k:Nat)(hn:p0.aI.length<=9223372036854775807)(hk:p0.aI.length < k):jK u k p0 0=Pu.bZ (CE u p0) (xz u p0) p0.aI 0 s:=Pu.dz (λ(k:Nat) (s:Unit) (i:Int)=>jK u k p0 i) hn (λ_ _ _=>rfl) s hk
def uL(u:Nat)(x19 y2:Int)(y3 y4:Int)(x20:List cC):Option (af×Int×Bool) :=
  (tJ u ((af.mk y2 y3 y4 x20))).bind λr21=>bif !r21 then (some (((af.mk 0 0 0 ([])),0,false))) else (some (((af.mk y2 y3 y4 x20),x19,true)))
def nN(u:Nat)(J7:(List Int)->Int->Int->Int->Int->Int->Int->(List cC)->Option (af×Int×Bool))(p0:List Int)(x9:Int)(r15:Int×Int×Bool)(r16:(List Int)×Bool)(r5 x10:Int)(x17:Bool)(y2 y3 y4:Int)(x11:List cC):Option (af×Int×Bool) :=
  bif x17 then (some (((af.mk 0 0 0 ([])),0,false))) else ((yR u r16.1).bind λr18=>(cd (decide ((x11.length+([r18]).length)*16<=140737488355328))).bind λ_=>J7 p0 r15.2.1 r5 (aL .i64 x10 1) y2 y3 y4 (x11++([r18])))
def fq(u iq:Nat)(p0:List Int)(x9 r5:Int)(x10 y2:Int)(y3 y4:Int)(x11:List cC):Option (af×Int×Bool):=match iq with
  | 0=>none
  | iq+1=>bif decide (x10 < r5) then ((oE u p0 x9 8).bind λr15=>(mS u r15.1).bind λr16=>bif !r15.2.2 then (nN u (fq u iq) p0 x9 r15 r16 r5 x10 true y2 y3 y4 x11) else (nN u (fq u iq) p0 x9 r15 r16 r5 x10 (!r16.2) y2 y3 y4 x11)) else (uL u x9 y2 y3 y4 x11)
def wT(u:Nat)(p0:List Int)(p1:Int):Option (af×Int×Bool) :=
  (m5 u p0 p1 3).bind λr1=>bif !r1.2.2 then (some (((af.mk 0 0 0 ([])),0,false))) else ((dm r1.1 0).bind λy2=>(dm r1.1 1).bind λy3=>(dm r1.1 2).bind λy4=>(qe u y3 y4).bind λr5=>fq u u p0 r1.2.1 r5 0 y2 y3 y4 ([]))
def IS(u:Nat)(p0:List Int)(r5 y2:Int)(y3 y4:Int)(s:Int×(List cC)):Option (af×Int×Bool):=(uL u s.1 y2 y3 y4 s.2)
def IT(u:Nat)(p0:List Int)(r5 y2:Int)(y3 y4:Int)(i_:Nat)(s:Int×(List cC))(k_:(Int×(List cC))->Option (af×Int×Bool)):Option (af×Int×Bool):=(oE u p0 s.1 8).bind λr15=>(mS u r15.1).bind λr16=>bif !r15.2.2 then (nN u (λz0 z1 z2 z3 z4 z5 z6 z7=>k_ (z1,z7)) p0 s.1 r15 r16 r5 (i_:Int) true y2 y3 y4 s.2) else (nN u (λz0 z1 z2 z3 z4 z5 z6 z7=>k_ (z1,z7)) p0 s.1 r15 r16 r5 (i_:Int) (!r16.2) y2 y3 y4 s.2)
theorem VZ(u:Nat)(p0:List Int)(r5 y2:Int)(y3 y4:Int)(s:Int×(List cC))(k:Nat)(hn:(r5:Int)<=9223372036854775807)(hk:sY (r5) < k):fq u k p0 s.1 r5 0 y2 y3 y4 s.2=Pu.gX (IS u p0 r5 y2 y3 y4) (IT u p0 r5 y2 y3 y4) (sY (r5)) 0 s:=Pu.kZ (λ(k:Nat) (s:Int×(List cC)) (i:Int)=>fq u k p0 s.1 r5 i y2 y3 y4 s.2) hn (λ_ _ _=>rfl) s hk
def so(u:Nat)(p0:List Int)(p1 p2:Int)(x3:Bool):Option ((List Int)×Bool) :=
  bif x3 then (some (([],false))) else ((cd (cS p1 (aL .i64 p1 p2) p0.length)).bind λ_=>(lg u ((p0.take (sY (aL .i64 p1 p2))).drop (sY p1))).bind λr5=>some ((r5,true)))
def vQ(u:Nat)(p0:List Int)(p1 p2:Int):Option ((List Int)×Bool) :=
  (cB u p1 0 ((p0.length:Int))).bind λr1=>bif !r1 then (so u p0 p1 p2 true) else ((cB u p2 0 (cG .i64 ((p0.length:Int)) p1)).bind λr2=>so u p0 p1 p2 (!r2))
def tg(u:Nat)(p0:List Int)(r1:Int×Int×Bool)(x2:Bool):Option ((List Int)×Int×Bool) :=
  bif x2 then (some (([],0,false))) else ((vQ u p0 r1.2.1 r1.1).bind λr3=>bif !r3.2 then (some (([],0,false))) else (some ((r3.1,aL .i64 r1.2.1 r1.1,true))))
def uM(u:Nat)(p0:List Int)(p1 p2:Int):Option ((List Int)×Int×Bool) :=
  (mR u p0 p1).bind λr1=>bif !r1.2.2 then (tg u p0 r1 true) else (tg u p0 r1 (decide (r1.1 > p2)))
def kK(u:Nat)(x13:Bool)(p1 x14:Int)(x15 x16 x17:Int)(x18:List cC)(x19 x20 x21:Int)(x22:List Int):Option (dW×Bool) :=
  some (((dW.mk p1 x14 ((af.mk x15 x16 x17 x18)) x19 x20 x21 x22),x13))
def fU(u:Nat)(p0:List Int)(p1 p2:Int):Option (dW×Bool) :=
  bif p1 == 1 then ((wT u p0 p2).bind λr1=>kK u r1.2.2 p1 0 r1.1.aH r1.1.aB r1.1.aT r1.1.aI 0 0 0 ([])) else (bif p1 == 2 then ((m5 u p0 p2 5).bind λr2=>bif !r2.2.2 then (some (((dW.mk 0 0 ((af.mk 0 0 0 ([]))) 0 0 0 ([])),false))) else ((dm r2.1 0).bind λy3=>(dm r2.1 1).bind λy4=>(dm r2.1 2).bind λy5=>(dm r2.1 3).bind λy6=>(dm r2.1 4).bind λy7=>kK u true p1 y3 0 0 0 ([]) (tZ .i64 y4 (il .i64 y5 20)) (tZ .i64 y6 (il .i64 y7 20)) 0 ([]))) else (bif p1 == 3 then ((m5 u p0 p2 2).bind λr8=>bif !r8.2.2 then (some (((dW.mk 0 0 ((af.mk 0 0 0 ([]))) 0 0 0 ([])),false))) else ((dm r8.1 0).bind λy9=>(dm r8.1 1).bind λy10=>(uM u p0 r8.2.1 6).bind λr11=>kK u r11.2.2 p1 y9 0 0 0 ([]) 0 0 y10 r11.1)) else (bif p1 == 4 then ((mR u p0 p2).bind λr12=>kK u r12.2.2 p1 r12.1 0 0 0 ([]) 0 0 0 ([])) else (kK u false p1 0 0 0 0 ([]) 0 0 0 ([])))))
def jp(u:Nat)(p0:dW)(p1 p2 p3:Bool):Option Bool :=
  bif p1 then (bif p2 then (bif p3 then (some true) else (bif p0.fI == 0 then (some (((p0.fB.length:Int)) == 0)) else (some false))) else (bif p0.bQ == 0 then (bif p0.bW == 0 then (bif p3 then (some true) else (bif p0.fI == 0 then (some (((p0.fB.length:Int)) == 0)) else (some false))) else (some false)) else (some false))) else ((l6 u p0.ay).bind λr1=>bif r1 then (bif p2 then (bif p3 then (some true) else (bif p0.fI == 0 then (some (((p0.fB.length:Int)) == 0)) else (some false))) else (bif p0.bQ == 0 then (bif p0.bW == 0 then (bif p3 then (some true) else (bif p0.fI == 0 then (some (((p0.fB.length:Int)) == 0)) else (some false))) else (some false)) else (some false))) else (some false))
def yf(u:Nat)(p0:Int):Option Bool :=
  (cB u p0 0 39).bind λr1=>some r1
def tK(u:Nat)(p0:dW):Option Bool :=
  bif p0.ba == 1 then ((tJ u p0.ay).bind λr1=>bif r1 then (bif p0.ay.aH != 0 then (bif p0.aH == 0 then ((jp u p0 true false false).bind λr2=>some r2) else (some false)) else (some false)) else (some false)) else (bif p0.ba == 2 then ((tG u p0.aH).bind λr3=>bif r3 then ((tH u p0.bQ).bind λr4=>bif r4 then ((tH u p0.bW).bind λr5=>bif r5 then ((jp u p0 false true false).bind λr6=>some r6) else (some false)) else (some false)) else (some false)) else (bif p0.ba == 3 then ((cB u p0.aH 1 1000000).bind λr7=>bif r7 then ((yf u p0.fI).bind λr8=>bif r8 then ((cB u ((p0.fB.length:Int)) 1 6).bind λr9=>bif r9 then ((jp u p0 false false true).bind λr10=>some r10) else (some false)) else (some false)) else (some false)) else (bif p0.ba == 4 then ((tG u p0.aH).bind λr11=>bif r11 then ((jp u p0 false false false).bind λr12=>some r12) else (some false)) else (some false))))
def pC(u:Nat)(x7:List Int)(x8:Int):Option ((List Int)) :=
  (cd (decide ((x7.length+(([Ir .u8 x8]:List Int)).length)*1<=140737488355328))).bind λ_=>some (x7++(([Ir .u8 x8]:List Int)))
def iK(u iU:Nat)(x3:List Int)(x4:Int):Option ((List Int)):=match iU with
  | 0=>none
  | iU+1=>bif decide (x4>=128) then ((cd (decide ((x3.length+(([tZ .u8 (Ir .u8 x4) 128]:List Int)).length)*1<=140737488355328))).bind λ_=>(iK u iU) (x3++(([tZ .u8 (Ir .u8 x4) 128]:List Int))) (cU .i64 x4 7)) else (pC u x3 x4)
def nO(u:Nat)(p0:List Int)(p1:Int):Option ((List Int)) :=
  iK u u p0 p1
def ef(u:Nat)(p0:List Int)(p1:Int):Option ((List Int)) :=
  (lg u p0).bind λr1=>(cB u p1 0 1000000000000).bind λr2=>bif !r2 then (some r1) else ((nO u r1 p1).bind λr3=>some r3)
def yS(u:Nat)(x14:List Int):Option ((List Int)) :=
  some x14
def nP(u lC:Nat)(x8:List Int)(p1:af)(x9:Int):Option ((List Int)):=match lC with
  | 0=>none
  | lC+1=>bif decide (x9 < ((p1.aI.length:Int))) then ((dm p1.aI x9).bind λy12=>(nO u x8 y12.fS).bind λr13=>(nP u lC) r13 p1 (aL .i64 x9 1)) else (yS u x8)
def wU(u:Nat)(p0:List Int)(p1:af):Option ((List Int)) :=
  (tJ u p1).bind λr1=>bif !r1 then ((lg u p0).bind λr2=>some r2) else ((ef u p0 p1.aH).bind λr3=>(ef u r3 p1.aB).bind λr4=>(ef u r4 p1.aT).bind λr5=>nP u u r5 p1 0)
def Bi(u:Nat)(p1:af)(s:(List Int)):Option ((List Int)):=(yS u s)
def vR(u:Nat)(p1:af)(y12:cC)(i_:Nat)(s:(List Int))(k_:((List Int))->Option ((List Int))):Option ((List Int)):=(nO u s y12.fS).bind λr13=>(λz0 z1 z2=>k_ z0) r13 p1 (aL .i64 (i_:Int) 1)
theorem IU(u:Nat)(p1:af)(s:(List Int))(k:Nat)(hn:p1.aI.length<=9223372036854775807)(hk:p1.aI.length < k):nP u k s p1 0=Pu.bZ (Bi u p1) (vR u p1) p1.aI 0 s:=Pu.dz (λ(k:Nat) (s:(List Int)) (i:Int)=>nP u k s p1 i) hn (λ_ _ _=>rfl) s hk
def wV(u:Nat)(p0:List Int)(p1:Int):Option ((List Int)) :=
  (ef u p0 (bJ .i64 p1 1048575)).bind λr1=>(ef u r1 (cU .i64 p1 20)).bind λr2=>some r2
def yg(u:Nat)(p0 p1:List Int):Option ((List Int)) :=
  (ef u p0 ((p1.length:Int))).bind λr1=>(cd (decide ((r1.length+p1.length)*1<=140737488355328))).bind λ_=>some (r1++p1)
def j9(u:Nat)(x11:List Int):Option ((List Int)) :=
  (oe u x11).bind λr12=>(ef u x11 r12).bind λr13=>some r13
def wW(u:Nat)(p0:dW):Option ((List Int)) :=
  (tK u p0).bind λr1=>bif !r1 then (some ([])) else ((ef u ([]) p0.ba).bind λr2=>bif p0.ba == 1 then ((wU u r2 p0.ay).bind λr3=>j9 u r3) else (bif p0.ba == 2 then ((ef u r2 p0.aH).bind λr4=>(wV u r4 p0.bQ).bind λr5=>(wV u r5 p0.bW).bind λr6=>j9 u r6) else (bif p0.ba == 3 then ((ef u r2 p0.aH).bind λr7=>(ef u r7 p0.fI).bind λr8=>(yg u r8 p0.fB).bind λr9=>j9 u r9) else (bif p0.ba == 4 then ((ef u r2 p0.aH).bind λr10=>j9 u r10) else (j9 u r2)))))
def qg(u:Nat)(x7:Bool)(r3:dW×Bool):Option (dW×Bool) :=
  bif x7 then (some (((dW.mk 0 0 ((af.mk 0 0 0 ([]))) 0 0 0 ([])),false))) else (some ((r3.1,true)))
def uN(u:Nat)(p0:List Int)(r1:Int×Int×Bool)(x2:Bool):Option (dW×Bool) :=
  bif x2 then (some (((dW.mk 0 0 ((af.mk 0 0 0 ([]))) 0 0 0 ([])),false))) else ((fU u p0 r1.1 r1.2.1).bind λr3=>bif !r3.2 then (qg u true r3) else ((tK u r3.1).bind λr4=>bif !r4 then (qg u true r3) else ((wW u r3.1).bind λr5=>(p7 u r5 p0).bind λr6=>qg u (!r6) r3)))
def wX(u:Nat)(p0:List Int):Option (dW×Bool) :=
  (mR u p0 0).bind λr1=>bif !r1.2.2 then (uN u p0 r1 true) else (uN u p0 r1 (decide (((p0.length:Int)) > 400)))
def uO(u:Nat)(p0:dW):Option ByteArray :=
  (tK u p0).bind λr1=>bif !r1 then (some ((zm #[]))) else (bif p0.ba == 1 then ((de u p0.ay.aH).bind λr2=>(cd (decide (((zm #[109,97,110,32])).size+r2.size<=9223372036854775807))).bind λ_=>some (((zm #[109,97,110,32]))++r2)) else (bif p0.ba == 2 then ((de u p0.aH).bind λr4=>(cd (decide (((zm #[119,97,110,116,32])).size+r4.size<=9223372036854775807))).bind λ_=>(cd (decide ((((zm #[119,97,110,116,32]))++r4).size+((zm #[32])).size<=9223372036854775807))).bind λ_=>(lh u p0.bQ).bind λr7=>(de u r7).bind λr8=>(cd (decide (((((zm #[119,97,110,116,32]))++r4)++((zm #[32]))).size+r8.size<=9223372036854775807))).bind λ_=>(cd (decide ((((((zm #[119,97,110,116,32]))++r4)++((zm #[32])))++r8).size+((zm #[32])).size<=9223372036854775807))).bind λ_=>(lh u p0.bW).bind λr11=>(de u r11).bind λr12=>(cd (decide (((((((zm #[119,97,110,116,32]))++r4)++((zm #[32])))++r8)++((zm #[32]))).size+r12.size<=9223372036854775807))).bind λ_=>some (((((((zm #[119,97,110,116,32]))++r4)++((zm #[32])))++r8)++((zm #[32])))++r12)) else (bif p0.ba == 3 then ((de u p0.aH).bind λr14=>(cd (decide (((zm #[112,97,114,116,32])).size+r14.size<=9223372036854775807))).bind λ_=>(cd (decide ((((zm #[112,97,114,116,32]))++r14).size+((zm #[32])).size<=9223372036854775807))).bind λ_=>(de u p0.fI).bind λr17=>(cd (decide (((((zm #[112,97,114,116,32]))++r14)++((zm #[32]))).size+r17.size<=9223372036854775807))).bind λ_=>some (((((zm #[112,97,114,116,32]))++r14)++((zm #[32])))++r17)) else ((de u p0.aH).bind λr19=>(cd (decide (((zm #[98,101,97,116,32])).size+r19.size<=9223372036854775807))).bind λ_=>some (((zm #[98,101,97,116,32]))++r19)))))
def l7(u:Nat)(x3:ByteArray)(p0:ak):Option ByteArray :=
  (de u p0.cQ).bind λr4=>(cd (decide (r4.size+((zm #[62])).size<=9223372036854775807))).bind λ_=>(de u p0.rB).bind λr6=>(cd (decide ((r4++((zm #[62]))).size+r6.size<=9223372036854775807))).bind λ_=>(cd (decide (((r4++((zm #[62])))++r6).size+((zm #[32])).size<=9223372036854775807))).bind λ_=>(cd (decide ((((r4++((zm #[62])))++r6)++((zm #[32]))).size+x3.size<=9223372036854775807))).bind λ_=>some ((((r4++((zm #[62])))++r6)++((zm #[32])))++x3)
def gV(u:Nat)(p0:ak):Option ByteArray :=
  (wX u p0.fB).bind λr1=>bif r1.2 then ((uO u r1.1).bind λr2=>l7 u r2 p0) else (l7 u ((zm #[63])) p0)
def th(u:Nat)(x9:List ByteArray):Option ByteArray :=
  (strings_Join u x9 ((zm #[59,32]))).bind λr10=>some r10
def mB(u kz:Nat)(x3:List ByteArray)(p0:World)(x4:Int):Option ByteArray:=match kz with
  | 0=>none
  | kz+1=>bif decide (x4 < ((p0.br.length:Int))) then ((dm p0.br x4).bind λy7=>(gV u y7).bind λr8=>(cd (decide ((x3.length+([r8]).length)*16<=140737488355328))).bind λ_=>(mB u kz) (x3++([r8])) p0 (aL .i64 x4 1)) else (th u x3)
def qZ(u:Nat)(p0:World):Option ByteArray :=
  bif ((p0.br.length:Int)) == 0 then (some ((zm #[45]))) else (mB u u (([]:List ByteArray)) p0 0)
def zT(u:Nat)(p0:World)(s:(List ByteArray)):Option ByteArray:=(th u s)
def zU(u:Nat)(p0:World)(y7:ak)(i_:Nat)(s:(List ByteArray))(k_:((List ByteArray))->Option ByteArray):Option ByteArray:=(gV u y7).bind λr8=>(cd (decide ((s.length+([r8]).length)*16<=140737488355328))).bind λ_=>(λz0 z1 z2=>k_ z0) (s++([r8])) p0 (aL .i64 (i_:Int) 1)
theorem G2(u:Nat)(p0:World)(s:(List ByteArray))(k:Nat)(hn:p0.br.length<=9223372036854775807)(hk:p0.br.length < k):mB u k s p0 0=Pu.bZ (zT u p0) (zU u p0) p0.br 0 s:=Pu.dz (λ(k:Nat) (s:(List ByteArray)) (i:Int)=>mB u k s p0 i) hn (λ_ _ _=>rfl) s hk
def uP(u:Nat)(p0:dW):Option ByteArray :=
  (tz u p0).bind λr1=>bif !r1 then (some ((zm #[]))) else (bif p0.ba == 1 then ((dc u p0.ay.aH).bind λr2=>(cd (decide (((zm #[109,97,110,32])).size+r2.size<=9223372036854775807))).bind λ_=>some (((zm #[109,97,110,32]))++r2)) else (bif p0.ba == 2 then ((dc u p0.aH).bind λr4=>(cd (decide (((zm #[119,97,110,116,32])).size+r4.size<=9223372036854775807))).bind λ_=>(cd (decide ((((zm #[119,97,110,116,32]))++r4).size+((zm #[32])).size<=9223372036854775807))).bind λ_=>(li u p0.bQ).bind λr7=>(dc u r7).bind λr8=>(cd (decide (((((zm #[119,97,110,116,32]))++r4)++((zm #[32]))).size+r8.size<=9223372036854775807))).bind λ_=>(cd (decide ((((((zm #[119,97,110,116,32]))++r4)++((zm #[32])))++r8).size+((zm #[32])).size<=9223372036854775807))).bind λ_=>(li u p0.bW).bind λr11=>(dc u r11).bind λr12=>(cd (decide (((((((zm #[119,97,110,116,32]))++r4)++((zm #[32])))++r8)++((zm #[32]))).size+r12.size<=9223372036854775807))).bind λ_=>some (((((((zm #[119,97,110,116,32]))++r4)++((zm #[32])))++r8)++((zm #[32])))++r12)) else (bif p0.ba == 3 then ((dc u p0.aH).bind λr14=>(cd (decide (((zm #[112,97,114,116,32])).size+r14.size<=9223372036854775807))).bind λ_=>(cd (decide ((((zm #[112,97,114,116,32]))++r14).size+((zm #[32])).size<=9223372036854775807))).bind λ_=>(dc u p0.fI).bind λr17=>(cd (decide (((((zm #[112,97,114,116,32]))++r14)++((zm #[32]))).size+r17.size<=9223372036854775807))).bind λ_=>some (((((zm #[112,97,114,116,32]))++r14)++((zm #[32])))++r17)) else ((dc u p0.aH).bind λr19=>(cd (decide (((zm #[98,101,97,116,32])).size+r19.size<=9223372036854775807))).bind λ_=>some (((zm #[98,101,97,116,32]))++r19)))))
def gW(u:Nat)(p0:ak):Option ByteArray :=
  (dc u p0.cQ).bind λr1=>(cd (decide (r1.size+((zm #[62])).size<=9223372036854775807))).bind λ_=>(dc u p0.rB).bind λr3=>(cd (decide ((r1++((zm #[62]))).size+r3.size<=9223372036854775807))).bind λ_=>(cd (decide (((r1++((zm #[62])))++r3).size+((zm #[32])).size<=9223372036854775807))).bind λ_=>(jU u p0.fB).bind λr6=>bif !r6.2 then ((cd (decide ((((r1++((zm #[62])))++r3)++((zm #[32]))).size+((zm #[63])).size<=9223372036854775807))).bind λ_=>some ((((r1++((zm #[62])))++r3)++((zm #[32])))++((zm #[63])))) else ((uP u r6.1).bind λr8=>(cd (decide ((((r1++((zm #[62])))++r3)++((zm #[32]))).size+r8.size<=9223372036854775807))).bind λ_=>some ((((r1++((zm #[62])))++r3)++((zm #[32])))++r8))
def ti(u:Nat)(x10:ByteArray)(p0:World):Option ByteArray :=
  bif ((p0.br.length:Int)) == 0 then (some ((zm #[45]))) else (some x10)
def kL(u:Nat)(It:ByteArray->Int->World->Option ByteArray)(x7:ByteArray)(x4:Int)(p0:World):Option ByteArray :=
  (dm p0.br x4).bind λy8=>(gW u y8).bind λr9=>(cd (decide (x7.size+r9.size<=9223372036854775807))).bind λ_=>It (x7++r9) (aL .i64 x4 1) p0
def i1(u gB:Nat)(x3:ByteArray)(x4:Int)(p0:World):Option ByteArray:=match gB with
  | 0=>none
  | gB+1=>bif decide (x4 < ((p0.br.length:Int))) then (bif decide (x4 > 0) then ((cd (decide (x3.size+((zm #[59,32])).size<=9223372036854775807))).bind λ_=>kL u (i1 u gB) (x3++((zm #[59,32]))) x4 p0) else (kL u (i1 u gB) x3 x4 p0)) else (ti u x3 p0)
def uQ(u:Nat)(p0:World):Option ByteArray :=
  i1 u u ((zm #[])) 0 p0
def zV(u:Nat)(p0:World)(s:ByteArray):Option ByteArray:=(ti u s p0)
def zW(u:Nat)(p0:World)(i_:Nat)(s:ByteArray)(k_:ByteArray->Option ByteArray):Option ByteArray:=bif decide ((i_:Int) > 0) then ((cd (decide (s.size+((zm #[59,32])).size<=9223372036854775807))).bind λ_=>kL u (λz0 z1 z2=>k_ z0) (s++((zm #[59,32]))) (i_:Int) p0) else (kL u (λz0 z1 z2=>k_ z0) s (i_:Int) p0)
theorem G3(u:Nat)(p0:World)(s:ByteArray)(k:Nat)(hn:(((p0.br.length:Int)):Int)<=9223372036854775807)(hk:sY (((p0.br.length:Int))) < k):i1 u k s 0 p0=Pu.gX (zV u p0) (zW u p0) (sY (((p0.br.length:Int)))) 0 s:=Pu.kZ (λ(k:Nat) (s:ByteArray) (i:Int)=>i1 u k s i p0) hn (λ_ _ _=>rfl) s hk
def wY(u:Nat)(p0:aG):Option Bool :=
  some p0.ia
def er(u:Nat)(x10:List Int):Option ((List Int)) :=
  some x10
def cV(u:Nat)(rn:(List Int)->World->Int->Option ((List Int)))(x9:List Int)(p0:World)(x4:Int):Option ((List Int)) :=
  rn x9 p0 (aL .i64 x4 1)
def cc(u b5:Nat)(x3:List Int)(p0:World)(x4:Int):Option ((List Int)):=match b5 with
  | 0=>none
  | b5+1=>bif decide (x4 < ((p0.fN.length:Int))) then ((dm p0.fN x4).bind λy7=>(wY u y7).bind λr8=>bif r8 then ((cd (decide ((x3.length+(([x4]:List Int)).length)*8<=140737488355328))).bind λ_=>cV u (cc u b5) (x3++(([x4]:List Int))) p0 x4) else (cV u (cc u b5) x3 p0 x4)) else (er u x3)
def fa(u:Nat)(p0:World):Option ((List Int)) :=
  cc u u (([]:List Int)) p0 0
def ku(u:Nat)(p0:World)(s:(List Int)):Option ((List Int)):=(er u s)
def kv(u:Nat)(p0:World)(y7:aG)(i_:Nat)(s:(List Int))(k_:((List Int))->Option ((List Int))):Option ((List Int)):=(wY u y7).bind λr8=>bif r8 then ((cd (decide ((s.length+(([(i_:Int)]:List Int)).length)*8<=140737488355328))).bind λ_=>cV u (λz0 z1 z2=>k_ z0) (s++(([(i_:Int)]:List Int))) p0 (i_:Int)) else (cV u (λz0 z1 z2=>k_ z0) s p0 (i_:Int))
theorem q5(u:Nat)(p0:World)(s:(List Int))(k:Nat)(hn:p0.fN.length<=9223372036854775807)(hk:p0.fN.length < k):cc u k s p0 0=Pu.bZ (ku u p0) (kv u p0) p0.fN 0 s:=Pu.dz (λ(k:Nat) (s:(List Int)) (i:Int)=>cc u k s p0 i) hn (λ_ _ _=>rfl) s hk
def Bj(u:Nat)(p0:World):Option ((List Int)) :=
  (fa u p0).bind λr1=>some r1
def sq(u:Nat)(p0:aG):Option Bool :=
  some (p0.bh == 5)
def dX(u:Nat)(x10:List Int):Option ((List Int)) :=
  some x10
def cM(u:Nat)(pM:(List Int)->World->Int->Option ((List Int)))(x9:List Int)(p0:World)(x4:Int):Option ((List Int)) :=
  pM x9 p0 (aL .i64 x4 1)
def bY(u bT:Nat)(x3:List Int)(p0:World)(x4:Int):Option ((List Int)):=match bT with
  | 0=>none
  | bT+1=>bif decide (x4 < ((p0.fN.length:Int))) then ((dm p0.fN x4).bind λy7=>(sq u y7).bind λr8=>bif r8 then ((cd (decide ((x3.length+(([x4]:List Int)).length)*8<=140737488355328))).bind λ_=>cM u (bY u bT) (x3++(([x4]:List Int))) p0 x4) else (cM u (bY u bT) x3 p0 x4)) else (dX u x3)
def eE(u:Nat)(p0:World):Option ((List Int)) :=
  bY u u (([]:List Int)) p0 0
def jF(u:Nat)(p0:World)(s:(List Int)):Option ((List Int)):=(dX u s)
def jG(u:Nat)(p0:World)(y7:aG)(i_:Nat)(s:(List Int))(k_:((List Int))->Option ((List Int))):Option ((List Int)):=(sq u y7).bind λr8=>bif r8 then ((cd (decide ((s.length+(([(i_:Int)]:List Int)).length)*8<=140737488355328))).bind λ_=>cM u (λz0 z1 z2=>k_ z0) (s++(([(i_:Int)]:List Int))) p0 (i_:Int)) else (cM u (λz0 z1 z2=>k_ z0) s p0 (i_:Int))
theorem pL(u:Nat)(p0:World)(s:(List Int))(k:Nat)(hn:p0.fN.length<=9223372036854775807)(hk:p0.fN.length < k):bY u k s p0 0=Pu.bZ (jF u p0) (jG u p0) p0.fN 0 s:=Pu.dz (λ(k:Nat) (s:(List Int)) (i:Int)=>bY u k s p0 i) hn (λ_ _ _=>rfl) s hk
def wZ(u:Nat)(p0:World):Option ((List Int)) :=
  (eE u p0).bind λr1=>some r1
def zX(u:Nat)(p0:World):Option ((List Int)) :=
  (Bj u p0).bind λr1=>(wZ u p0).bind λr2=>some (([(p0.br.length:Int),(p0.dB.length:Int),p0.bC,(r1.length:Int),(r2.length:Int)]:List Int))
def uR(u:Nat)(x9:List ByteArray):Option ByteArray :=
  (strings_Join u x9 ((zm #[32]))).bind λr10=>some r10
def nQ(u lE:Nat)(x3:List ByteArray)(p0:List Int)(x4:Int):Option ByteArray:=match lE with
  | 0=>none
  | lE+1=>bif decide (x4 < ((p0.length:Int))) then ((dm p0 x4).bind λy7=>(de u y7).bind λr8=>(cd (decide ((x3.length+([r8]).length)*16<=140737488355328))).bind λ_=>(nQ u lE) (x3++([r8])) p0 (aL .i64 x4 1)) else (uR u x3)
def w4(u:Nat)(p0:List Int):Option ByteArray :=
  nQ u u (([]:List ByteArray)) p0 0
def Bk(u:Nat)(p0:List Int)(s:(List ByteArray)):Option ByteArray:=(uR u s)
def Bl(u:Nat)(p0:List Int)(y7:Int)(i_:Nat)(s:(List ByteArray))(k_:((List ByteArray))->Option ByteArray):Option ByteArray:=(de u y7).bind λr8=>(cd (decide ((s.length+([r8]).length)*16<=140737488355328))).bind λ_=>(λz0 z1 z2=>k_ z0) (s++([r8])) p0 (aL .i64 (i_:Int) 1)
theorem IV(u:Nat)(p0:List Int)(s:(List ByteArray))(k:Nat)(hn:p0.length<=9223372036854775807)(hk:p0.length < k):nQ u k s p0 0=Pu.bZ (Bk u p0) (Bl u p0) p0 0 s:=Pu.dz (λ(k:Nat) (s:(List ByteArray)) (i:Int)=>nQ u k s p0 i) hn (λ_ _ _=>rfl) s hk
def qh(u:Nat)(p0:World):Option ByteArray :=
  (zX u p0).bind λr1=>(w4 u r1).bind λr2=>some r2
def yh(u:Nat)(x9:List Int):Option ((List Int)) :=
  some x9
def q6(u:Nat)(O6:(List Int)->Int->World->Option ((List Int)))(x8:List Int)(x4:Int)(p0:World):Option ((List Int)) :=
  O6 x8 (aL .i64 x4 1) p0
def mT(u kn:Nat)(x3:List Int)(x4:Int)(p0:World):Option ((List Int)):=match kn with
  | 0=>none
  | kn+1=>bif decide (x4 < ((p0.fN.length:Int))) then ((dm p0.fN x4).bind λy7=>bif y7.ia then ((cd (decide ((x3.length+(([x4]:List Int)).length)*8<=140737488355328))).bind λ_=>q6 u (mT u kn) (x3++(([x4]:List Int))) x4 p0) else (q6 u (mT u kn) x3 x4 p0)) else (yh u x3)
def Bm(u:Nat)(p0:World):Option ((List Int)) :=
  mT u u (([]:List Int)) 0 p0
def Dn(u:Nat)(p0:World)(s:(List Int)):Option ((List Int)):=(yh u s)
def Do(u:Nat)(p0:World)(y7:aG)(i_:Nat)(s:(List Int))(k_:((List Int))->Option ((List Int))):Option ((List Int)):=bif y7.ia then ((cd (decide ((s.length+(([(i_:Int)]:List Int)).length)*8<=140737488355328))).bind λ_=>q6 u (λz0 z1 z2=>k_ z0) (s++(([(i_:Int)]:List Int))) (i_:Int) p0) else (q6 u (λz0 z1 z2=>k_ z0) s (i_:Int) p0)
theorem Mw(u:Nat)(p0:World)(s:(List Int))(k:Nat)(hn:p0.fN.length<=9223372036854775807)(hk:p0.fN.length < k):mT u k s 0 p0=Pu.bZ (Dn u p0) (Do u p0) p0.fN 0 s:=Pu.dz (λ(k:Nat) (s:(List Int)) (i:Int)=>mT u k s i p0) hn (λ_ _ _=>rfl) s hk
def uS(u:Nat)(x9:List Int):Option ((List Int)) :=
  some x9
def nR(u:Nat)(Ka:(List Int)->Int->World->Option ((List Int)))(x8:List Int)(x4:Int)(p0:World):Option ((List Int)) :=
  Ka x8 (aL .i64 x4 1) p0
def ka(u iv:Nat)(x3:List Int)(x4:Int)(p0:World):Option ((List Int)):=match iv with
  | 0=>none
  | iv+1=>bif decide (x4 < ((p0.fN.length:Int))) then ((dm p0.fN x4).bind λy7=>bif y7.bh == 5 then ((cd (decide ((x3.length+(([x4]:List Int)).length)*8<=140737488355328))).bind λ_=>nR u (ka u iv) (x3++(([x4]:List Int))) x4 p0) else (nR u (ka u iv) x3 x4 p0)) else (uS u x3)
def w5(u:Nat)(p0:World):Option ((List Int)) :=
  ka u u (([]:List Int)) 0 p0
def Bn(u:Nat)(p0:World)(s:(List Int)):Option ((List Int)):=(uS u s)
def Bo(u:Nat)(p0:World)(y7:aG)(i_:Nat)(s:(List Int))(k_:((List Int))->Option ((List Int))):Option ((List Int)):=bif y7.bh == 5 then ((cd (decide ((s.length+(([(i_:Int)]:List Int)).length)*8<=140737488355328))).bind λ_=>nR u (λz0 z1 z2=>k_ z0) (s++(([(i_:Int)]:List Int))) (i_:Int) p0) else (nR u (λz0 z1 z2=>k_ z0) s (i_:Int) p0)
theorem IW(u:Nat)(p0:World)(s:(List Int))(k:Nat)(hn:p0.fN.length<=9223372036854775807)(hk:p0.fN.length < k):ka u k s 0 p0=Pu.bZ (Bn u p0) (Bo u p0) p0.fN 0 s:=Pu.dz (λ(k:Nat) (s:(List Int)) (i:Int)=>ka u k s i p0) hn (λ_ _ _=>rfl) s hk
def zY(u:Nat)(p0:World):Option ((List Int)) :=
  (Bm u p0).bind λr1=>(w5 u p0).bind λr2=>some (([(p0.br.length:Int),(p0.dB.length:Int),p0.bC,(r1.length:Int),(r2.length:Int)]:List Int))
def xA(u:Nat)(x10:ByteArray):Option ByteArray :=
  some x10
def kM(u:Nat)(Iy:(List Int)->ByteArray->Int->Option ByteArray)(p0:List Int)(x7:ByteArray)(x4:Int):Option ByteArray :=
  (dm p0 x4).bind λy8=>(dc u y8).bind λr9=>(cd (decide (x7.size+r9.size<=9223372036854775807))).bind λ_=>Iy p0 (x7++r9) (aL .i64 x4 1)
def i6(u gF:Nat)(p0:List Int)(x3:ByteArray)(x4:Int):Option ByteArray:=match gF with
  | 0=>none
  | gF+1=>bif decide (x4 < ((p0.length:Int))) then (bif decide (x4 > 0) then ((cd (decide (x3.size+((zm #[32])).size<=9223372036854775807))).bind λ_=>kM u (i6 u gF) p0 (x3++((zm #[32]))) x4) else (kM u (i6 u gF) p0 x3 x4)) else (xA u x3)
def uT(u:Nat)(p0:List Int):Option ByteArray :=
  i6 u u p0 ((zm #[])) 0
def G4(u:Nat)(p0:List Int)(s:ByteArray):Option ByteArray:=(xA u s)
def zZ(u:Nat)(p0:List Int)(i_:Nat)(s:ByteArray)(k_:ByteArray->Option ByteArray):Option ByteArray:=bif decide ((i_:Int) > 0) then ((cd (decide (s.size+((zm #[32])).size<=9223372036854775807))).bind λ_=>kM u (λz0 z1 z2=>k_ z1) p0 (s++((zm #[32]))) (i_:Int)) else (kM u (λz0 z1 z2=>k_ z1) p0 s (i_:Int))
theorem G5(u:Nat)(p0:List Int)(s:ByteArray)(k:Nat)(hn:(((p0.length:Int)):Int)<=9223372036854775807)(hk:sY (((p0.length:Int))) < k):i6 u k p0 s 0=Pu.gX (G4 u p0) (zZ u p0) (sY (((p0.length:Int)))) 0 s:=Pu.kZ (λ(k:Nat) (s:ByteArray) (i:Int)=>i6 u k p0 s i) hn (λ_ _ _=>rfl) s hk
def qi(u:Nat)(p0:World):Option ByteArray :=
  (zY u p0).bind λr1=>(uT u r1).bind λr2=>some r2
def tj(u:Nat)  : Option ((List ByteArray)) :=
  some ([(zm #[]),(zm #[116,105,99,107]),(zm #[116,97,107,101]),(zm #[108,111,115,101]),(zm #[100,111,117,98,108,101]),(zm #[102,97,108,108]),(zm #[114,105,115,101]),(zm #[102,111,114,103,101])])
def mU(u:Nat)(x8:ByteArray):Option ByteArray :=
  some x8
def qj(u:Nat)(p0:cK):Option ByteArray :=
  (cB u p0.ba 1 7).bind λr1=>bif !r1 then (some ((zm #[]))) else ((tj u).bind λr2=>(dm r2 p0.ba).bind λy3=>(cd (decide (y3.size+((zm #[32])).size<=9223372036854775807))).bind λ_=>(de u p0.fN).bind λr5=>(cd (decide ((y3++((zm #[32]))).size+r5.size<=9223372036854775807))).bind λ_=>bif p0.ba == 5 then ((de u p0.fS).bind λr7=>(cd (decide (((zm #[32])).size+r7.size<=9223372036854775807))).bind λ_=>(cd (decide (((y3++((zm #[32])))++r5).size+(((zm #[32]))++r7).size<=9223372036854775807))).bind λ_=>mU u (((y3++((zm #[32])))++r5)++(((zm #[32]))++r7))) else (mU u ((y3++((zm #[32])))++r5)))
def qk(u:Nat)(p0:cK):Option ByteArray :=
  (bF u p0.ba 1 (cG .i64 ((([(zm #[]),(zm #[116,105,99,107]),(zm #[116,97,107,101]),(zm #[108,111,115,101]),(zm #[100,111,117,98,108,101]),(zm #[102,97,108,108]),(zm #[114,105,115,101]),(zm #[102,111,114,103,101])]).length:Int)) 1)).bind λr1=>bif !r1 then (some ((zm #[]))) else ((dm ([(zm #[]),(zm #[116,105,99,107]),(zm #[116,97,107,101]),(zm #[108,111,115,101]),(zm #[100,111,117,98,108,101]),(zm #[102,97,108,108]),(zm #[114,105,115,101]),(zm #[102,111,114,103,101])]) p0.ba).bind λy2=>(cd (decide (y2.size+((zm #[32])).size<=9223372036854775807))).bind λ_=>(dc u p0.fN).bind λr4=>(cd (decide ((y2++((zm #[32]))).size+r4.size<=9223372036854775807))).bind λ_=>bif p0.ba == 5 then ((cd (decide (((y2++((zm #[32])))++r4).size+((zm #[32])).size<=9223372036854775807))).bind λ_=>(dc u p0.fS).bind λr7=>(cd (decide ((((y2++((zm #[32])))++r4)++((zm #[32]))).size+r7.size<=9223372036854775807))).bind λ_=>some ((((y2++((zm #[32])))++r4)++((zm #[32])))++r7)) else (some ((y2++((zm #[32])))++r4)))
def Ej(u:Nat)(p0 p1:Int):Option Int :=
  some (if p1 > p0 then p1 else p0)
def i7(u:Nat)(r8:ByteArray)(x20:Bool)(r2 r4:World):Option Bool :=
  bif x20 then (some false) else ((Ej u 0 (cG .i64 ((r2.fN.length:Int)) 1)).bind λr21=>bif ((r8.size:Int)) == r21 then ((qZ u r4).bind λr22=>some (decide (((r22.size:Int)) > 0))) else (some false))
def q7(u:Nat)(p0:List Int):Option Bool :=
  (GG u p0).bind λr1=>bif r1 then (some true) else ((lT u p0).bind λr2=>(lU u p0).bind λr3=>(nI u p0).bind λr4=>(lV u p0).bind λr5=>(lW u p0).bind λr6=>(kU u p0).bind λr7=>(p9 u r2).bind λr8=>(qa u r2).bind λr9=>bif !(r8.toList == r9.toList) then (i7 u r8 true r2 r4) else ((qb u r3).bind λr10=>(qc u r3).bind λr11=>bif !(r10.toList == r11.toList) then (i7 u r8 true r2 r4) else ((qZ u r4).bind λr12=>(uQ u r4).bind λr13=>bif !(r12.toList == r13.toList) then (i7 u r8 true r2 r4) else ((qh u r5).bind λr14=>(qi u r5).bind λr15=>bif !(r14.toList == r15.toList) then (i7 u r8 true r2 r4) else ((qj u r6).bind λr16=>(qk u r6).bind λr17=>bif !(r16.toList == r17.toList) then (i7 u r8 true r2 r4) else ((gV u r7).bind λr18=>(gW u r7).bind λr19=>i7 u r8 (!(r18.toList == r19.toList)) r2 r4))))))
end Go.Tm
