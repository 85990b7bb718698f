/- Go functions as pure functions (printed). -/
import Derived.Test.YtdcoelkflgpfgaaGreatCFnWiresF3
set_option maxRecDepth 100000
set_option maxHeartbeats 20000000
set_option linter.unusedVariables false
set_option linter.unusedSimpArgs false
open Int renaming toNat->sY
open List renaming replicate->zQH
namespace Go.Tm
structure aK where
  fB:List Int
  fI:Int
  fH:Int
  deriving DecidableEq
def bF(x:aK):List T:=[.sl 1 (x.fB.map (ai .u8)),.int .i64 x.fI,.int .i64 x.fH]
def aK.wf(x:aK):Prop:=(KR (jq .u8)) x.fB/\(jq .i64) x.fI/\(jq .i64) x.fH/\True
structure cT where
  cf:List Int
  deriving DecidableEq
def qQ(x:cT):List T:=[.sl 1 (x.cf.map (ai .i64))]
def cT.wf(x:cT):Prop:=(KR (jq .i64)) x.cf/\True
structure a9 where
  fB:List Int
  deriving DecidableEq
def be(x:a9):List T:=[.sl 1 (x.fB.map (ai .u8))]
def a9.wf(x:a9):Prop:=(KR (jq .u8)) x.fB/\True
structure iE where
  aC:Int
  aZ:Int
  aQ:Int
  aX:Int
  deriving DecidableEq
def nM(x:iE):List T:=[.int .i64 x.aC,.int .i64 x.aZ,.int .i64 x.aQ,.int .i64 x.aX]
def iE.wf(x:iE):Prop:=(jq .i64) x.aC/\(jq .i64) x.aZ/\(jq .i64) x.aQ/\(jq .i64) x.aX/\True
structure b4 where
  fW:Int
  fS:Int
  deriving DecidableEq
def aI(x:b4):List T:=[.int .i64 x.fW,.int .i64 x.fS]
def b4.wf(x:b4):Prop:=(jq .i64) x.fW/\(jq .i64) x.fS/\True
structure ah where
  aO:Int
  aC:Int
  aY:Int
  aJ:List b4
  deriving DecidableEq
def aE(x:ah):List T:=[.int .i64 x.aO,.int .i64 x.aC,.int .i64 x.aY,.sl 2 (x.aJ.map aI)]
def ah.wf(x:ah):Prop:=(jq .i64) x.aO/\(jq .i64) x.aC/\(jq .i64) x.aY/\(KR b4.wf) x.aJ/\True
structure bI where
  bq:Int
  bZ:List Int
  deriving DecidableEq
def eD(x:bI):List T:=[.int .i64 x.bq,.sl 1 (x.bZ.map (ai .u8))]
def bI.wf(x:bI):Prop:=(jq .i64) x.bq/\(KR (jq .u8)) x.bZ/\True
structure bM where
  oJ:Int
  bQ:Int
  bV:Int
  uO:Int
  mx:Int
  deriving DecidableEq
def aT(x:bM):List T:=[.int .i64 x.oJ,.int .i64 x.bQ,.int .i64 x.bV,.int .i64 x.uO,.int .i64 x.mx]
def bM.wf(x:bM):Prop:=(jq .i64) x.oJ/\(jq .i64) x.bQ/\(jq .i64) x.bV/\(jq .i64) x.uO/\(jq .i64) x.mx/\True
structure aH where
  gW:Bool
  bP:Int
  bJ:Int
  aD:ah
  bD:bI
  bp:Int
  bj:List bM
  bB:Int
  deriving DecidableEq
def aw(x:aH):List T:=[.bool x.gW,.int .i64 x.bP,.int .i64 x.bJ,.int .i64 x.aD.aO,.int .i64 x.aD.aC,.int .i64 x.aD.aY,.sl 2 (x.aD.aJ.map aI),.int .i64 x.bD.bq,.sl 1 (x.bD.bZ.map (ai .u8)),.int .i64 x.bp,.sl 5 (x.bj.map aT),.int .i64 x.bB]
def aH.wf(x:aH):Prop:=(λ_=>True) x.gW/\(jq .i64) x.bP/\(jq .i64) x.bJ/\ah.wf x.aD/\bI.wf x.bD/\(jq .i64) x.bp/\(KR bM.wf) x.bj/\(jq .i64) x.bB/\True
structure dp where
  aO:Int
  b7:Int
  aY:Int
  deriving DecidableEq
def Ap(x:dp):List T:=[.int .i64 x.aO,.int .i64 x.b7,.int .i64 x.aY]
def dp.wf(x:dp):Prop:=(jq .i64) x.aO/\(jq .i64) x.b7/\(jq .i64) x.aY/\True
structure dd where
  lx:Int
  Bn:Int
  fB:List Int
  fR:dp
  deriving DecidableEq
def bi(x:dd):List T:=[.int .i64 x.lx,.int .i64 x.Bn,.sl 1 (x.fB.map (ai .u8)),.int .i64 x.fR.aO,.int .i64 x.fR.b7,.int .i64 x.fR.aY]
def dd.wf(x:dd):Prop:=(jq .i64) x.lx/\(jq .i64) x.Bn/\(KR (jq .u8)) x.fB/\dp.wf x.fR/\True
structure aB where
  fA:List Int
  fB:List Int
  fR:dp
  fP:List dd
  deriving DecidableEq
def am(x:aB):List T:=[.sl 1 (x.fA.map (ai .u8)),.sl 1 (x.fB.map (ai .u8)),.int .i64 x.fR.aO,.int .i64 x.fR.b7,.int .i64 x.fR.aY,.sl 6 (x.fP.map bi)]
def aB.wf(x:aB):Prop:=(KR (jq .u8)) x.fA/\(KR (jq .u8)) x.fB/\dp.wf x.fR/\(KR dd.wf) x.fP/\True
structure ag where
  cB:Int
  pW:Int
  fB:List Int
  deriving DecidableEq
def ak(x:ag):List T:=[.int .i64 x.cB,.int .i64 x.pW,.sl 1 (x.fB.map (ai .u8))]
def ag.wf(x:ag):Prop:=(jq .i64) x.cB/\(jq .i64) x.pW/\(KR (jq .u8)) x.fB/\True
structure bR where
  cB:Int
  pW:Int
  fI:Int
  deriving DecidableEq
def bg(x:bR):List T:=[.int .i64 x.cB,.int .i64 x.pW,.int .i64 x.fI]
def bR.wf(x:bR):Prop:=(jq .i64) x.cB/\(jq .i64) x.pW/\(jq .i64) x.fI/\True
structure World where
  fC:iE
  fT:cT
  ce:List Int
  bX:List a9
  fN:List aH
  fD:List aB
  bx:List ag
  cu:List bR
  bn:Int
  deriving DecidableEq
def bK(x:World):List T:=[.int .i64 x.fC.aC,.int .i64 x.fC.aZ,.int .i64 x.fC.aQ,.int .i64 x.fC.aX,.sl 1 (x.fT.cf.map (ai .i64)),.sl 1 (x.ce.map (ai .u8)),.sl 1 (x.bX.map be),.sl 12 (x.fN.map aw),.sl 6 (x.fD.map am),.sl 3 (x.bx.map ak),.sl 3 (x.cu.map bg),.int .i64 x.bn]
def gI(t:T)(x:World):List T:=[.int .i64 x.fC.aC,.int .i64 x.fC.aZ,.int .i64 x.fC.aQ,.int .i64 x.fC.aX,.sl 1 (x.fT.cf.map (ai .i64)),.sl 1 (x.ce.map (ai .u8)),t,.sl 12 (x.fN.map aw),.sl 6 (x.fD.map am),.sl 3 (x.bx.map ak),.sl 3 (x.cu.map bg),.int .i64 x.bn]
def World.wf(x:World):Prop:=iE.wf x.fC/\cT.wf x.fT/\(KR (jq .u8)) x.ce/\(KR a9.wf) x.bX/\(KR aH.wf) x.fN/\(KR aB.wf) x.fD/\(KR ag.wf) x.bx/\(KR bR.wf) x.cu/\(jq .i64) x.bn/\True
structure cX where
  bt:Int
  fN:Int
  fS:Int
  fP:ag
  deriving DecidableEq
def gK(x:cX):List T:=[.int .i64 x.bt,.int .i64 x.fN,.int .i64 x.fS,.int .i64 x.fP.cB,.int .i64 x.fP.pW,.sl 1 (x.fP.fB.map (ai .u8))]
def cX.wf(x:cX):Prop:=(jq .i64) x.bt/\(jq .i64) x.fN/\(jq .i64) x.fS/\ag.wf x.fP/\True
structure dY where
  bt:Int
  aO:Int
  aD:ah
  bQ:Int
  bV:Int
  fI:Int
  fB:List Int
  deriving DecidableEq
def cI(x:dY):List T:=[.int .i64 x.bt,.int .i64 x.aO,.int .i64 x.aD.aO,.int .i64 x.aD.aC,.int .i64 x.aD.aY,.sl 2 (x.aD.aJ.map aI),.int .i64 x.bQ,.int .i64 x.bV,.int .i64 x.fI,.sl 1 (x.fB.map (ai .u8))]
def dY.wf(x:dY):Prop:=(jq .i64) x.bt/\(jq .i64) x.aO/\ah.wf x.aD/\(jq .i64) x.bQ/\(jq .i64) x.bV/\(jq .i64) x.fI/\(KR (jq .u8)) x.fB/\True
structure GI where
  fN:aH
  fD:aB
  nc:List ag
  deriving DecidableEq
def Tt(x:GI):List T:=[.bool x.fN.gW,.int .i64 x.fN.bP,.int .i64 x.fN.bJ,.int .i64 x.fN.aD.aO,.int .i64 x.fN.aD.aC,.int .i64 x.fN.aD.aY,.sl 2 (x.fN.aD.aJ.map aI),.int .i64 x.fN.bD.bq,.sl 1 (x.fN.bD.bZ.map (ai .u8)),.int .i64 x.fN.bp,.sl 5 (x.fN.bj.map aT),.int .i64 x.fN.bB,.sl 1 (x.fD.fA.map (ai .u8)),.sl 1 (x.fD.fB.map (ai .u8)),.int .i64 x.fD.fR.aO,.int .i64 x.fD.fR.b7,.int .i64 x.fD.fR.aY,.sl 6 (x.fD.fP.map bi),.sl 3 (x.nc.map ak)]
def GI.wf(x:GI):Prop:=aH.wf x.fN/\aB.wf x.fD/\(KR ag.wf) x.nc/\True
structure Act where
  fN:aH
  nc:List ag
  deriving DecidableEq
def yf(x:Act):List T:=[.bool x.fN.gW,.int .i64 x.fN.bP,.int .i64 x.fN.bJ,.int .i64 x.fN.aD.aO,.int .i64 x.fN.aD.aC,.int .i64 x.fN.aD.aY,.sl 2 (x.fN.aD.aJ.map aI),.int .i64 x.fN.bD.bq,.sl 1 (x.fN.bD.bZ.map (ai .u8)),.int .i64 x.fN.bp,.sl 5 (x.fN.bj.map aT),.int .i64 x.fN.bB,.sl 3 (x.nc.map ak)]
def Act.wf(x:Act):Prop:=aH.wf x.fN/\(KR ag.wf) x.nc/\True
def EU(u:Nat)(p0:List Int):Option Bool :=
  some (decide (((p0.length:Int)) > 1048576))
def uP(u:Nat)(p0:List Int)(x9:Int):Option aK :=
  some ((aK.mk p0 0 x9))
def qR(u:Nat)(JW:(List Int)->Int->Int->Option aK)(p0:List Int)(x3 x4:Int)(x7:Bool):Option aK :=
  bif x7 then ((cN p0 x4).bind λy8=>JW p0 (eH .i64 (aW .i64 (aW .i64 (eB .i64 x3 137) (IntKind.wrap .i64 y8)) 11) 1073741823) (aW .i64 x4 1)) else (uP u p0 x3)
def i9(u iD:Nat)(p0:List Int)(x3 x4:Int):Option aK:=match iD with
  | 0=>none
  | iD+1=>bif decide (x4 < ((p0.length:Int))) then (qR u (λz0 z1 z2=>i9 u iD z0 z1 z2) p0 x3 x4 (decide (x4 < 4000))) else (qR u (λz0 z1 z2=>i9 u iD z0 z1 z2) p0 x3 x4 false)
def w4(u:Nat)(p0:List Int):Option aK :=
  i9 u u p0 (aW .i64 162416 ((p0.length:Int))) 0
def o7(u:Nat)(x2:Int)(p0:aK)(x3:Int):Option (Int×aK) :=
  some ((x2,(aK.mk p0.fB x3 (aW .i64 (eB .i64 p0.fH 6364136223846793005) 1442695040888963407))))
def ki(u:Nat)(p0:aK):Option (Int×aK) :=
  bif decide (p0.fI < ((p0.fB.length:Int))) then ((cN p0.fB p0.fI).bind λy1=>o7 u (eH .i64 (aW .i64 (eH .i64 (NZ .i64 (lB .i64 (aW .i64 (eB .i64 p0.fH 6364136223846793005) 1442695040888963407) 33) (lB .i64 (aW .i64 (eB .i64 p0.fH 6364136223846793005) 1442695040888963407) 47)) 255) (IntKind.wrap .i64 y1)) 255) p0 (aW .i64 p0.fI 1)) else (o7 u (eH .i64 (NZ .i64 (lB .i64 (aW .i64 (eB .i64 p0.fH 6364136223846793005) 1442695040888963407) 33) (lB .i64 (aW .i64 (eB .i64 p0.fH 6364136223846793005) 1442695040888963407) 47)) 255) p0 p0.fI)
def ba(u:Nat)(p0:aK)(p1:Int):Option (Int×aK) :=
  bif decide (p1<=0) then (some ((0,p0))) else (bif decide (p1<=256) then ((ki u p0).bind λr1=>(c9 (!(p1 == 0))).bind λ_=>some ((m4 .i64 r1.1 p1,r1.2))) else ((ki u p0).bind λr3=>(ki u r3.2).bind λr4=>(ki u r4.2).bind λr5=>(c9 (!(p1 == 0))).bind λ_=>some ((m4 .i64 (aW .i64 (aW .i64 (eB .i64 r3.1 65536) (eB .i64 r4.1 256)) r5.1) p1,r5.2))))
def iz(u:Nat)(p0:aK)(p1:Int):Option (Bool×aK) :=
  (ba u p0 p1).bind λr1=>some ((r1.1 == 0,r1.2))
def rE(u:Nat)(x23 x24:List Int)(x25 x26:Int):Option (cT×aK) :=
  some (((cT.mk x23),(aK.mk x24 x25 x26)))
def nN(u:Nat)(GH:Int->(List Int)->(List Int)->Int->Int->Option (cT×aK))(x6 x19:Int)(x7 x20:List Int)(x21 x22:Int):Option (cT×aK) :=
  (c9 (decide ((x7.length+(([x19]:List Int)).length)*8<=140737488355328))).bind λ_=>GH (aW .i64 x6 1) (x7++(([x19]:List Int))) x20 x21 x22
def fp(u gk:Nat)(x6:Int)(x7 x8:List Int)(x9 x10:Int):Option (cT×aK):=match gk with
  | 0=>none
  | gk+1=>(ba u ((aK.mk x8 x9 x10)) 7).bind λr16=>bif decide (x6 < (aW .i64 1 r16.1)) then ((iz u r16.2 2).bind λr17=>bif r17.1 then ((ba u r17.2 x6).bind λr18=>nN u (λz0 z1 z2 z3 z4=>fp u gk z0 z1 z2 z3 z4) x6 r18.1 x7 r18.2.fB r18.2.fI r18.2.fH) else (nN u (λz0 z1 z2 z3 z4=>fp u gk z0 z1 z2 z3 z4) x6 (cW .i64 x6 1) x7 r17.2.fB r17.2.fI r17.2.fH)) else (rE u x7 r16.2.fB r16.2.fI r16.2.fH)
def pX(u:Nat)(p0:aK):Option (cT×aK) :=
  fp u u 1 (([-1]:List Int)) p0.fB p0.fI p0.fH
def dq(u:Nat)(p0:aK)(p1:List Int):Option (Int×aK) :=
  (ba u p0 ((p1.length:Int))).bind λr1=>(cN p1 r1.1).bind λy2=>some ((y2,r1.2))
def rF(u:Nat)(x18 x19:List Int)(x20 x21:Int):Option ((List Int)×aK) :=
  some ((x18,(aK.mk x19 x20 x21)))
def fq(u jS:Nat)(x7:List Int)(x8:Int)(x9:List Int)(x10 x11:Int):Option ((List Int)×aK):=match jS with
  | 0=>none
  | jS+1=>bif decide (x8 > 0) then ((dq u ((aK.mk x9 x10 x11)) (([97,98,99,0,255]:List Int))).bind λr17=>(c9 (decide ((x7.length+(([IntKind.wrap .u8 r17.1]:List Int)).length)*1<=140737488355328))).bind λ_=>(λz0 z1 z2 z3 z4=>fq u jS z0 z1 z2 z3 z4) (x7++(([IntKind.wrap .u8 r17.1]:List Int))) (cW .i64 x8 1) r17.2.fB r17.2.fI r17.2.fH) else (rF u x7 x9 x10 x11)
def gz(u:Nat)(p0:aK)(p1:Int):Option ((List Int)×aK) :=
  (ba u p0 (aW .i64 p1 1)).bind λr1=>fq u u (([]:List Int)) r1.1 r1.2.fB r1.2.fI r1.2.fH
def lY(u:Nat)(p0:aK):Option ((List Int)×aK) :=
  (gz u p0 16).bind λr1=>some ((r1.1,r1.2))
def cg(u:Nat)(x15 x16:List Int)(x17 x18:Int):Option ((List Int)×aK) :=
  some ((x15,(aK.mk x16 x17 x18)))
def lZ(u:Nat)(p0:aK)(p1:List Int):Option ((List Int)×aK) :=
  (c9 (decide (((([]:List Int)).length+p1.length)*1<=140737488355328))).bind λ_=>(ba u p0 6).bind λr2=>bif r2.1 == 0 then (bif decide (((((([]:List Int))++p1).length:Int)) > 0) then ((ba u r2.2 ((((([]:List Int))++p1).length:Int))).bind λr3=>(ba u r3.2 256).bind λr4=>(cN ((([]:List Int))++p1) r3.1).bind λy5=>cg u (((([]:List Int))++p1).set (sY r3.1) (IntKind.wrap .u8 r4.1)) r4.2.fB r4.2.fI r4.2.fH) else (cg u ((([]:List Int))++p1) r2.2.fB r2.2.fI r2.2.fH)) else (bif r2.1 == 1 then ((ba u r2.2 (aW .i64 ((((([]:List Int))++p1).length:Int)) 1)).bind λr6=>(c9 (cE 0 r6.1 ((([]:List Int))++p1).length)).bind λ_=>cg u ((((([]:List Int))++p1).take (sY r6.1)).drop (sY 0)) r6.2.fB r6.2.fI r6.2.fH) else (bif r2.1 == 2 then ((dq u r2.2 (([0,1,128,255]:List Int))).bind λr8=>(c9 (decide ((((([]:List Int))++p1).length+(([IntKind.wrap .u8 r8.1]:List Int)).length)*1<=140737488355328))).bind λ_=>cg u (((([]:List Int))++p1)++(([IntKind.wrap .u8 r8.1]:List Int))) r8.2.fB r8.2.fI r8.2.fH) else (bif r2.1 == 3 then (bif decide (((((([]:List Int))++p1).length:Int)) > 0) then ((ba u r2.2 ((((([]:List Int))++p1).length:Int))).bind λr10=>(cN ((([]:List Int))++p1) r10.1).bind λy11=>(ba u r10.2 8).bind λr12=>(c9 (decide (0<=r12.1))).bind λ_=>(cN ((([]:List Int))++p1) r10.1).bind λy14=>cg u (((([]:List Int))++p1).set (sY r10.1) (NZ .u8 y11 (gl .u8 1 r12.1))) r12.2.fB r12.2.fI r12.2.fH) else (cg u ((([]:List Int))++p1) r2.2.fB r2.2.fI r2.2.fH)) else (cg u ((([]:List Int))++p1) r2.2.fB r2.2.fI r2.2.fH))))
def sm(u:Nat)(p0:aK)(p1:List Int):Option ((List Int)×aK) :=
  (ba u p0 5).bind λr1=>bif r1.1 == 0 then ((gz u r1.2 16).bind λr2=>some ((r2.1,r2.2))) else (bif r1.1 == 1 then ((c9 (decide (((([]:List Int)).length+p1.length)*1<=140737488355328))).bind λ_=>some (((([]:List Int))++p1,r1.2))) else (bif r1.1 == 2 then ((ba u r1.2 (aW .i64 ((p1.length:Int)) 1)).bind λr4=>(c9 (cE r4.1 ((p1.length:Int)) p1.length)).bind λ_=>(c9 (decide (((([120]:List Int)).length+((p1.take (sY ((p1.length:Int)))).drop (sY r4.1)).length)*1<=140737488355328))).bind λ_=>(c9 (cE 0 r4.1 p1.length)).bind λ_=>(c9 (decide ((((([120]:List Int))++((p1.take (sY ((p1.length:Int)))).drop (sY r4.1))).length+((p1.take (sY r4.1)).drop (sY 0)).length)*1<=140737488355328))).bind λ_=>some ((((([120]:List Int))++((p1.take (sY ((p1.length:Int)))).drop (sY r4.1)))++((p1.take (sY r4.1)).drop (sY 0)),r4.2))) else (bif r1.1 == 3 then (some ((([]:List Int),r1.2))) else ((gz u r1.2 3).bind λr9=>(lZ u r9.2 p1).bind λr10=>(c9 (decide ((r9.1.length+r10.1.length)*1<=140737488355328))).bind λ_=>some ((r9.1++r10.1,r10.2))))))
def pY(u:Nat)(p0:aK):Option (iE×aK) :=
  (ba u p0 5).bind λr1=>(dq u r1.2 (([1,2,3,8,40]:List Int))).bind λr2=>(ba u r2.2 3).bind λr3=>(ba u r3.2 3).bind λr4=>some (((iE.mk (aW .i64 2 r1.1) r2.1 (aW .i64 1 r3.1) (aW .i64 2 r4.1)),r4.2))
def bN(u:Nat)(p0 p1 p2:Int):Option Bool :=
  bif decide (p0>=p1) then (some (decide (p0<=p2))) else (some false)
def u4(u:Nat)(p0:iE):Option Bool :=
  (bN u p0.aC 2 6).bind λr1=>bif r1 then ((bN u p0.aZ 1 40).bind λr2=>bif r2 then ((bN u p0.aQ 1 5).bind λr3=>bif r3 then ((bN u p0.aX 2 8).bind λr4=>some r4) else (some false)) else (some false)) else (some false)
def w5(u:Nat)  : Option Bool :=
  some true
def jh(u kV:Nat)(x5:Int)(p0:cT):Option Bool:=match kV with
  | 0=>none
  | kV+1=>bif decide (x5 < ((p0.cf.length:Int))) then ((cN p0.cf x5).bind λy7=>(bN u y7 0 (cW .i64 x5 1)).bind λr8=>bif !r8 then (some false) else ((λz0 z1=>jh u kV z0 z1) (aW .i64 x5 1) p0)) else (w5 u)
def sQ(u:Nat)(x3:Bool)(p0:cT):Option Bool :=
  bif x3 then (some false) else (jh u u 1 p0)
def o8(u:Nat)(p0:cT):Option Bool :=
  (bN u ((p0.cf.length:Int)) 1 7).bind λr1=>bif !r1 then (sQ u true p0) else ((cN p0.cf 0).bind λy2=>sQ u (y2 != (-1)) p0)
def zr(u:Nat)(p0:cT)(s:Unit):Option Bool:=(w5 u)
def ub(u:Nat)(p0:cT)(y7:Int)(i_:Nat)(s:Unit)(k_:Unit->Option Bool):Option Bool:=(bN u y7 0 (cW .i64 (i_:Int) 1)).bind λr8=>bif !r8 then (some false) else ((λz0 z1=>k_ ()) (aW .i64 (i_:Int) 1) p0)
theorem Ss(u:Nat)(p0:cT)(s:Unit)(k:Nat)(hn:p0.cf.length<=9223372036854775807)(hk:p0.cf.length < k):jh u k 0 p0=Pu.bU (zr u p0) (ub u p0) p0.cf 0 s:=Pu.cK (λ(k:Nat) (s:Unit) (i:Int)=>jh u k i p0) hn (λ_ _ _=>rfl) s hk
def ma(u:Nat)(p0 p1:Int):Option Bool :=
  (bN u p0 2 6).bind λr1=>bif r1 then ((bN u p1 0 (eB .i64 p0 40)).bind λr2=>some r2) else (some false)
def vF(u:Nat)(p0:List a9)(p1:Int):Option Bool :=
  some (((p0.length:Int)) == p1)
def lI(u jR:Nat)(p0:List a9)(p1 x2:Int):Option Bool:=match jR with
  | 0=>none
  | jR+1=>bif decide (x2 < ((p0.length:Int))) then ((cN p0 x2).bind λy4=>bif decide (((y4.fB.length:Int)) > 240) then (some false) else ((λz0 z1 z2=>lI u jR z0 z1 z2) p0 p1 (aW .i64 x2 1))) else (vF u p0 p1)
def sR(u:Nat)(p0:List a9)(p1:Int):Option Bool :=
  lI u u p0 p1 0
def EV(u:Nat)(p0:List a9)(p1:Int)(s:Unit):Option Bool:=(vF u p0 p1)
def yg(u:Nat)(p0:List a9)(p1:Int)(y4:a9)(i_:Nat)(s:Unit)(k_:Unit->Option Bool):Option Bool:=bif decide (((y4.fB.length:Int)) > 240) then (some false) else ((λz0 z1 z2=>k_ ()) p0 p1 (aW .i64 (i_:Int) 1))
theorem EW(u:Nat)(p0:List a9)(p1:Int)(s:Unit)(k:Nat)(hn:p0.length<=9223372036854775807)(hk:p0.length < k):lI u k p0 p1 0=Pu.bU (EV u p0 p1) (yg u p0 p1) p0 0 s:=Pu.cK (λ(k:Nat) (s:Unit) (i:Int)=>lI u k p0 p1 i) hn (λ_ _ _=>rfl) s hk
def oL(u:Nat)(x8:List a9):Option ((List a9)) :=
  some x8
def fV(u iy:Nat)(p0 x3:List a9)(x4:Int):Option ((List a9)):=match iy with
  | 0=>none
  | iy+1=>bif decide (x4 < ((p0.length:Int))) then ((cN p0 x4).bind λy7=>(c9 (decide (((([]:List Int)).length+y7.fB.length)*1<=140737488355328))).bind λ_=>(c9 (decide ((x3.length+([(a9.mk ((([]:List Int))++y7.fB))]).length)*24<=140737488355328))).bind λ_=>(λz0 z1 z2=>fV u iy z0 z1 z2) p0 (x3++([(a9.mk ((([]:List Int))++y7.fB))])) (aW .i64 x4 1)) else (oL u x3)
def ji(u:Nat)(p0:List a9):Option ((List a9)) :=
  fV u u p0 (([]:List a9)) 0
def CU(u:Nat)(p0:List a9)(s:(List a9)):Option ((List a9)):=(oL u s)
def wd(u:Nat)(p0:List a9)(y7:a9)(i_:Nat)(s:(List a9))(k_:((List a9))->Option ((List a9))):Option ((List a9)):=(c9 (decide (((([]:List Int)).length+y7.fB.length)*1<=140737488355328))).bind λ_=>(c9 (decide ((s.length+([(a9.mk ((([]:List Int))++y7.fB))]).length)*24<=140737488355328))).bind λ_=>(λz0 z1 z2=>k_ z1) p0 (s++([(a9.mk ((([]:List Int))++y7.fB))])) (aW .i64 (i_:Int) 1)
theorem CW(u:Nat)(p0:List a9)(s:(List a9))(k:Nat)(hn:p0.length<=9223372036854775807)(hk:p0.length < k):fV u k p0 s 0=Pu.bU (CU u p0) (wd u p0) p0 0 s:=Pu.cK (λ(k:Nat) (s:(List a9)) (i:Int)=>fV u k p0 s i) hn (λ_ _ _=>rfl) s hk
def sS(u:Nat)(p0:Int):Option aH :=
  some ((aH.mk true p0 0 ((ah.mk 0 0 0 ([]))) ((bI.mk 0 ([]))) 0 ([]) 0))
def pZ(u:Nat)(p1:Int)(x3:Bool)(p0:cT):Option aH :=
  bif x3 then (some ((aH.mk false 0 0 ((ah.mk 0 0 0 ([]))) ((bI.mk 0 ([]))) 0 ([]) 0))) else ((cN p0.cf p1).bind λy4=>(sS u y4).bind λr5=>some r5)
def mn(u:Nat)(p0:cT)(p1:Int):Option aH :=
  (o8 u p0).bind λr1=>bif !r1 then (pZ u p1 true p0) else ((bN u p1 1 (cW .i64 ((p0.cf.length:Int)) 1)).bind λr2=>pZ u p1 (!r2) p0)
def rG(u:Nat)(p0 p1:Int)(x3:Bool):Option Int :=
  bif x3 then (some 0) else ((c9 (!(p1 == 0))).bind λ_=>some (QY .i64 (cW .i64 (aW .i64 p0 p1) 1) p1))
def sT(u:Nat)(p0 p1:Int):Option Int :=
  (bN u p0 0 1000000000000).bind λr1=>bif !r1 then (rG u p0 p1 true) else ((bN u p1 1 1000000000000).bind λr2=>rG u p0 p1 (!r2))
def mb(u:Nat)(p0 p1:Int):Option Int :=
  (ma u p0 p1).bind λr1=>bif !r1 then (some 0) else ((sT u p1 p0).bind λr2=>some r2)
def uc(u:Nat)(p0 p1:Int):Option Int :=
  bif decide (p1 < p0) then (some p1) else (some p0)
def fh(u:Nat)(p0 p1 p2:Int):Option (Int×Int) :=
  (mb u p0 p1).bind λr1=>(bN u p2 0 (cW .i64 r1 1)).bind λr2=>bif !r2 then (some ((0,0))) else ((uc u p0 (cW .i64 p1 (eB .i64 p2 p0))).bind λr3=>some ((eB .i64 p2 p0,r3)))
def kc(u:Nat)(p0:List Int)(p1 p2:Int):Option ((List Int)×Bool) :=
  (fh u p1 ((p0.length:Int)) p2).bind λr1=>bif r1.2 == 0 then (some ((([]:List Int),false))) else ((c9 (cE r1.1 (aW .i64 r1.1 r1.2) p0.length)).bind λ_=>(c9 (decide (((([]:List Int)).length+((p0.take (sY (aW .i64 r1.1 r1.2))).drop (sY r1.1)).length)*1<=140737488355328))).bind λ_=>some (((([]:List Int))++((p0.take (sY (aW .i64 r1.1 r1.2))).drop (sY r1.1)),true)))
def o9(u:Nat)(x11 x12:Int):Option Int :=
  some (aW .i64 x11 (eB .i64 251 x12))
def mC(u kW:Nat)(p0:List Int)(x4 x5 x6:Int):Option Int:=match kW with
  | 0=>none
  | kW+1=>bif decide (x6 < ((p0.length:Int))) then ((cN p0 x6).bind λy10=>(λz0 z1 z2 z3=>mC u kW z0 z1 z2 z3) p0 (m4 .i64 (aW .i64 x4 (IntKind.wrap .i64 y10)) 251) (m4 .i64 (aW .i64 x5 (m4 .i64 (aW .i64 x4 (IntKind.wrap .i64 y10)) 251)) 251) (aW .i64 x6 1)) else (o9 u x4 x5)
def nd(u:Nat)(p0:List Int):Option Int :=
  mC u u p0 0 0 0
def zt(u:Nat)(p0:List Int)(s:Int×Int):Option Int:=(o9 u s.1 s.2)
def ud(u:Nat)(p0:List Int)(y10:Int)(i_:Nat)(s:Int×Int)(k_:(Int×Int)->Option Int):Option Int:=(λz0 z1 z2 z3=>k_ (z1,z2)) p0 (m4 .i64 (aW .i64 s.1 (IntKind.wrap .i64 y10)) 251) (m4 .i64 (aW .i64 s.2 (m4 .i64 (aW .i64 s.1 (IntKind.wrap .i64 y10)) 251)) 251) (aW .i64 (i_:Int) 1)
theorem GJ(u:Nat)(p0:List Int)(s:Int×Int)(k:Nat)(hn:p0.length<=9223372036854775807)(hk:p0.length < k):mC u k p0 s.1 s.2 0=Pu.bU (zt u p0) (ud u p0) p0 0 s:=Pu.cK (λ(k:Nat) (s:Int×Int) (i:Int)=>mC u k p0 s.1 s.2 i) hn (λ_ _ _=>rfl) s hk
def qS(u:Nat)(p0:List Int)(x8:Int):Option b4 :=
  (nd u p0).bind λr9=>some ((b4.mk r9 x8))
def oe(u lW:Nat)(p0:List Int)(x3 x4:Int):Option b4:=match lW with
  | 0=>none
  | lW+1=>bif decide (x4 < ((p0.length:Int))) then ((cN p0 x4).bind λy7=>(λz0 z1 z2=>oe u lW z0 z1 z2) p0 (aW .i64 (eB .i64 256 x3) (IntKind.wrap .i64 y7)) (aW .i64 x4 1)) else (qS u p0 x3)
def gJ(u:Nat)(p0:List Int):Option b4 :=
  bif decide (((p0.length:Int)) > 6) then (some ((b4.mk 0 0))) else (oe u u p0 1 0)
def AW(u:Nat)(p0:List Int)(s:Int):Option b4:=(qS u p0 s)
def vG(u:Nat)(p0:List Int)(y7:Int)(i_:Nat)(s:Int)(k_:Int->Option b4):Option b4:=(λz0 z1 z2=>k_ z1) p0 (aW .i64 (eB .i64 256 s) (IntKind.wrap .i64 y7)) (aW .i64 (i_:Int) 1)
theorem IJ(u:Nat)(p0:List Int)(s:Int)(k:Nat)(hn:p0.length<=9223372036854775807)(hk:p0.length < k):oe u k p0 s 0=Pu.bU (AW u p0) (vG u p0) p0 0 s:=Pu.cK (λ(k:Nat) (s i:Int)=>oe u k p0 s i) hn (λ_ _ _=>rfl) s hk
def sU(u:Nat)(x10:List b4):Option ((List b4)) :=
  some x10
def jj(u fO:Nat)(p0:List Int)(p1:Int)(x3:List b4)(x4:Int):Option ((List b4)):=match fO with
  | 0=>none
  | fO+1=>(mb u p1 ((p0.length:Int))).bind λr7=>bif decide (x4 < r7) then ((kc u p0 p1 x4).bind λr8=>(gJ u r8.1).bind λr9=>(c9 (decide ((x3.length+([r9]).length)*16<=140737488355328))).bind λ_=>(λz0 z1 z2 z3=>jj u fO z0 z1 z2 z3) p0 p1 (x3++([r9])) (aW .i64 x4 1)) else (sU u x3)
def ng(u:Nat)(p0:List Int)(p1:Int):Option ((List b4)) :=
  jj u u p0 p1 (([]:List b4)) 0
def uQ(u:Nat)(p0:Int)(p1:List Int)(p2:Int)(x3:Bool):Option ah :=
  bif x3 then (some ((ah.mk 0 0 0 ([])))) else ((ng u p1 p2).bind λr4=>some ((ah.mk p0 p2 ((p1.length:Int)) r4)))
def ue(u:Nat)(p0:Int)(p1:List Int)(p2:Int):Option ah :=
  (bN u p0 1 1000000).bind λr1=>bif !r1 then (uQ u p0 p1 p2 true) else ((ma u p2 ((p1.length:Int))).bind λr2=>uQ u p0 p1 p2 (!r2))
def uf(u:Nat)(p0:World):Option ah :=
  (ue u 1 p0.ce p0.fC.aC).bind λr1=>some r1
def vH(u:Nat)(x8:List Int):Option ((List Int)×Bool) :=
  some ((x8,true))
def lJ(u jO:Nat)(x4:Int)(x5:List Int):Option ((List Int)×Bool):=match jO with
  | 0=>none
  | jO+1=>bif decide (x4 > 1) then (bif decide (x4 < 256) then (some ((([]:List Int),false))) else ((c9 (decide (((([IntKind.wrap .u8 (eH .i64 x4 255)]:List Int)).length+x5.length)*1<=140737488355328))).bind λ_=>(λz0 z1=>lJ u jO z0 z1) (lB .i64 x4 8) ((([IntKind.wrap .u8 (eH .i64 x4 255)]:List Int))++x5))) else (vH u x5)
def nr(u:Nat)(p0:Int):Option ((List Int)×Bool) :=
  (bN u p0 1 562949953421311).bind λr1=>bif !r1 then (some ((([]:List Int),false))) else (lJ u u p0 (([]:List Int)))
def yU(u:Nat)  : Option Bool :=
  some true
def kj(u:Nat)(JV:Int->ah->Option Bool)(x6:Int)(x13:Bool)(p0:ah):Option Bool :=
  bif x13 then (some false) else (JV (aW .i64 x6 1) p0)
def ja(u gF:Nat)(x6:Int)(p0:ah):Option Bool:=match gF with
  | 0=>none
  | gF+1=>bif decide (x6 < ((p0.aJ.length:Int))) then ((cN p0.aJ x6).bind λy8=>(nr u y8.fS).bind λr9=>(fh u p0.aC p0.aY x6).bind λr10=>bif !r9.2 then (kj u (λz0 z1=>ja u gF z0 z1) x6 true p0) else (bif ((r9.1.length:Int)) != r10.2 then (kj u (λz0 z1=>ja u gF z0 z1) x6 true p0) else ((gJ u r9.1).bind λr11=>(cN p0.aJ x6).bind λy12=>kj u (λz0 z1=>ja u gF z0 z1) x6 (!([r11.fW,r11.fS] == [y12.fW,y12.fS])) p0))) else (yU u)
def qT(u:Nat)(x4:Bool)(p0:ah):Option Bool :=
  bif x4 then (some false) else (ja u u 0 p0)
def g8(u:Nat)(p0:ah):Option Bool :=
  bif p0.aO == 0 then (bif p0.aC == 0 then (bif p0.aY == 0 then (some (((p0.aJ.length:Int)) == 0)) else (some false)) else (some false)) else ((bN u p0.aO 1 1000000).bind λr1=>bif !r1 then (qT u true p0) else ((ma u p0.aC p0.aY).bind λr2=>bif !r2 then (qT u true p0) else ((mb u p0.aC p0.aY).bind λr3=>qT u (((p0.aJ.length:Int)) != r3) p0)))
def AX(u:Nat)(p0:ah)(s:Unit):Option Bool:=(yU u)
def vI(u:Nat)(p0:ah)(y8:b4)(i_:Nat)(s:Unit)(k_:Unit->Option Bool):Option Bool:=(nr u y8.fS).bind λr9=>(fh u p0.aC p0.aY (i_:Int)).bind λr10=>bif !r9.2 then (kj u (λz0 z1=>k_ ()) (i_:Int) true p0) else (bif ((r9.1.length:Int)) != r10.2 then (kj u (λz0 z1=>k_ ()) (i_:Int) true p0) else ((gJ u r9.1).bind λr11=>(cN p0.aJ (i_:Int)).bind λy12=>kj u (λz0 z1=>k_ ()) (i_:Int) (!([r11.fW,r11.fS] == [y12.fW,y12.fS])) p0))
theorem IK(u:Nat)(p0:ah)(s:Unit)(k:Nat)(hn:p0.aJ.length<=9223372036854775807)(hk:p0.aJ.length < k):ja u k 0 p0=Pu.bU (AX u p0) (vI u p0) p0.aJ 0 s:=Pu.cK (λ(k:Nat) (s:Unit) (i:Int)=>ja u k i p0) hn (λ_ _ _=>rfl) s hk
def sn(u:Nat)  : Option Bool :=
  some true
def iJ(u gS:Nat)(p0 p1:List b4)(x2:Int):Option Bool:=match gS with
  | 0=>none
  | gS+1=>bif decide (x2 < ((p0.length:Int))) then ((cN p0 x2).bind λy4=>(cN p1 x2).bind λy5=>bif !([y4.fW,y4.fS] == [y5.fW,y5.fS]) then (some false) else ((λz0 z1 z2=>iJ u gS z0 z1 z2) p0 p1 (aW .i64 x2 1))) else (sn u)
def lK(u:Nat)(p0 p1:List b4):Option Bool :=
  bif ((p0.length:Int)) != ((p1.length:Int)) then (some false) else (iJ u u p0 p1 0)
def BC(u:Nat)(p0 p1:List b4)(s:Unit):Option Bool:=(sn u)
def u5(u:Nat)(p0 p1:List b4)(y4:b4)(i_:Nat)(s:Unit)(k_:Unit->Option Bool):Option Bool:=(cN p1 (i_:Int)).bind λy5=>bif !([y4.fW,y4.fS] == [y5.fW,y5.fS]) then (some false) else ((λz0 z1 z2=>k_ ()) p0 p1 (aW .i64 (i_:Int) 1))
theorem BD(u:Nat)(p0 p1:List b4)(s:Unit)(k:Nat)(hn:p0.length<=9223372036854775807)(hk:p0.length < k):iJ u k p0 p1 0=Pu.bU (BC u p0 p1) (u5 u p0 p1) p0 0 s:=Pu.cK (λ(k:Nat) (s:Unit) (i:Int)=>iJ u k p0 p1 i) hn (λ_ _ _=>rfl) s hk
def ug(u:Nat)(p0:ah)(p1:List Int):Option Bool :=
  bif ((p1.length:Int)) == p0.aY then ((ng u p1 p0.aC).bind λr1=>(lK u r1 p0.aJ).bind λr2=>some r2) else (some false)
def mc(u:Nat)(p0:ah):Option ah :=
  (c9 (decide (((([]:List b4)).length+p0.aJ.length)*16<=140737488355328))).bind λ_=>some ((ah.mk p0.aO p0.aC p0.aY ((([]:List b4))++p0.aJ)))
def qU(u:Nat)(p0:ah):Option bI :=
  (g8 u p0).bind λr1=>bif !r1 then (some ((bI.mk 0 ([])))) else ((c9 (decide (0<=p0.aY) && (p0.aY == 0 || p0.aY == p0.aY))).bind λ_=>(c9 (decide (sY p0.aY*1<=140737488355328))).bind λ_=>some ((bI.mk 0 (zQH (sY p0.aY) (0:Int)))))
def wR(u:Nat)(p0:Int):Option Bool :=
  (bN u p0 0 63000).bind λr1=>some r1
def nO(u:Nat)(p0:Int):Option (Int×Int) :=
  (wR u p0).bind λr1=>bif !r1 then (some ((0,0))) else (some ((m4 .i64 p0 251,QY .i64 p0 251)))
def uh(u:Nat)(p0 p1:Int):Option Int :=
  (bN u p1 1 1000000000000).bind λr1=>bif !r1 then (some 0) else ((c9 (!(p1 == 0))).bind λ_=>(c9 (!(p1 == 0))).bind λ_=>some (m4 .i64 (aW .i64 (m4 .i64 p0 p1) p1) p1))
def p5(u:Nat)(p0 p1:Int)(p2 p3:Int)(x5:Bool):Option Int :=
  bif x5 then (some p0) else ((nO u p0).bind λr6=>(uh u (cW .i64 r6.2 (eB .i64 (m4 .i64 p1 251) p2)) 251).bind λr7=>(uh u (aW .i64 (cW .i64 r6.1 p2) p3) 251).bind λr8=>(uh u (aW .i64 r7 r8) 251).bind λr9=>some (aW .i64 r8 (eB .i64 251 r9)))
def wS(u:Nat)(p0 p1:Int)(p2 p3:Int):Option Int :=
  (wR u p0).bind λr1=>bif !r1 then (p5 u p0 p1 p2 p3 true) else ((bN u p1 1 1000000000000).bind λr2=>bif !r2 then (p5 u p0 p1 p2 p3 true) else ((bN u p2 0 255).bind λr3=>bif !r3 then (p5 u p0 p1 p2 p3 true) else ((bN u p3 0 255).bind λr4=>p5 u p0 p1 p2 p3 (!r4))))
def rH(u:Nat)(x17:List Int):Option ((List Int)) :=
  some x17
def gA(u jP:Nat)(p0:List Int)(p1:Int)(x8:List Int)(x9 x10:Int):Option ((List Int)):=match jP with
  | 0=>none
  | jP+1=>bif decide (x10 < ((p0.length:Int))) then ((cN p0 (cW .i64 x10 p1)).bind λy14=>(cN p0 x10).bind λy15=>(wS u x9 p1 (IntKind.wrap .i64 y14) (IntKind.wrap .i64 y15)).bind λr16=>(c9 (decide ((x8.length+(([r16]:List Int)).length)*8<=140737488355328))).bind λ_=>(λz0 z1 z2 z3 z4=>gA u jP z0 z1 z2 z3 z4) p0 p1 (x8++(([r16]:List Int))) r16 (aW .i64 x10 1)) else (rH u x8)
def rI(u:Nat)(p0:List Int)(p1:Int)(x1:Bool):Option ((List Int)) :=
  bif x1 then (some (([]:List Int))) else ((c9 (cE 0 p1 p0.length)).bind λ_=>(nd u ((p0.take (sY p1)).drop (sY 0))).bind λr3=>(c9 (decide (((([]:List Int)).length+(([r3]:List Int)).length)*8<=140737488355328))).bind λ_=>gA u u p0 p1 ((([]:List Int))++(([r3]:List Int))) r3 p1)
def sV(u:Nat)(p0:List Int)(p1:Int):Option ((List Int)) :=
  bif decide (p1 < 1) then (rI u p0 p1 true) else (rI u p0 p1 (decide (p1 > ((p0.length:Int)))))
def EX(u:Nat)(p0:List Int)(p1:Int)(s:(List Int)×Int):Option ((List Int)):=(rH u s.1)
def EY(u:Nat)(p0:List Int)(p1:Int)(i_:Nat)(s:(List Int)×Int)(k_:((List Int)×Int)->Option ((List Int))):Option ((List Int)):=(cN p0 (cW .i64 (i_:Int) p1)).bind λy14=>(cN p0 (i_:Int)).bind λy15=>(wS u s.2 p1 (IntKind.wrap .i64 y14) (IntKind.wrap .i64 y15)).bind λr16=>(c9 (decide ((s.1.length+(([r16]:List Int)).length)*8<=140737488355328))).bind λ_=>(λz0 z1 z2 z3 z4=>k_ (z2,z3)) p0 p1 (s.1++(([r16]:List Int))) r16 (aW .i64 (i_:Int) 1)
theorem RO(u:Nat)(p0:List Int)(p1:Int)(s:(List Int)×Int)(k:Nat)(hn:(((p0.length:Int)):Int)<=9223372036854775807)(hk:sY (((p0.length:Int))) < k):gA u k p0 p1 s.1 s.2 0=Pu.n5 (EX u p0 p1) (EY u p0 p1) (sY (((p0.length:Int)))) 0 s:=Pu.pJ (λ(k:Nat) (s:(List Int)×Int) (i:Int)=>gA u k p0 p1 s.1 s.2 i) hn (λ_ _ _=>rfl) s hk
def rJ(u:Nat)  : Option Int :=
  some (-1)
def lL(u:Nat)(GE:(List Int)->Int->((List Int))->Int->b4->Option Int)(p0:List Int)(p2:Int)(r2:(List Int))(x4:Int)(x9:Bool)(p1:b4):Option Int :=
  bif x9 then (some x4) else (GE p0 p2 r2 (aW .i64 x4 1) p1)
def eu(u gf:Nat)(p0:List Int)(p2:Int)(r2:(List Int))(x4:Int)(p1:b4):Option Int:=match gf with
  | 0=>none
  | gf+1=>bif decide (x4 < ((r2.length:Int))) then ((cN r2 x4).bind λy6=>bif y6 == p1.fW then ((c9 (cE x4 (aW .i64 x4 p2) p0.length)).bind λ_=>(gJ u ((p0.take (sY (aW .i64 x4 p2))).drop (sY x4))).bind λr8=>lL u (λz0 z1 z2 z3 z4=>eu u gf z0 z1 z2 z3 z4) p0 p2 r2 x4 ([r8.fW,r8.fS] == [p1.fW,p1.fS]) p1) else (lL u (λz0 z1 z2 z3 z4=>eu u gf z0 z1 z2 z3 z4) p0 p2 r2 x4 false p1)) else (rJ u)
def sW(u:Nat)(p0:List Int)(p1:b4)(p2:Int):Option Int :=
  (bN u p2 1 6).bind λr1=>bif !r1 then (some (-1)) else ((sV u p0 p2).bind λr2=>eu u u p0 p2 r2 0 p1)
def EZ(u:Nat)(p0:List Int)(p2:Int)(r2:(List Int))(p1:b4)(s:Unit):Option Int:=(rJ u)
def E2(u:Nat)(p0:List Int)(p2:Int)(r2:(List Int))(p1:b4)(y6:Int)(i_:Nat)(s:Unit)(k_:Unit->Option Int):Option Int:=bif y6 == p1.fW then ((c9 (cE (i_:Int) (aW .i64 (i_:Int) p2) p0.length)).bind λ_=>(gJ u ((p0.take (sY (aW .i64 (i_:Int) p2))).drop (sY (i_:Int)))).bind λr8=>lL u (λz0 z1 z2 z3 z4=>k_ ()) p0 p2 r2 (i_:Int) ([r8.fW,r8.fS] == [p1.fW,p1.fS]) p1) else (lL u (λz0 z1 z2 z3 z4=>k_ ()) p0 p2 r2 (i_:Int) false p1)
theorem RP(u:Nat)(p0:List Int)(p2:Int)(r2:(List Int))(p1:b4)(s:Unit)(k:Nat)(hn:r2.length<=9223372036854775807)(hk:r2.length < k):eu u k p0 p2 r2 0 p1=Pu.bU (EZ u p0 p2 r2 p1) (E2 u p0 p2 r2 p1) r2 0 s:=Pu.cK (λ(k:Nat) (s:Unit) (i:Int)=>eu u k p0 p2 r2 i p1) hn (λ_ _ _=>rfl) s hk
def rK(u:Nat)(p0:List Int)(p2:Int)(r1:Int×Int)(x2:Bool)(p1:ah):Option Int :=
  bif x2 then (some (-1)) else ((cN p1.aJ p2).bind λy3=>(sW u p0 y3 r1.2).bind λr4=>some r4)
def p6(u:Nat)(p0:List Int)(p1:ah)(p2:Int):Option Int :=
  (fh u p1.aC p1.aY p2).bind λr1=>bif r1.2 == 0 then (rK u p0 p2 r1 true p1) else (rK u p0 p2 r1 (decide (p2>=((p1.aJ.length:Int)))) p1)
def d7(u:Nat)(p0:Int):Option Bool :=
  (bN u p0 0 1099511627775).bind λr1=>some r1
def em(u:Nat)(p0 p1:Int):Option Bool :=
  (d7 u p0).bind λr1=>bif r1 then ((bN u p1 0 39).bind λr2=>bif r2 then ((c9 (decide (0<=p1))).bind λ_=>some ((eH .i64 (lB .i64 p0 p1) 1) == 1)) else (some false)) else (some false)
def mD(u:Nat)(p0 p1:Int)(x3:Bool):Option Int :=
  bif x3 then (some p0) else ((c9 (decide (0<=p1))).bind λ_=>some (qP .i64 p0 (gl .i64 1 p1)))
def gX(u:Nat)(p0 p1:Int):Option Int :=
  (d7 u p0).bind λr1=>bif !r1 then (mD u p0 p1 true) else ((bN u p1 0 39).bind λr2=>mD u p0 p1 (!r2))
def uR(u:Nat)(p2:Int)(p1:bI)(x15:List Int):Option (Bool×bI) :=
  (gX u p1.bq p2).bind λr16=>some ((true,(bI.mk r16 x15)))
def og(u lX:Nat)(p2:Int)(p3:List Int)(r6:Int×Int)(x9:Int)(p1:bI)(x10:List Int):Option (Bool×bI):=match lX with
  | 0=>none
  | lX+1=>bif decide (x9 < ((p3.length:Int))) then ((cN p3 x9).bind λy13=>(cN x10 (aW .i64 r6.1 x9)).bind λy14=>(λz0 z1 z2 z3 z4 z5=>og u lX z0 z1 z2 z3 z4 z5) p2 p3 r6 (aW .i64 x9 1) p1 (x10.set (sY (aW .i64 r6.1 x9)) y13)) else (uR u p2 p1 x10)
def oh(u:Nat)(p2:Int)(p3:List Int)(x5:Bool)(p0:ah)(p1:bI):Option (Bool×bI) :=
  bif x5 then (some ((false,p1))) else ((fh u p0.aC p0.aY p2).bind λr6=>og u u p2 p3 r6 0 p1 p1.bZ)
def so(u:Nat)(p0:ah)(p1:bI)(p2:Int)(p3:List Int):Option (Bool×bI) :=
  (bN u p2 0 (cW .i64 ((p0.aJ.length:Int)) 1)).bind λr1=>bif !r1 then (oh u p2 p3 true p0 p1) else ((em u p1.bq p2).bind λr2=>bif r2 then (oh u p2 p3 true p0 p1) else ((gJ u p3).bind λr3=>(cN p0.aJ p2).bind λy4=>bif !([r3.fW,r3.fS] == [y4.fW,y4.fS]) then (oh u p2 p3 true p0 p1) else (oh u p2 p3 (decide (((p3.length:Int)) > 6)) p0 p1)))
def vJ(u:Nat)(p2:Int)(p3:List Int)(r6:Int×Int)(p1:bI)(s:(List Int)):Option (Bool×bI):=(uR u p2 p1 s)
def vK(u:Nat)(p2:Int)(p3:List Int)(r6:Int×Int)(p1:bI)(y13:Int)(i_:Nat)(s:(List Int))(k_:((List Int))->Option (Bool×bI)):Option (Bool×bI):=(cN s (aW .i64 r6.1 (i_:Int))).bind λy14=>(λz0 z1 z2 z3 z4 z5=>k_ z5) p2 p3 r6 (aW .i64 (i_:Int) 1) p1 (s.set (sY (aW .i64 r6.1 (i_:Int))) y13)
theorem IL(u:Nat)(p2:Int)(p3:List Int)(r6:Int×Int)(p1:bI)(s:(List Int))(k:Nat)(hn:p3.length<=9223372036854775807)(hk:p3.length < k):og u k p2 p3 r6 0 p1 s=Pu.bU (vJ u p2 p3 r6 p1) (vK u p2 p3 r6 p1) p3 0 s:=Pu.cK (λ(k:Nat) (s:(List Int)) (i:Int)=>og u k p2 p3 r6 i p1 s) hn (λ_ _ _=>rfl) s hk
def sZ(u:Nat)(x18:Int)(x19:List Int):Option bI :=
  some ((bI.mk x18 x19))
def jA(u:Nat)(De:(List Int)->Int->ah->Int->(List Int)->Option bI)(p1:List Int)(x6:Int)(p0:ah)(x16:Int)(x17:List Int):Option bI :=
  De p1 (aW .i64 x6 1) p0 x16 x17
def fX(u eM:Nat)(p1:List Int)(x6:Int)(p0:ah)(x7:Int)(x8:List Int):Option bI:=match eM with
  | 0=>none
  | eM+1=>bif decide (x6 < ((p0.aJ.length:Int))) then ((p6 u p1 p0 x6).bind λr12=>(fh u p0.aC p0.aY x6).bind λr13=>bif decide (r12>=0) then ((c9 (cE r12 (aW .i64 r12 r13.2) p1.length)).bind λ_=>(so u p0 ((bI.mk x7 x8)) x6 ((p1.take (sY (aW .i64 r12 r13.2))).drop (sY r12))).bind λr15=>jA u (λz0 z1 z2 z3 z4=>fX u eM z0 z1 z2 z3 z4) p1 x6 p0 r15.2.bq r15.2.bZ) else (jA u (λz0 z1 z2 z3 z4=>fX u eM z0 z1 z2 z3 z4) p1 x6 p0 x7 x8)) else (sZ u x7 x8)
def mE(u:Nat)(p0:ah)(p1:List Int):Option bI :=
  (qU u p0).bind λr1=>(g8 u p0).bind λr2=>bif !r2 then (some r1) else (fX u u p1 0 p0 r1.bq r1.bZ)
def we(u:Nat)(p1:List Int)(p0:ah)(s:Int×(List Int)):Option bI:=(sZ u s.1 s.2)
def qE(u:Nat)(p1:List Int)(p0:ah)(i_:Nat)(s:Int×(List Int))(k_:(Int×(List Int))->Option bI):Option bI:=(p6 u p1 p0 (i_:Int)).bind λr12=>(fh u p0.aC p0.aY (i_:Int)).bind λr13=>bif decide (r12>=0) then ((c9 (cE r12 (aW .i64 r12 r13.2) p1.length)).bind λ_=>(so u p0 ((bI.mk s.1 s.2)) (i_:Int) ((p1.take (sY (aW .i64 r12 r13.2))).drop (sY r12))).bind λr15=>jA u (λz0 z1 z2 z3 z4=>k_ (z3,z4)) p1 (i_:Int) p0 r15.2.bq r15.2.bZ) else (jA u (λz0 z1 z2 z3 z4=>k_ (z3,z4)) p1 (i_:Int) p0 s.1 s.2)
theorem CX(u:Nat)(p1:List Int)(p0:ah)(s:Int×(List Int))(k:Nat)(hn:(((p0.aJ.length:Int)):Int)<=9223372036854775807)(hk:sY (((p0.aJ.length:Int))) < k):fX u k p1 0 p0 s.1 s.2=Pu.n5 (we u p1 p0) (qE u p1 p0) (sY (((p0.aJ.length:Int)))) 0 s:=Pu.pJ (λ(k:Nat) (s:Int×(List Int)) (i:Int)=>fX u k p1 i p0 s.1 s.2) hn (λ_ _ _=>rfl) s hk
def kC(u:Nat)(p1:List Int)(x3:Bool)(p0:ah):Option aH :=
  bif x3 then (some ((aH.mk false 0 0 ((ah.mk 0 0 0 ([]))) ((bI.mk 0 ([]))) 0 ([]) 0))) else ((mc u p0).bind λr4=>(mE u p0 p1).bind λr5=>some ((aH.mk true (-1) 0 r4 r5 6 ([]) 0)))
def oj(u:Nat)(p0:ah)(p1:List Int):Option aH :=
  bif p0.aO == 0 then (kC u p1 true p0) else ((g8 u p0).bind λr1=>bif !r1 then (kC u p1 true p0) else ((ug u p0 p1).bind λr2=>kC u p1 (!r2) p0))
def jT(u:Nat)(p0:Int)(p1:List Int)(x2:Bool):Option aB :=
  bif x2 then (some ((aB.mk ([]) ([]) ((dp.mk 0 0 0)) ([])))) else ((c9 (decide (((([]:List Int)).length+p1.length)*1<=140737488355328))).bind λ_=>some ((aB.mk ((([]:List Int))++p1) ([]) ((dp.mk p0 0 ((p1.length:Int)))) ([]))))
def jb(u:Nat)(p0:Int)(p1:List Int):Option aB :=
  (bN u p0 0 1000000).bind λr1=>bif !r1 then (jT u p0 p1 true) else (jT u p0 p1 (decide (((p1.length:Int)) > 240)))
def p7(u:Nat)(p0:iE)(p1:cT)(p2:List Int)(r8:(List a9))(x36:List aH)(x37:List aB):Option World :=
  some ((World.mk p0 ((cT.mk ((([]:List Int))++p1.cf))) ((([]:List Int))++p2) r8 x36 x37 ([]) ([]) 0))
def iK(u:Nat)(ES:(List Int)->(List a9)->Int->iE->cT->((List a9))->(List aH)->(List aB)->Option World)(p2:List Int)(p3:List a9)(x12:Int)(p0:iE)(p1:cT)(r8:(List a9))(x13:List aH)(x14:List aB)(x21:Bool)(x22 x23:Int)(x24 x25 x26:Int)(x27:List b4)(x28:Int)(x29:List Int)(x30:Int)(x31:List bM)(x32:Int):Option World :=
  (c9 (decide ((x13.length+([(aH.mk x21 x22 x23 ((ah.mk x24 x25 x26 x27)) ((bI.mk x28 x29)) x30 x31 x32)]).length)*144<=140737488355328))).bind λ_=>(cN p3 x12).bind λy34=>(jb u 0 y34.fB).bind λr35=>(c9 (decide ((x14.length+([r35]).length)*96<=140737488355328))).bind λ_=>ES p2 p3 (aW .i64 x12 1) p0 p1 r8 (x13++([(aH.mk x21 x22 x23 ((ah.mk x24 x25 x26 x27)) ((bI.mk x28 x29)) x30 x31 x32)])) (x14++([r35]))
def dt(u fo:Nat)(p2:List Int)(p3:List a9)(x12:Int)(p0:iE)(p1:cT)(r8:(List a9))(x13:List aH)(x14:List aB):Option World:=match fo with
  | 0=>none
  | fo+1=>bif decide (x12 < ((p1.cf.length:Int))) then ((mn u p1 x12).bind λr18=>bif x12 == 0 then ((uf u ((World.mk p0 ((cT.mk ((([]:List Int))++p1.cf))) ((([]:List Int))++p2) r8 x13 x14 ([]) ([]) 0))).bind λr19=>(oj u r19 p2).bind λr20=>iK u (λz0 z1 z2 z3 z4 z5 z6 z7=>dt u fo z0 z1 z2 z3 z4 z5 z6 z7) p2 p3 x12 p0 p1 r8 x13 x14 r20.gW r20.bP r20.bJ r20.aD.aO r20.aD.aC r20.aD.aY r20.aD.aJ r20.bD.bq r20.bD.bZ r20.bp r20.bj r20.bB) else (iK u (λz0 z1 z2 z3 z4 z5 z6 z7=>dt u fo z0 z1 z2 z3 z4 z5 z6 z7) p2 p3 x12 p0 p1 r8 x13 x14 r18.gW r18.bP r18.bJ r18.aD.aO r18.aD.aC r18.aD.aY r18.aD.aJ r18.bD.bq r18.bD.bZ r18.bp r18.bj r18.bB)) else (p7 u p0 p1 p2 r8 x13 x14)
def kD(u:Nat)(p2:List Int)(p3:List a9)(x5:Bool)(p0:iE)(p1:cT):Option World :=
  bif x5 then (some ((World.mk ((iE.mk 0 0 0 0)) ((cT.mk ([]))) ([]) ([]) ([]) ([]) ([]) ([]) 0))) else ((c9 (decide (((([]:List Int)).length+p1.cf.length)*8<=140737488355328))).bind λ_=>(c9 (decide (((([]:List Int)).length+p2.length)*1<=140737488355328))).bind λ_=>(ji u p3).bind λr8=>dt u u p2 p3 0 p0 p1 r8 ([]) ([]))
def qV(u:Nat)(p0:iE)(p1:cT)(p2:List Int)(p3:List a9):Option World :=
  (u4 u p0).bind λr1=>bif !r1 then (kD u p2 p3 true p0 p1) else ((o8 u p1).bind λr2=>bif !r2 then (kD u p2 p3 true p0 p1) else ((ma u p0.aC ((p2.length:Int))).bind λr3=>bif !r3 then (kD u p2 p3 true p0 p1) else ((sR u p3 ((p1.cf.length:Int))).bind λr4=>kD u p2 p3 (!r4) p0 p1)))
def DI(u:Nat)(p2:List Int)(p3:List a9)(p0:iE)(p1:cT)(r8:(List a9))(s:(List aH)×(List aB)):Option World:=(p7 u p0 p1 p2 r8 s.1 s.2)
def DJ(u:Nat)(p2:List Int)(p3:List a9)(p0:iE)(p1:cT)(r8:(List a9))(i_:Nat)(s:(List aH)×(List aB))(k_:((List aH)×(List aB))->Option World):Option World:=(mn u p1 (i_:Int)).bind λr18=>bif (i_:Int) == 0 then ((uf u ((World.mk p0 ((cT.mk ((([]:List Int))++p1.cf))) ((([]:List Int))++p2) r8 s.1 s.2 ([]) ([]) 0))).bind λr19=>(oj u r19 p2).bind λr20=>iK u (λz0 z1 z2 z3 z4 z5 z6 z7=>k_ (z6,z7)) p2 p3 (i_:Int) p0 p1 r8 s.1 s.2 r20.gW r20.bP r20.bJ r20.aD.aO r20.aD.aC r20.aD.aY r20.aD.aJ r20.bD.bq r20.bD.bZ r20.bp r20.bj r20.bB) else (iK u (λz0 z1 z2 z3 z4 z5 z6 z7=>k_ (z6,z7)) p2 p3 (i_:Int) p0 p1 r8 s.1 s.2 r18.gW r18.bP r18.bJ r18.aD.aO r18.aD.aC r18.aD.aY r18.aD.aJ r18.bD.bq r18.bD.bZ r18.bp r18.bj r18.bB)
theorem QF(u:Nat)(p2:List Int)(p3:List a9)(p0:iE)(p1:cT)(r8:(List a9))(s:(List aH)×(List aB))(k:Nat)(hn:(((p1.cf.length:Int)):Int)<=9223372036854775807)(hk:sY (((p1.cf.length:Int))) < k):dt u k p2 p3 0 p0 p1 r8 s.1 s.2=Pu.n5 (DI u p2 p3 p0 p1 r8) (DJ u p2 p3 p0 p1 r8) (sY (((p1.cf.length:Int)))) 0 s:=Pu.pJ (λ(k:Nat) (s:(List aH)×(List aB)) (i:Int)=>dt u k p2 p3 i p0 p1 r8 s.1 s.2) hn (λ_ _ _=>rfl) s hk
def s0(u:Nat)(r2:(List Int)×aK)(x19:List a9)(r1:cT×aK)(x20:List Int)(x21 x22:Int):Option (World×aK) :=
  (pY u ((aK.mk x20 x21 x22))).bind λr23=>(qV u r23.1 r1.1 r2.1 x19).bind λr24=>some ((r24,r23.2))
def g9(u kY:Nat)(r2:(List Int)×aK)(x8:List a9)(x9:Int)(r1:cT×aK)(x10:List Int)(x11 x12:Int):Option (World×aK):=match kY with
  | 0=>none
  | kY+1=>bif decide (x9 < ((r1.1.cf.length:Int))) then ((sm u ((aK.mk x10 x11 x12)) r2.1).bind λr18=>(c9 (decide ((x8.length+([(a9.mk r18.1)]).length)*24<=140737488355328))).bind λ_=>(λz0 z1 z2 z3 z4 z5 z6=>g9 u kY z0 z1 z2 z3 z4 z5 z6) r2 (x8++([(a9.mk r18.1)])) (aW .i64 x9 1) r1 r18.2.fB r18.2.fI r18.2.fH) else (s0 u r2 x8 r1 x10 x11 x12)
def u6(u:Nat)(p0:aK):Option (World×aK) :=
  (pX u p0).bind λr1=>(lY u r1.2).bind λr2=>g9 u u r2 (([]:List a9)) 0 r1 r2.2.fB r2.2.fI r2.2.fH
def GK(u:Nat)(r2:(List Int)×aK)(r1:cT×aK)(s:(List a9)×(List Int)×Int×Int):Option (World×aK):=(s0 u r2 s.1 r1 s.2.1 s.2.2.1 s.2.2.2)
def GL(u:Nat)(r2:(List Int)×aK)(r1:cT×aK)(i_:Nat)(s:(List a9)×(List Int)×Int×Int)(k_:((List a9)×(List Int)×Int×Int)->Option (World×aK)):Option (World×aK):=(sm u ((aK.mk s.2.1 s.2.2.1 s.2.2.2)) r2.1).bind λr18=>(c9 (decide ((s.1.length+([(a9.mk r18.1)]).length)*24<=140737488355328))).bind λ_=>(λz0 z1 z2 z3 z4 z5 z6=>k_ (z1,z4,z5,z6)) r2 (s.1++([(a9.mk r18.1)])) (aW .i64 (i_:Int) 1) r1 r18.2.fB r18.2.fI r18.2.fH
theorem Su(u:Nat)(r2:(List Int)×aK)(r1:cT×aK)(s:(List a9)×(List Int)×Int×Int)(k:Nat)(hn:(((r1.1.cf.length:Int)):Int)<=9223372036854775807)(hk:sY (((r1.1.cf.length:Int))) < k):g9 u k r2 s.1 0 r1 s.2.1 s.2.2.1 s.2.2.2=Pu.n5 (GK u r2 r1) (GL u r2 r1) (sY (((r1.1.cf.length:Int)))) 0 s:=Pu.pJ (λ(k:Nat) (s:(List a9)×(List Int)×Int×Int) (i:Int)=>g9 u k r2 s.1 i r1 s.2.1 s.2.2.1 s.2.2.2) hn (λ_ _ _=>rfl) s hk
def nh(u:Nat)(p0:bI):Option bI :=
  (c9 (decide (((([]:List Int)).length+p0.bZ.length)*1<=140737488355328))).bind λ_=>some ((bI.mk p0.bq ((([]:List Int))++p0.bZ)))
def dj(u:Nat)(p0:aH):Option aH :=
  (mc u p0.aD).bind λr1=>(nh u p0.bD).bind λr2=>(c9 (decide (((([]:List bM)).length+p0.bj.length)*40<=140737488355328))).bind λ_=>some ((aH.mk p0.gW p0.bP p0.bJ r1 r2 p0.bp ((([]:List bM))++p0.bj) p0.bB))
def gn(u:Nat)(p0:dd):Option dd :=
  (c9 (decide (((([]:List Int)).length+p0.fB.length)*1<=140737488355328))).bind λ_=>some ((dd.mk p0.lx p0.Bn ((([]:List Int))++p0.fB) p0.fR))
def s4(u:Nat)(p0:aB)(x11:List dd):Option aB :=
  some ((aB.mk ((([]:List Int))++p0.fA) ((([]:List Int))++p0.fB) p0.fR x11))
def jk(u fQ:Nat)(x5:Int)(p0:aB)(x6:List dd):Option aB:=match fQ with
  | 0=>none
  | fQ+1=>bif decide (x5 < ((p0.fP.length:Int))) then ((cN p0.fP x5).bind λy9=>(gn u y9).bind λr10=>(c9 (decide ((x6.length+([r10]).length)*64<=140737488355328))).bind λ_=>(λz0 z1 z2=>jk u fQ z0 z1 z2) (aW .i64 x5 1) p0 (x6++([r10]))) else (s4 u p0 x6)
def dS(u:Nat)(p0:aB):Option aB :=
  (c9 (decide (((([]:List Int)).length+p0.fA.length)*1<=140737488355328))).bind λ_=>(c9 (decide (((([]:List Int)).length+p0.fB.length)*1<=140737488355328))).bind λ_=>jk u u 0 p0 (([]:List dd))
def GM(u:Nat)(p0:aB)(s:(List dd)):Option aB:=(s4 u p0 s)
def zu(u:Nat)(p0:aB)(y9:dd)(i_:Nat)(s:(List dd))(k_:((List dd))->Option aB):Option aB:=(gn u y9).bind λr10=>(c9 (decide ((s.length+([r10]).length)*64<=140737488355328))).bind λ_=>(λz0 z1 z2=>k_ z2) (aW .i64 (i_:Int) 1) p0 (s++([r10]))
theorem GN(u:Nat)(p0:aB)(s:(List dd))(k:Nat)(hn:p0.fP.length<=9223372036854775807)(hk:p0.fP.length < k):jk u k 0 p0 s=Pu.bU (GM u p0) (zu u p0) p0.fP 0 s:=Pu.cK (λ(k:Nat) (s:(List dd)) (i:Int)=>jk u k i p0 s) hn (λ_ _ _=>rfl) s hk
def nt(u:Nat)(x10:List ag):Option ((List ag)) :=
  some x10
def fG(u eJ:Nat)(p0 x3:List ag)(x4:Int):Option ((List ag)):=match eJ with
  | 0=>none
  | eJ+1=>bif decide (x4 < ((p0.length:Int))) then ((cN p0 x4).bind λy7=>(cN p0 x4).bind λy8=>(cN p0 x4).bind λy9=>(c9 (decide (((([]:List Int)).length+y9.fB.length)*1<=140737488355328))).bind λ_=>(c9 (decide ((x3.length+([(ag.mk y7.cB y8.pW ((([]:List Int))++y9.fB))]).length)*40<=140737488355328))).bind λ_=>(λz0 z1 z2=>fG u eJ z0 z1 z2) p0 (x3++([(ag.mk y7.cB y8.pW ((([]:List Int))++y9.fB))])) (aW .i64 x4 1)) else (nt u x3)
def jY(u:Nat)(p0:List ag):Option ((List ag)) :=
  fG u u p0 (([]:List ag)) 0
def yV(u:Nat)(p0:List ag)(s:(List ag)):Option ((List ag)):=(nt u s)
def qW(u:Nat)(p0:List ag)(y7:ag)(i_:Nat)(s:(List ag))(k_:((List ag))->Option ((List ag))):Option ((List ag)):=(cN p0 (i_:Int)).bind λy8=>(cN p0 (i_:Int)).bind λy9=>(c9 (decide (((([]:List Int)).length+y9.fB.length)*1<=140737488355328))).bind λ_=>(c9 (decide ((s.length+([(ag.mk y7.cB y8.pW ((([]:List Int))++y9.fB))]).length)*40<=140737488355328))).bind λ_=>(λz0 z1 z2=>k_ z1) p0 (s++([(ag.mk y7.cB y8.pW ((([]:List Int))++y9.fB))])) (aW .i64 (i_:Int) 1)
theorem yW(u:Nat)(p0:List ag)(s:(List ag))(k:Nat)(hn:p0.length<=9223372036854775807)(hk:p0.length < k):fG u k p0 s 0=Pu.bU (yV u p0) (qW u p0) p0 0 s:=Pu.cK (λ(k:Nat) (s:(List ag)) (i:Int)=>fG u k p0 s i) hn (λ_ _ _=>rfl) s hk
def nP(u:Nat)(p0:World)(r3:(List a9))(x12:List aH)(x21:List aB):Option World :=
  (jY u p0.bx).bind λr22=>(c9 (decide (((([]:List bR)).length+p0.cu.length)*24<=140737488355328))).bind λ_=>some ((World.mk p0.fC ((cT.mk ((([]:List Int))++p0.fT.cf))) ((([]:List Int))++p0.ce) r3 x12 x21 r22 ((([]:List bR))++p0.cu) p0.bn))
def ft(u eW:Nat)(x15:Int)(p0:World)(r3:(List a9))(x12:List aH)(x16:List aB):Option World:=match eW with
  | 0=>none
  | eW+1=>bif decide (x15 < ((p0.fD.length:Int))) then ((cN p0.fD x15).bind λy19=>(dS u y19).bind λr20=>(c9 (decide ((x16.length+([r20]).length)*96<=140737488355328))).bind λ_=>(λz0 z1 z2 z3 z4=>ft u eW z0 z1 z2 z3 z4) (aW .i64 x15 1) p0 r3 x12 (x16++([r20]))) else (nP u p0 r3 x12 x16)
def nQ(u:Nat)(p0:World)(r3:(List a9))(x12:List aH):Option World :=
  ft u u 0 p0 r3 x12 (([]:List aB))
def fu(u eX:Nat)(x6:Int)(p0:World)(r3:(List a9))(x7:List aH):Option World:=match eX with
  | 0=>none
  | eX+1=>bif decide (x6 < ((p0.fN.length:Int))) then ((cN p0.fN x6).bind λy10=>(dj u y10).bind λr11=>(c9 (decide ((x7.length+([r11]).length)*144<=140737488355328))).bind λ_=>(λz0 z1 z2 z3=>fu u eX z0 z1 z2 z3) (aW .i64 x6 1) p0 r3 (x7++([r11]))) else (nQ u p0 r3 x7)
def md(u:Nat)(p0:World):Option World :=
  (c9 (decide (((([]:List Int)).length+p0.fT.cf.length)*8<=140737488355328))).bind λ_=>(c9 (decide (((([]:List Int)).length+p0.ce.length)*1<=140737488355328))).bind λ_=>(ji u p0.bX).bind λr3=>fu u u 0 p0 r3 (([]:List aH))
def yh(u:Nat)(p0:World)(r3:(List a9))(x12:List aH)(s:(List aB)):Option World:=(nP u p0 r3 x12 s)
def yi(u:Nat)(p0:World)(r3:(List a9))(x12:List aH)(y19:aB)(i_:Nat)(s:(List aB))(k_:((List aB))->Option World):Option World:=(dS u y19).bind λr20=>(c9 (decide ((s.length+([r20]).length)*96<=140737488355328))).bind λ_=>(λz0 z1 z2 z3 z4=>k_ z4) (aW .i64 (i_:Int) 1) p0 r3 x12 (s++([r20]))
theorem E3(u:Nat)(p0:World)(r3:(List a9))(x12:List aH)(s:(List aB))(k:Nat)(hn:p0.fD.length<=9223372036854775807)(hk:p0.fD.length < k):ft u k 0 p0 r3 x12 s=Pu.bU (yh u p0 r3 x12) (yi u p0 r3 x12) p0.fD 0 s:=Pu.cK (λ(k:Nat) (s:(List aB)) (i:Int)=>ft u k i p0 r3 x12 s) hn (λ_ _ _=>rfl) s hk
def yj(u:Nat)(p0:World)(r3:(List a9))(s:(List aH)):Option World:=(nQ u p0 r3 s)
def yk(u:Nat)(p0:World)(r3:(List a9))(y10:aH)(i_:Nat)(s:(List aH))(k_:((List aH))->Option World):Option World:=(dj u y10).bind λr11=>(c9 (decide ((s.length+([r11]).length)*144<=140737488355328))).bind λ_=>(λz0 z1 z2 z3=>k_ z3) (aW .i64 (i_:Int) 1) p0 r3 (s++([r11]))
theorem E4(u:Nat)(p0:World)(r3:(List a9))(s:(List aH))(k:Nat)(hn:p0.fN.length<=9223372036854775807)(hk:p0.fN.length < k):fu u k 0 p0 r3 s=Pu.bU (yj u p0 r3) (yk u p0 r3) p0.fN 0 s:=Pu.cK (λ(k:Nat) (s:(List aH)) (i:Int)=>fu u k i p0 r3 s) hn (λ_ _ _=>rfl) s hk
def pa(u:Nat)(p0:aK):Option (ah×(List Int)×aK) :=
  (lY u p0).bind λr1=>(ba u r1.2 5).bind λr2=>(ba u r2.2 5).bind λr3=>(ue u (aW .i64 1 r2.1) r1.1 (aW .i64 2 r3.1)).bind λr4=>some ((r4,r1.1,r3.2))
def w6(u:Nat)(p0:aK):Option (Int×aK) :=
  (iz u p0 3).bind λr1=>bif r1.1 then ((dq u r1.2 (([0,1,3,1099511627775,549755813888]:List Int))).bind λr2=>some ((r2.1,r2.2))) else ((ba u r1.2 65536).bind λr3=>(ba u r3.2 20).bind λr4=>(c9 (decide (0<=r4.1))).bind λ_=>some ((gl .i64 r3.1 r4.1,r4.2)))
def s5(u:Nat)(p0 p1 p2:Int):Option dY :=
  some ((dY.mk 2 p0 ((ah.mk 0 0 0 ([]))) p1 p2 0 ([])))
def mf(u:Nat)(p0 p1:Int)(p2:List Int):Option dY :=
  (c9 (decide (((([]:List Int)).length+p2.length)*1<=140737488355328))).bind λ_=>some ((dY.mk 3 p0 ((ah.mk 0 0 0 ([]))) 0 0 p1 ((([]:List Int))++p2)))
def p8(u:Nat)(p0:aK):Option (dY×aK) :=
  (ba u p0 4).bind λr1=>bif r1.1 == 0 then ((pa u r1.2).bind λr2=>some (((dY.mk 1 0 r2.1 0 0 0 ([])),r2.2.2))) else (bif r1.1 == 1 then ((w6 u r1.2).bind λr3=>(ba u r3.2 3).bind λr4=>(ba u r4.2 64).bind λr5=>(s5 u r4.1 r3.1 r5.1).bind λr6=>some ((r6,r5.2))) else (bif r1.1 == 2 then ((gz u r1.2 5).bind λr7=>(c9 (decide (((([112]:List Int)).length+r7.1.length)*1<=140737488355328))).bind λ_=>(ba u r7.2 3).bind λr9=>(ba u r9.2 9).bind λr10=>(mf u (aW .i64 1 r9.1) r10.1 ((([112]:List Int))++r7.1)).bind λr11=>some ((r11,r10.2))) else ((ba u r1.2 3).bind λr12=>some (((dY.mk 4 r12.1 ((ah.mk 0 0 0 ([]))) 0 0 0 ([])),r12.2)))))
def p9(u:Nat)(p0 p1:ah):Option Bool :=
  bif p0.aO == p1.aO then (bif p0.aC == p1.aC then (bif p0.aY == p1.aY then ((lK u p0.aJ p1.aJ).bind λr1=>some r1) else (some false)) else (some false)) else (some false)
def om(u:Nat)(r1 x2:Bool)(p0:dY):Option Bool :=
  bif p0.bt == 1 then (bif p0.aO == 0 then (bif p0.aD.aO != 0 then ((g8 u p0.aD).bind λr3=>bif r3 then (some x2) else (some false)) else (some false)) else (some false)) else (bif p0.bt == 2 then ((bN u p0.aO 0 1000000).bind λr4=>bif r4 then (bif r1 then ((d7 u p0.bQ).bind λr5=>bif r5 then ((d7 u p0.bV).bind λr6=>bif r6 then (bif p0.fI == 0 then (some (((p0.fB.length:Int)) == 0)) else (some false)) else (some false)) else (some false)) else (some false)) else (some false)) else (bif p0.bt == 3 then ((bN u p0.aO 1 1000000).bind λr7=>bif r7 then (bif r1 then (bif p0.bQ == 0 then (bif p0.bV == 0 then ((bN u p0.fI 0 39).bind λr8=>bif r8 then ((bN u ((p0.fB.length:Int)) 1 6).bind λr9=>some r9) else (some false)) else (some false)) else (some false)) else (some false)) else (some false)) else (bif p0.bt == 4 then ((bN u p0.aO 0 1000000).bind λr10=>bif r10 then (bif r1 then (some x2) else (some false)) else (some false)) else (some false))))
def ui(u:Nat)(p0:dY):Option Bool :=
  (p9 u p0.aD ((ah.mk 0 0 0 ([])))).bind λr1=>bif p0.bQ == 0 then (bif p0.bV == 0 then (bif p0.fI == 0 then (om u r1 (((p0.fB.length:Int)) == 0) p0) else (om u r1 false p0)) else (om u r1 false p0)) else (om u r1 false p0)
def s6(u:Nat)(x9:Int)(x10:List Int):Option ((List Int)) :=
  (c9 (decide ((x10.length+(([IntKind.wrap .u8 x9]:List Int)).length)*1<=140737488355328))).bind λ_=>some (x10++(([IntKind.wrap .u8 x9]:List Int)))
def k6(u kU:Nat)(x5:Int)(x6:List Int):Option ((List Int)):=match kU with
  | 0=>none
  | kU+1=>bif decide (x5 > 127) then ((c9 (decide ((x6.length+(([IntKind.wrap .u8 (qP .i64 (eH .i64 x5 127) 128)]:List Int)).length)*1<=140737488355328))).bind λ_=>(λz0 z1=>k6 u kU z0 z1) (lB .i64 x5 7) (x6++(([IntKind.wrap .u8 (qP .i64 (eH .i64 x5 127) 128)]:List Int)))) else (s6 u x5 x6)
def dT(u:Nat)(p0:List Int)(p1:Int):Option ((List Int)) :=
  (c9 (decide (((([]:List Int)).length+p0.length)*1<=140737488355328))).bind λ_=>(bN u p1 0 1000000000000).bind λr2=>bif !r2 then (some ((([]:List Int))++p0)) else (k6 u u p1 ((([]:List Int))++p0))
def qa(u:Nat)(x7:List Int)(x8:Int):Option ((List Int)) :=
  (c9 (decide ((x7.length+(([IntKind.wrap .u8 x8]:List Int)).length)*1<=140737488355328))).bind λ_=>some (x7++(([IntKind.wrap .u8 x8]:List Int)))
def iL(u i6:Nat)(x3:List Int)(x4:Int):Option ((List Int)):=match i6 with
  | 0=>none
  | i6+1=>bif decide (x4 > 127) then ((c9 (decide ((x3.length+(([IntKind.wrap .u8 (qP .i64 (eH .i64 x4 127) 128)]:List Int)).length)*1<=140737488355328))).bind λ_=>(λz0 z1=>iL u i6 z0 z1) (x3++(([IntKind.wrap .u8 (qP .i64 (eH .i64 x4 127) 128)]:List Int))) (lB .i64 x4 7)) else (qa u x3 x4)
def qX(u:Nat)(p0:List Int)(p1:Int):Option ((List Int)) :=
  iL u u p0 p1
def w7(u:Nat)(x14:List Int):Option ((List Int)) :=
  some x14
def mF(u kT:Nat)(x8:List Int)(x9:Int)(p1:ah):Option ((List Int)):=match kT with
  | 0=>none
  | kT+1=>bif decide (x9 < ((p1.aJ.length:Int))) then ((cN p1.aJ x9).bind λy12=>(qX u x8 y12.fS).bind λr13=>(λz0 z1 z2=>mF u kT z0 z1 z2) r13 (aW .i64 x9 1) p1) else (w7 u x8)
def u7(u:Nat)(p0:List Int)(p1:ah):Option ((List Int)) :=
  (c9 (decide (((([]:List Int)).length+p0.length)*1<=140737488355328))).bind λ_=>(g8 u p1).bind λr2=>bif !r2 then (some ((([]:List Int))++p0)) else ((dT u ((([]:List Int))++p0) p1.aO).bind λr3=>(dT u r3 p1.aC).bind λr4=>(dT u r4 p1.aY).bind λr5=>mF u u r5 0 p1)
def zw(u:Nat)(p1:ah)(s:(List Int)):Option ((List Int)):=(w7 u s)
def uj(u:Nat)(p1:ah)(y12:b4)(i_:Nat)(s:(List Int))(k_:((List Int))->Option ((List Int))):Option ((List Int)):=(qX u s y12.fS).bind λr13=>(λz0 z1 z2=>k_ z0) r13 (aW .i64 (i_:Int) 1) p1
theorem GO(u:Nat)(p1:ah)(s:(List Int))(k:Nat)(hn:p1.aJ.length<=9223372036854775807)(hk:p1.aJ.length < k):mF u k s 0 p1=Pu.bU (zw u p1) (uj u p1) p1.aJ 0 s:=Pu.cK (λ(k:Nat) (s:(List Int)) (i:Int)=>mF u k s i p1) hn (λ_ _ _=>rfl) s hk
def s7(u:Nat)(p0:Int):Option (Int×Int) :=
  some ((eH .i64 p0 1048575,lB .i64 p0 20))
def wD(u:Nat)(p0 p1:List Int):Option ((List Int)) :=
  (dT u p0 ((p1.length:Int))).bind λr1=>(c9 (decide ((r1.length+p1.length)*1<=140737488355328))).bind λ_=>some (r1++p1)
def jl(u:Nat)(x15:List Int):Option ((List Int)) :=
  (nd u x15).bind λr16=>(dT u x15 r16).bind λr17=>some r17
def ni(u:Nat)(p0:dY):Option ((List Int)) :=
  (ui u p0).bind λr1=>bif !r1 then (some (([]:List Int))) else ((dT u (([]:List Int)) p0.bt).bind λr2=>bif p0.bt == 1 then ((u7 u r2 p0.aD).bind λr3=>jl u r3) else (bif p0.bt == 2 then ((s7 u p0.bQ).bind λr4=>(dT u r2 p0.aO).bind λr5=>(dT u r5 r4.1).bind λr6=>(dT u r6 r4.2).bind λr7=>(s7 u p0.bV).bind λr8=>(dT u r7 r8.1).bind λr9=>(dT u r9 r8.2).bind λr10=>jl u r10) else (bif p0.bt == 3 then ((dT u r2 p0.aO).bind λr11=>(dT u r11 p0.fI).bind λr12=>(wD u r12 p0.fB).bind λr13=>jl u r13) else ((dT u r2 p0.aO).bind λr14=>jl u r14))))
def s8(u:Nat)  : Option (Int×Int×Bool) :=
  some ((0,0,false))
def pc(u:Nat)(na:(List Int)->Int->Int->Int->Option (Int×Int×Bool))(p0:List Int)(p1 x3:Int)(y8 x4:Int)(x10:Bool):Option (Int×Int×Bool) :=
  bif x10 then (some ((0,0,false))) else (some ((qP .i64 x3 (gl .i64 (eH .i64 (IntKind.wrap .i64 y8) 127) (eB .i64 7 x4)),aW .i64 (aW .i64 p1 x4) 1,true)))
def k7(u:Nat)(na:(List Int)->Int->Int->Int->Option (Int×Int×Bool))(p0:List Int)(p1 x3 x4:Int)(x7:Bool):Option (Int×Int×Bool) :=
  bif x7 then (some ((0,0,false))) else ((cN p0 (aW .i64 p1 x4)).bind λy8=>(c9 (decide (0<=(eB .i64 7 x4)))).bind λ_=>bif decide ((IntKind.wrap .i64 y8) < 128) then (bif (IntKind.wrap .i64 y8) == 0 then (bif decide (x4 > 0) then (pc u na p0 p1 x3 y8 x4 true) else (pc u na p0 p1 x3 y8 x4 (decide ((qP .i64 x3 (gl .i64 (eH .i64 (IntKind.wrap .i64 y8) 127) (eB .i64 7 x4))) > 1000000000000)))) else (pc u na p0 p1 x3 y8 x4 (decide ((qP .i64 x3 (gl .i64 (eH .i64 (IntKind.wrap .i64 y8) 127) (eB .i64 7 x4))) > 1000000000000)))) else (na p0 p1 (qP .i64 x3 (gl .i64 (eH .i64 (IntKind.wrap .i64 y8) 127) (eB .i64 7 x4))) (aW .i64 x4 1)))
def dx(u fM:Nat)(p0:List Int)(p1 x3 x4:Int):Option (Int×Int×Bool):=match fM with
  | 0=>none
  | fM+1=>bif decide (x4 < 6) then (bif decide (p1 < 0) then (k7 u (λz0 z1 z2 z3=>dx u fM z0 z1 z2 z3) p0 p1 x3 x4 true) else (k7 u (λz0 z1 z2 z3=>dx u fM z0 z1 z2 z3) p0 p1 x3 x4 (decide (p1>=(cW .i64 ((p0.length:Int)) x4))))) else (s8 u)
def fY(u:Nat)(p0:List Int)(p1:Int):Option (Int×Int×Bool) :=
  dx u u p0 p1 0 0
def GP(u:Nat)(p0:List Int)(p1 s:Int):Option (Int×Int×Bool):=(s8 u)
def GQ(u:Nat)(p0:List Int)(p1:Int)(i_:Nat)(s:Int)(k_:Int->Option (Int×Int×Bool)):Option (Int×Int×Bool):=bif decide (p1 < 0) then (k7 u (λz0 z1 z2 z3=>k_ z2) p0 p1 s (i_:Int) true) else (k7 u (λz0 z1 z2 z3=>k_ z2) p0 p1 s (i_:Int) (decide (p1>=(cW .i64 ((p0.length:Int)) (i_:Int)))))
theorem Sv(u:Nat)(p0:List Int)(p1 s:Int)(k:Nat)(hn:(6:Int)<=9223372036854775807)(hk:sY (6) < k):dx u k p0 p1 s 0=Pu.n5 (GP u p0 p1) (GQ u p0 p1) (sY (6)) 0 s:=Pu.pJ (λ(k:Nat) (s i:Int)=>dx u k p0 p1 s i) hn (λ_ _ _=>rfl) s hk
def qb(u:Nat)  : Option (Int×Int×Bool) :=
  some ((0,0,false))
def fJ(u i5:Nat)(p0:List Int)(p1 x3 x4:Int):Option (Int×Int×Bool):=match i5 with
  | 0=>none
  | i5+1=>bif decide (x4 < 8) then (bif decide (p1>=(cW .i64 ((p0.length:Int)) x4)) then (some ((0,0,false))) else ((cN p0 (aW .i64 p1 x4)).bind λy7=>(c9 (decide (0<=(eB .i64 7 x4)))).bind λ_=>bif decide ((IntKind.wrap .i64 y7) < 128) then (bif decide ((IntKind.wrap .i64 y7) > 0) then (some ((qP .i64 x3 (gl .i64 (eH .i64 (IntKind.wrap .i64 y7) 127) (eB .i64 7 x4)),aW .i64 (aW .i64 p1 x4) 1,true))) else (some ((qP .i64 x3 (gl .i64 (eH .i64 (IntKind.wrap .i64 y7) 127) (eB .i64 7 x4)),aW .i64 (aW .i64 p1 x4) 1,x4 == 0)))) else ((λz0 z1 z2 z3=>fJ u i5 z0 z1 z2 z3) p0 p1 (qP .i64 x3 (gl .i64 (eH .i64 (IntKind.wrap .i64 y7) 127) (eB .i64 7 x4))) (aW .i64 x4 1)))) else (qb u)
def qY(u:Nat)(p0:List Int)(p1:Int):Option (Int×Int×Bool) :=
  fJ u u p0 p1 0 0
def DK(u:Nat)(p0:List Int)(p1 s:Int):Option (Int×Int×Bool):=(qb u)
def DL(u:Nat)(p0:List Int)(p1:Int)(i_:Nat)(s:Int)(k_:Int->Option (Int×Int×Bool)):Option (Int×Int×Bool):=bif decide (p1>=(cW .i64 ((p0.length:Int)) (i_:Int))) then (some ((0,0,false))) else ((cN p0 (aW .i64 p1 (i_:Int))).bind λy7=>(c9 (decide (0<=(eB .i64 7 (i_:Int))))).bind λ_=>bif decide ((IntKind.wrap .i64 y7) < 128) then (bif decide ((IntKind.wrap .i64 y7) > 0) then (some ((qP .i64 s (gl .i64 (eH .i64 (IntKind.wrap .i64 y7) 127) (eB .i64 7 (i_:Int))),aW .i64 (aW .i64 p1 (i_:Int)) 1,true))) else (some ((qP .i64 s (gl .i64 (eH .i64 (IntKind.wrap .i64 y7) 127) (eB .i64 7 (i_:Int))),aW .i64 (aW .i64 p1 (i_:Int)) 1,(i_:Int) == 0)))) else ((λz0 z1 z2 z3=>k_ z2) p0 p1 (qP .i64 s (gl .i64 (eH .i64 (IntKind.wrap .i64 y7) 127) (eB .i64 7 (i_:Int)))) (aW .i64 (i_:Int) 1)))
theorem QG(u:Nat)(p0:List Int)(p1 s:Int)(k:Nat)(hn:(8:Int)<=9223372036854775807)(hk:sY (8) < k):fJ u k p0 p1 s 0=Pu.n5 (DK u p0 p1) (DL u p0 p1) (sY (8)) 0 s:=Pu.pJ (λ(k:Nat) (s i:Int)=>fJ u k p0 p1 s i) hn (λ_ _ _=>rfl) s hk
def k8(u:Nat)(x19:Int)(r1 r2 r3:Int×Int×Bool)(x20:List b4):Option (ah×Int×Bool) :=
  (g8 u ((ah.mk r1.1 r2.1 r3.1 x20))).bind λr21=>bif !r21 then (some (((ah.mk 0 0 0 ([])),0,false))) else (some (((ah.mk r1.1 r2.1 r3.1 x20),x19,true)))
def hH(u:Nat)(Id:(List Int)->(Int×Int×Bool)->(Int×Int×Bool)->(Int×Int×Bool)->Int->Int->(List b4)->Option (ah×Int×Bool))(p0:List Int)(r1 r2 r3:Int×Int×Bool)(x8 x9:Int)(x15:Bool)(x10:List b4):Option (ah×Int×Bool) :=
  bif x15 then ((qY u p0 x8).bind λr16=>bif !r16.2.2 then (some (((ah.mk 0 0 0 ([])),0,false))) else ((nr u r16.1).bind λr17=>(gJ u r17.1).bind λr18=>(c9 (decide ((x10.length+([(b4.mk r18.fW r16.1)]).length)*16<=140737488355328))).bind λ_=>Id p0 r1 r2 r3 r16.2.1 (aW .i64 x9 1) (x10++([(b4.mk r18.fW r16.1)])))) else (k8 u x8 r1 r2 r3 x10)
def cU(u dv:Nat)(p0:List Int)(r1 r2 r3:Int×Int×Bool)(x8 x9:Int)(x10:List b4):Option (ah×Int×Bool):=match dv with
  | 0=>none
  | dv+1=>(mb u r2.1 r3.1).bind λr14=>bif decide (x9 < r14) then (hH u (λz0 z1 z2 z3 z4 z5 z6=>cU u dv z0 z1 z2 z3 z4 z5 z6) p0 r1 r2 r3 x8 x9 (decide (r1.1 > 0)) x10) else (hH u (λz0 z1 z2 z3 z4 z5 z6=>cU u dv z0 z1 z2 z3 z4 z5 z6) p0 r1 r2 r3 x8 x9 false x10)
def mG(u:Nat)(p0:List Int)(r1 r2 r3:Int×Int×Bool)(x4:Bool):Option (ah×Int×Bool) :=
  bif x4 then (some (((ah.mk 0 0 0 ([])),0,false))) else (cU u u p0 r1 r2 r3 r3.2.1 0 ([]))
def pd(u:Nat)(p0:List Int)(p1:Int):Option (ah×Int×Bool) :=
  (fY u p0 p1).bind λr1=>(fY u p0 r1.2.1).bind λr2=>(fY u p0 r2.2.1).bind λr3=>bif !r1.2.2 then (mG u p0 r1 r2 r3 true) else (bif !r2.2.2 then (mG u p0 r1 r2 r3 true) else (mG u p0 r1 r2 r3 (!r3.2.2)))
def lM(u:Nat)(p0:List Int)(r1:Int×Int×Bool)(x2:Bool):Option ((List Int)×Int×Bool) :=
  bif x2 then (some ((([]:List Int),0,false))) else ((c9 (cE r1.2.1 (aW .i64 r1.2.1 r1.1) p0.length)).bind λ_=>(c9 (decide (((([]:List Int)).length+((p0.take (sY (aW .i64 r1.2.1 r1.1))).drop (sY r1.2.1)).length)*1<=140737488355328))).bind λ_=>some (((([]:List Int))++((p0.take (sY (aW .i64 r1.2.1 r1.1))).drop (sY r1.2.1)),aW .i64 r1.2.1 r1.1,true)))
def nu(u:Nat)(p0:List Int)(p1 p2:Int):Option ((List Int)×Int×Bool) :=
  (fY u p0 p1).bind λr1=>bif !r1.2.2 then (lM u p0 r1 true) else (bif decide (r1.1 > p2) then (lM u p0 r1 true) else (lM u p0 r1 (decide (r1.1 > (cW .i64 ((p0.length:Int)) r1.2.1)))))
def nR(u:Nat)(x20 p2:Int)(r2:Int×Int×Bool)(x21 x22:Int):Option (dY×Int×Bool) :=
  some (((dY.mk p2 r2.1 ((ah.mk 0 0 0 ([]))) x21 x22 0 ([])),x20,true))
def nS(u:Nat)(x14:Int)(x15:List Int)(p2:Int)(r2:Int×Int×Bool):Option (dY×Int×Bool) :=
  (cN x15 0).bind λy16=>(cN x15 1).bind λy17=>(cN x15 2).bind λy18=>(cN x15 3).bind λy19=>nR u x14 p2 r2 (aW .i64 y16 (gl .i64 y17 20)) (aW .i64 y18 (gl .i64 y19 20))
def jU(u:Nat)(GG:(List Int)->Int->(List Int)->Int->Int->(Int×Int×Bool)->Option (dY×Int×Bool))(p0:List Int)(x6:Int)(x7:List Int)(x8:Int)(r12:Int×Int×Bool)(x13:Bool)(p2:Int)(r2:Int×Int×Bool):Option (dY×Int×Bool) :=
  bif x13 then (some (((dY.mk p2 r2.1 ((ah.mk 0 0 0 ([]))) 0 0 0 ([])),0,false))) else ((c9 (decide ((x7.length+(([r12.1]:List Int)).length)*8<=140737488355328))).bind λ_=>GG p0 r12.2.1 (x7++(([r12.1]:List Int))) (aW .i64 x8 1) p2 r2)
def cr(u dg:Nat)(p0:List Int)(x6:Int)(x7:List Int)(x8 p2:Int)(r2:Int×Int×Bool):Option (dY×Int×Bool):=match dg with
  | 0=>none
  | dg+1=>bif decide (x8 < 4) then ((fY u p0 x6).bind λr12=>bif !r12.2.2 then (jU u (λz0 z1 z2 z3 z4 z5=>cr u dg z0 z1 z2 z3 z4 z5) p0 x6 x7 x8 r12 true p2 r2) else (jU u (λz0 z1 z2 z3 z4 z5=>cr u dg z0 z1 z2 z3 z4 z5) p0 x6 x7 x8 r12 (decide (r12.1>=1048576)) p2 r2)) else (nS u x6 x7 p2 r2)
def eo(u:Nat)(p0:List Int)(p1 p2:Int):Option (dY×Int×Bool) :=
  bif p2 == 1 then ((pd u p0 p1).bind λr1=>some (((dY.mk p2 0 r1.1 0 0 0 ([])),r1.2.1,r1.2.2))) else ((fY u p0 p1).bind λr2=>bif !r2.2.2 then (some (((dY.mk p2 r2.1 ((ah.mk 0 0 0 ([]))) 0 0 0 ([])),0,false))) else (bif p2 == 2 then (cr u u p0 r2.2.1 (([]:List Int)) 0 p2 r2) else (bif p2 == 3 then ((fY u p0 r2.2.1).bind λr13=>(nu u p0 r13.2.1 6).bind λr14=>bif r13.2.2 then (some (((dY.mk p2 r2.1 ((ah.mk 0 0 0 ([]))) 0 0 r13.1 r14.1),r14.2.1,r14.2.2))) else (some (((dY.mk p2 r2.1 ((ah.mk 0 0 0 ([]))) 0 0 r13.1 r14.1),r14.2.1,false)))) else (nR u r2.2.1 p2 r2 0 0))))
def E5(u:Nat)(p0:List Int)(p2:Int)(r2:Int×Int×Bool)(s:Int×(List Int)):Option (dY×Int×Bool):=(nS u s.1 s.2 p2 r2)
def E6(u:Nat)(p0:List Int)(p2:Int)(r2:Int×Int×Bool)(i_:Nat)(s:Int×(List Int))(k_:(Int×(List Int))->Option (dY×Int×Bool)):Option (dY×Int×Bool):=(fY u p0 s.1).bind λr12=>bif !r12.2.2 then (jU u (λz0 z1 z2 z3 z4 z5=>k_ (z1,z2)) p0 s.1 s.2 (i_:Int) r12 true p2 r2) else (jU u (λz0 z1 z2 z3 z4 z5=>k_ (z1,z2)) p0 s.1 s.2 (i_:Int) r12 (decide (r12.1>=1048576)) p2 r2)
theorem RQ(u:Nat)(p0:List Int)(p2:Int)(r2:Int×Int×Bool)(s:Int×(List Int))(k:Nat)(hn:(4:Int)<=9223372036854775807)(hk:sY (4) < k):cr u k p0 s.1 s.2 0 p2 r2=Pu.n5 (E5 u p0 p2 r2) (E6 u p0 p2 r2) (sY (4)) 0 s:=Pu.pJ (λ(k:Nat) (s:Int×(List Int)) (i:Int)=>cr u k p0 s.1 s.2 i p2 r2) hn (λ_ _ _=>rfl) s hk
def mH(u:Nat)(x9:Bool)(r3:dY×Int×Bool):Option (dY×Bool) :=
  bif x9 then (some (((dY.mk 0 0 ((ah.mk 0 0 0 ([]))) 0 0 0 ([])),false))) else (some ((r3.1,true)))
def pe(u:Nat)(p0:List Int)(r3:dY×Int×Bool)(x5:Bool):Option (dY×Bool) :=
  bif x5 then (some (((dY.mk 0 0 ((ah.mk 0 0 0 ([]))) 0 0 0 ([])),false))) else ((fY u p0 r3.2.1).bind λr6=>bif !r6.2.2 then (mH u true r3) else (bif r6.2.1 != ((p0.length:Int)) then (mH u true r3) else ((c9 (cE 0 r3.2.1 p0.length)).bind λ_=>(nd u ((p0.take (sY r3.2.1)).drop (sY 0))).bind λr8=>mH u (r6.1 != r8) r3)))
def pf(u:Nat)(p0:List Int)(r1:Int×Int×Bool)(x2:Bool):Option (dY×Bool) :=
  bif x2 then (some (((dY.mk 0 0 ((ah.mk 0 0 0 ([]))) 0 0 0 ([])),false))) else ((eo u p0 r1.2.1 r1.1).bind λr3=>bif !r3.2.2 then (pe u p0 r3 true) else ((ui u r3.1).bind λr4=>pe u p0 r3 (!r4)))
def kl(u:Nat)(p0:List Int):Option (dY×Bool) :=
  (fY u p0 0).bind λr1=>bif !r1.2.2 then (pf u p0 r1 true) else (pf u p0 r1 (decide (((p0.length:Int)) > 400)))
def pg(u:Nat)(p0 p1:List Int):Option Bool :=
  some ((strOfNums p0).toList == (strOfNums p1).toList)
def uk(u:Nat)  : Option Bool :=
  some false
def iM(u i3:Nat)(x4:Int)(p0:World)(p1:cX):Option Bool:=match i3 with
  | 0=>none
  | i3+1=>bif decide (x4 < ((p0.bx.length:Int))) then ((cN p0.bx x4).bind λy6=>(pg u y6.fB p1.fP.fB).bind λr7=>bif r7 then (some true) else ((λz0 z1 z2=>iM u i3 z0 z1 z2) (aW .i64 x4 1) p0 p1)) else (uk u)
def kE(u:Nat)(x2:Bool)(p0:World)(p1:cX):Option Bool :=
  bif x2 then (some true) else (iM u u 0 p0 p1)
def oo(u:Nat)(p0:World)(p1:cX):Option Bool :=
  bif p1.bt != 7 then (some true) else ((kl u p1.fP.fB).bind λr1=>bif !r1.2 then (kE u true p0 p1) else (bif r1.1.bt == 4 then (kE u true p0 p1) else (kE u (r1.1.bt == 3) p0 p1)))
def w8(u:Nat)(p0:World)(p1:cX)(s:Unit):Option Bool:=(uk u)
def sq(u:Nat)(p0:World)(p1:cX)(y6:ag)(i_:Nat)(s:Unit)(k_:Unit->Option Bool):Option Bool:=(pg u y6.fB p1.fP.fB).bind λr7=>bif r7 then (some true) else ((λz0 z1 z2=>k_ ()) (aW .i64 (i_:Int) 1) p0 p1)
theorem DM(u:Nat)(p0:World)(p1:cX)(s:Unit)(k:Nat)(hn:p0.bx.length<=9223372036854775807)(hk:p0.bx.length < k):iM u k 0 p0 p1=Pu.bU (w8 u p0 p1) (sq u p0 p1) p0.bx 0 s:=Pu.cK (λ(k:Nat) (s:Unit) (i:Int)=>iM u k i p0 p1) hn (λ_ _ _=>rfl) s hk
def rL(u:Nat)(x17 x18:List Int)(x19 x20:Int):Option ((List Int)×aK) :=
  some ((x17,(aK.mk x18 x19 x20)))
def gB(u jQ:Nat)(p1:Int)(x6:List Int)(x7:Int)(x8:List Int)(x9 x10:Int):Option ((List Int)×aK):=match jQ with
  | 0=>none
  | jQ+1=>bif decide (x7 < p1) then ((ki u ((aK.mk x8 x9 x10))).bind λr16=>(c9 (decide ((x6.length+(([IntKind.wrap .u8 r16.1]:List Int)).length)*1<=140737488355328))).bind λ_=>(λz0 z1 z2 z3 z4 z5=>gB u jQ z0 z1 z2 z3 z4 z5) p1 (x6++(([IntKind.wrap .u8 r16.1]:List Int))) (aW .i64 x7 1) r16.2.fB r16.2.fI r16.2.fH) else (rL u x6 x8 x9 x10)
def wE(u:Nat)(p0:aK)(p1:Int):Option ((List Int)×aK) :=
  gB u u p1 (([]:List Int)) 0 p0.fB p0.fI p0.fH
def E7(u:Nat)(p1:Int)(s:(List Int)×(List Int)×Int×Int):Option ((List Int)×aK):=(rL u s.1 s.2.1 s.2.2.1 s.2.2.2)
def E8(u:Nat)(p1:Int)(i_:Nat)(s:(List Int)×(List Int)×Int×Int)(k_:((List Int)×(List Int)×Int×Int)->Option ((List Int)×aK)):Option ((List Int)×aK):=(ki u ((aK.mk s.2.1 s.2.2.1 s.2.2.2))).bind λr16=>(c9 (decide ((s.1.length+(([IntKind.wrap .u8 r16.1]:List Int)).length)*1<=140737488355328))).bind λ_=>(λz0 z1 z2 z3 z4 z5=>k_ (z1,z3,z4,z5)) p1 (s.1++(([IntKind.wrap .u8 r16.1]:List Int))) (aW .i64 (i_:Int) 1) r16.2.fB r16.2.fI r16.2.fH
theorem RR(u:Nat)(p1:Int)(s:(List Int)×(List Int)×Int×Int)(k:Nat)(hn:(p1:Int)<=9223372036854775807)(hk:sY (p1) < k):gB u k p1 s.1 0 s.2.1 s.2.2.1 s.2.2.2=Pu.n5 (E7 u p1) (E8 u p1) (sY (p1)) 0 s:=Pu.pJ (λ(k:Nat) (s:(List Int)×(List Int)×Int×Int) (i:Int)=>gB u k p1 s.1 i s.2.1 s.2.2.1 s.2.2.2) hn (λ_ _ _=>rfl) s hk
def qc(u:Nat)(x20:List Int)(x21 x22:Int)(r1 r2:Int×aK)(x24:List Int):Option (cX×aK) :=
  some (((cX.mk 7 0 0 ((ag.mk r1.1 r2.1 x24))),(aK.mk x20 x21 x22)))
def mI(u:Nat)(r1 r2:Int×aK)(x19:List Int)(p1:World)(x20:List Int)(x21 x22:Int):Option (cX×aK) :=
  (oo u p1 ((cX.mk 7 0 0 ((ag.mk r1.1 r2.1 x19))))).bind λr23=>bif !r23 then (qc u x20 x21 x22 r1 r2 (([]:List Int))) else (qc u x20 x21 x22 r1 r2 x19)
def mJ(u:Nat)(r1 r2:Int×aK)(x13:List Int)(p1:World)(x14:List Int)(x15 x16:Int):Option (cX×aK) :=
  (oo u p1 ((cX.mk 7 0 0 ((ag.mk r1.1 r2.1 x13))))).bind λr17=>bif !r17 then ((wE u ((aK.mk x14 x15 x16)) 3).bind λr18=>mI u r1 r2 r18.1 p1 r18.2.fB r18.2.fI r18.2.fH) else (mI u r1 r2 x13 p1 x14 x15 x16)
def mK(u:Nat)(x6:Bool)(r1 r2:Int×aK)(r4:(List Int))(p1:World)(x7:List Int)(x8 x9:Int):Option (cX×aK) :=
  bif x6 then ((ba u ((aK.mk x7 x8 x9)) ((p1.bx.length:Int))).bind λr10=>(cN p1.bx r10.1).bind λy11=>(lZ u r10.2 y11.fB).bind λr12=>mJ u r1 r2 r12.1 p1 r12.2.fB r12.2.fI r12.2.fH) else (mJ u r1 r2 r4 p1 x7 x8 x9)
def qZ(u:Nat)(p0:aK)(p1:World):Option (cX×aK) :=
  (ba u p0 ((p1.fN.length:Int))).bind λr1=>(ba u r1.2 ((p1.fN.length:Int))).bind λr2=>(p8 u r2.2).bind λr3=>(ni u r3.1).bind λr4=>bif decide (((p1.bx.length:Int)) > 0) then ((iz u r3.2 2).bind λr5=>mK u r5.1 r1 r2 r4 p1 r5.2.fB r5.2.fI r5.2.fH) else (mK u false r1 r2 r4 p1 r3.2.fB r3.2.fI r3.2.fH)
def nT(u:Nat)(r1:Int×aK)(x6:Bool)(p1:World)(x7:List Int)(x8 x9:Int):Option (cX×aK) :=
  bif x6 then ((uc u ((p1.bx.length:Int)) 4).bind λr10=>(ba u ((aK.mk x7 x8 x9)) r10).bind λr11=>(ba u r11.2 12).bind λr12=>bif r12.1 == 0 then (some (((cX.mk 3 r11.1 0 ((ag.mk 0 0 ([])))),r12.2))) else (bif r12.1 == 1 then (some (((cX.mk 4 r11.1 0 ((ag.mk 0 0 ([])))),r12.2))) else (some (((cX.mk 2 r11.1 0 ((ag.mk 0 0 ([])))),r12.2))))) else (some (((cX.mk 1 r1.1 0 ((ag.mk 0 0 ([])))),(aK.mk x7 x8 x9))))
def s9(u:Nat)(p0:aK)(p1:World):Option (cX×aK) :=
  (ba u p0 ((p1.fN.length:Int))).bind λr1=>(ba u r1.2 24).bind λr2=>bif r2.1 == 0 then ((dq u r2.2 (([0,0,1,5,1099511627775,21]:List Int))).bind λr3=>some (((cX.mk 5 r1.1 r3.1 ((ag.mk 0 0 ([])))),r3.2))) else (bif r2.1 == 1 then (some (((cX.mk 6 r1.1 0 ((ag.mk 0 0 ([])))),r2.2))) else (bif r2.1 == 2 then ((qZ u r2.2 p1).bind λr4=>some ((r4.1,r4.2))) else (bif decide (((p1.bx.length:Int)) > 0) then ((iz u r2.2 3).bind λr5=>nT u r1 (!r5.1) p1 r5.2.fB r5.2.fI r5.2.fH) else (nT u r1 false p1 r2.2.fB r2.2.fI r2.2.fH))))
def w9(u:Nat)(x9:List bM):Option ((List bM)) :=
  some x9
def mL(u:Nat)(Ib:(List bM)->Int->(List bM)->Int->Option ((List bM)))(p0:List bM)(p1:Int)(x8:List bM)(x4:Int):Option ((List bM)) :=
  Ib p0 p1 x8 (aW .i64 x4 1)
def jm(u gO:Nat)(p0:List bM)(p1:Int)(x3:List bM)(x4:Int):Option ((List bM)):=match gO with
  | 0=>none
  | gO+1=>bif decide (x4 < ((p0.length:Int))) then ((cN p0 x4).bind λy7=>bif decide (y7.uO>=p1) then (mL u (λz0 z1 z2 z3=>jm u gO z0 z1 z2 z3) p0 p1 x3 x4) else ((c9 (decide ((x3.length+([(bM.mk y7.oJ y7.bQ y7.bV (aW .i64 y7.uO 1) 0)]).length)*40<=140737488355328))).bind λ_=>mL u (λz0 z1 z2 z3=>jm u gO z0 z1 z2 z3) p0 p1 (x3++([(bM.mk y7.oJ y7.bQ y7.bV (aW .i64 y7.uO 1) 0)])) x4)) else (w9 u x3)
def u9(u:Nat)(p0:List bM)(p1:Int):Option ((List bM)) :=
  jm u u p0 p1 (([]:List bM)) 0
def GR(u:Nat)(p0:List bM)(p1:Int)(s:(List bM)):Option ((List bM)):=(w9 u s)
def zx(u:Nat)(p0:List bM)(p1:Int)(y7:bM)(i_:Nat)(s:(List bM))(k_:((List bM))->Option ((List bM))):Option ((List bM)):=bif decide (y7.uO>=p1) then (mL u (λz0 z1 z2 z3=>k_ z2) p0 p1 s (i_:Int)) else ((c9 (decide ((s.length+([(bM.mk y7.oJ y7.bQ y7.bV (aW .i64 y7.uO 1) 0)]).length)*40<=140737488355328))).bind λ_=>mL u (λz0 z1 z2 z3=>k_ z2) p0 p1 (s++([(bM.mk y7.oJ y7.bQ y7.bV (aW .i64 y7.uO 1) 0)])) (i_:Int))
theorem GS(u:Nat)(p0:List bM)(p1:Int)(s:(List bM))(k:Nat)(hn:p0.length<=9223372036854775807)(hk:p0.length < k):jm u k p0 p1 s 0=Pu.bU (GR u p0 p1) (zx u p0 p1) p0 0 s:=Pu.cK (λ(k:Nat) (s:(List bM)) (i:Int)=>jm u k p0 p1 s i) hn (λ_ _ _=>rfl) s hk
def ta(u:Nat)(x11:List Int):Option ((List Int)) :=
  some x11
def pi(u:Nat)(Ie:Int->(List Int)->cT->Option ((List Int)))(x3:Int)(x4:List Int)(x8:Bool)(p0:cT):Option ((List Int)) :=
  bif x8 then ((c9 (decide ((x4.length+(([x3]:List Int)).length)*8<=140737488355328))).bind λ_=>(cN p0.cf x3).bind λy10=>Ie y10 (x4++(([x3]:List Int))) p0) else (ta u x4)
def hJ(u gQ:Nat)(x3:Int)(x4:List Int)(p0:cT):Option ((List Int)):=match gQ with
  | 0=>none
  | gQ+1=>(bN u x3 0 (cW .i64 ((p0.cf.length:Int)) 1)).bind λr7=>bif r7 then (pi u (λz0 z1 z2=>hJ u gQ z0 z1 z2) x3 x4 (decide (((x4.length:Int)) < ((p0.cf.length:Int)))) p0) else (pi u (λz0 z1 z2=>hJ u gQ z0 z1 z2) x3 x4 false p0)
def vd(u:Nat)(p0:cT)(p1:Int):Option ((List Int)) :=
  hJ u u p1 (([]:List Int)) p0
def xb(u:Nat)  : Option Bool :=
  some false
def mM(u kX:Nat)(p0:List Int)(p1 x2:Int):Option Bool:=match kX with
  | 0=>none
  | kX+1=>bif decide (x2 < ((p0.length:Int))) then ((cN p0 x2).bind λy4=>bif y4 == p1 then (some true) else ((λz0 z1 z2=>mM u kX z0 z1 z2) p0 p1 (aW .i64 x2 1))) else (xb u)
def ve(u:Nat)(p0:List Int)(p1:Int):Option Bool :=
  mM u u p0 p1 0
def zy(u:Nat)(p0:List Int)(p1:Int)(s:Unit):Option Bool:=(xb u)
def ul(u:Nat)(p0:List Int)(p1 y4:Int)(i_:Nat)(s:Unit)(k_:Unit->Option Bool):Option Bool:=bif y4 == p1 then (some true) else ((λz0 z1 z2=>k_ ()) p0 p1 (aW .i64 (i_:Int) 1))
theorem GT(u:Nat)(p0:List Int)(p1:Int)(s:Unit)(k:Nat)(hn:p0.length<=9223372036854775807)(hk:p0.length < k):mM u k p0 p1 0=Pu.bU (zy u p0 p1) (ul u p0 p1) p0 0 s:=Pu.cK (λ(k:Nat) (s:Unit) (i:Int)=>mM u k p0 p1 i) hn (λ_ _ _=>rfl) s hk
def q5(u:Nat)(p0:cT)(p1 p2:Int):Option Bool :=
  bif p1 != p2 then ((vd u p0 p2).bind λr1=>(ve u r1 p1).bind λr2=>some r2) else (some false)
def qd(u:Nat)(p1 p2:Int)(x5:Bool)(p0:cT):Option Int :=
  bif x5 then ((cN p0.cf p1).bind λy6=>some y6) else ((cN p0.cf p2).bind λy7=>some y7)
def qe(u:Nat)(p1 p2:Int)(x3:Bool)(p0:cT):Option Int :=
  bif x3 then (some (-1)) else (bif decide (p2<=0) then (qd u p1 p2 true p0) else ((q5 u p0 p2 p1).bind λr4=>qd u p1 p2 (!r4) p0))
def q6(u:Nat)(p0:cT)(p1 p2:Int):Option Int :=
  (o8 u p0).bind λr1=>bif !r1 then (qe u p1 p2 true p0) else ((bN u p1 1 (cW .i64 ((p0.cf.length:Int)) 1)).bind λr2=>qe u p1 p2 (!r2) p0)
def qf(u:Nat)(p0:Int):Option Int :=
  (bN u p0 0 40).bind λr1=>bif !r1 then (some 0) else ((c9 (decide (0<=p0))).bind λ_=>some (cW .i64 (gl .i64 1 p0) 1))
def oq(u:Nat)(p0:ah):Option Int :=
  (qf u ((p0.aJ.length:Int))).bind λr1=>some r1
def rM(u:Nat)(p0 p1:Int)(x3:Bool):Option Int :=
  bif x3 then (some 0) else (some (J9 .i64 p0 p1))
def qg(u:Nat)(p0 p1:Int):Option Int :=
  (d7 u p0).bind λr1=>bif !r1 then (rM u p0 p1 true) else ((d7 u p1).bind λr2=>rM u p0 p1 (!r2))
def xd(u:Nat)  : Option Bool :=
  some true
def mN(u kZ:Nat)(p0:List Int)(x2:Int):Option Bool:=match kZ with
  | 0=>none
  | kZ+1=>bif decide (x2 < ((p0.length:Int))) then ((cN p0 x2).bind λy4=>bif y4 != 0 then (some false) else ((λz0 z1=>mN u kZ z0 z1) p0 (aW .i64 x2 1))) else (xd u)
def nj(u:Nat)(p0:List Int):Option Bool :=
  mN u u p0 0
def GU(u:Nat)(p0:List Int)(s:Unit):Option Bool:=(xd u)
def zA(u:Nat)(p0:List Int)(y4:Int)(i_:Nat)(s:Unit)(k_:Unit->Option Bool):Option Bool:=bif y4 != 0 then (some false) else ((λz0 z1=>k_ ()) p0 (aW .i64 (i_:Int) 1))
theorem GV(u:Nat)(p0:List Int)(s:Unit)(k:Nat)(hn:p0.length<=9223372036854775807)(hk:p0.length < k):mN u k p0 0=Pu.bU (GU u p0) (zA u p0) p0 0 s:=Pu.cK (λ(k:Nat) (s:Unit) (i:Int)=>mN u k p0 i) hn (λ_ _ _=>rfl) s hk
def vL(u:Nat)  : Option Bool :=
  some true
def dZ(u:Nat)(GD:Int->ah->bI->Option Bool)(x7:Int)(x18:Bool)(p0:ah)(p1:bI):Option Bool :=
  bif x18 then (some false) else (GD (aW .i64 x7 1) p0 p1)
def ew(u dG:Nat)(x7:Int)(p0:ah)(p1:bI):Option Bool:=match dG with
  | 0=>none
  | dG+1=>bif decide (x7 < ((p0.aJ.length:Int))) then ((fh u p0.aC p0.aY x7).bind λr9=>(c9 (cE r9.1 (aW .i64 r9.1 r9.2) p1.bZ.length)).bind λ_=>(em u p1.bq x7).bind λr11=>bif r11 then ((gJ u ((p1.bZ.take (sY (aW .i64 r9.1 r9.2))).drop (sY r9.1))).bind λr12=>(cN p0.aJ x7).bind λy13=>bif !([r12.fW,r12.fS] == [y13.fW,y13.fS]) then (dZ u (λz0 z1 z2=>ew u dG z0 z1 z2) x7 true p0 p1) else ((em u p1.bq x7).bind λr14=>bif !r14 then ((nj u ((p1.bZ.take (sY (aW .i64 r9.1 r9.2))).drop (sY r9.1))).bind λr15=>dZ u (λz0 z1 z2=>ew u dG z0 z1 z2) x7 (!r15) p0 p1) else (dZ u (λz0 z1 z2=>ew u dG z0 z1 z2) x7 false p0 p1))) else ((em u p1.bq x7).bind λr16=>bif !r16 then ((nj u ((p1.bZ.take (sY (aW .i64 r9.1 r9.2))).drop (sY r9.1))).bind λr17=>dZ u (λz0 z1 z2=>ew u dG z0 z1 z2) x7 (!r17) p0 p1) else (dZ u (λz0 z1 z2=>ew u dG z0 z1 z2) x7 false p0 p1))) else (vL u)
def lN(u:Nat)(x5:Bool)(p0:ah)(p1:bI):Option Bool :=
  bif x5 then (some false) else (ew u u 0 p0 p1)
def nv(u:Nat)(p0:ah)(p1:bI):Option Bool :=
  (g8 u p0).bind λr1=>bif !r1 then (lN u true p0 p1) else ((d7 u p1.bq).bind λr2=>bif !r2 then (lN u true p0 p1) else ((oq u p0).bind λr3=>(qg u p1.bq r3).bind λr4=>bif r4 != 0 then (lN u true p0 p1) else (lN u (((p1.bZ.length:Int)) != p0.aY) p0 p1)))
def E9(u:Nat)(p0:ah)(p1:bI)(s:Unit):Option Bool:=(vL u)
def ym(u:Nat)(p0:ah)(p1:bI)(i_:Nat)(s:Unit)(k_:Unit->Option Bool):Option Bool:=(fh u p0.aC p0.aY (i_:Int)).bind λr9=>(c9 (cE r9.1 (aW .i64 r9.1 r9.2) p1.bZ.length)).bind λ_=>(em u p1.bq (i_:Int)).bind λr11=>bif r11 then ((gJ u ((p1.bZ.take (sY (aW .i64 r9.1 r9.2))).drop (sY r9.1))).bind λr12=>(cN p0.aJ (i_:Int)).bind λy13=>bif !([r12.fW,r12.fS] == [y13.fW,y13.fS]) then (dZ u (λz0 z1 z2=>k_ ()) (i_:Int) true p0 p1) else ((em u p1.bq (i_:Int)).bind λr14=>bif !r14 then ((nj u ((p1.bZ.take (sY (aW .i64 r9.1 r9.2))).drop (sY r9.1))).bind λr15=>dZ u (λz0 z1 z2=>k_ ()) (i_:Int) (!r15) p0 p1) else (dZ u (λz0 z1 z2=>k_ ()) (i_:Int) false p0 p1))) else ((em u p1.bq (i_:Int)).bind λr16=>bif !r16 then ((nj u ((p1.bZ.take (sY (aW .i64 r9.1 r9.2))).drop (sY r9.1))).bind λr17=>dZ u (λz0 z1 z2=>k_ ()) (i_:Int) (!r17) p0 p1) else (dZ u (λz0 z1 z2=>k_ ()) (i_:Int) false p0 p1))
theorem Fa(u:Nat)(p0:ah)(p1:bI)(s:Unit)(k:Nat)(hn:(((p0.aJ.length:Int)):Int)<=9223372036854775807)(hk:sY (((p0.aJ.length:Int))) < k):ew u k 0 p0 p1=Pu.n5 (E9 u p0 p1) (ym u p0 p1) (sY (((p0.aJ.length:Int)))) 0 s:=Pu.pJ (λ(k:Nat) (s:Unit) (i:Int)=>ew u k i p0 p1) hn (λ_ _ _=>rfl) s hk
def qh(u:Nat)(p0:ah)(p1:bI):Option Int :=
  (oq u p0).bind λr1=>(qg u r1 p1.bq).bind λr2=>some r2
def xe(u:Nat)(p0:ah)(p1:bI):Option Bool :=
  bif p0.aO != 0 then ((nv u p0 p1).bind λr1=>bif r1 then ((qh u p0 p1).bind λr2=>some (r2 == 0)) else (some false)) else (some false)
def ot(u:Nat)(p0:dp):Option Bool :=
  (bN u p0.aO 0 1000000).bind λr1=>bif r1 then ((bN u p0.b7 0 1).bind λr2=>bif r2 then ((bN u p0.aY 0 240).bind λr3=>some r3) else (some false)) else (some false)
def sG(u:Nat)(p0:aB)(p1:Int):Option ((List Int)) :=
  bif p1 == 1 then (some p0.fB) else (some p0.fA)
def su(u:Nat)(p0:dd):Option Bool :=
  bif p0.lx == 2 then (bif p0.Bn == 0 then (bif ((p0.fB.length:Int)) == 0 then ((ot u p0.fR).bind λr1=>some r1) else (some false)) else (some false)) else ((bN u p0.lx 0 1).bind λr2=>bif r2 then ((bN u p0.Bn 0 240).bind λr3=>bif r3 then (bif decide (((p0.fB.length:Int))<=(cW .i64 240 p0.Bn)) then (some ([p0.fR.aO,p0.fR.b7,p0.fR.aY] == [0,0,0])) else (some false)) else (some false)) else (some false))
def xg(u:Nat)  : Option Bool :=
  some true
def k9(u kS:Nat)(x5:Int)(p0:aB):Option Bool:=match kS with
  | 0=>none
  | kS+1=>bif decide (x5 < ((p0.fP.length:Int))) then ((cN p0.fP x5).bind λy7=>(su u y7).bind λr8=>bif !r8 then (some false) else ((λz0 z1=>k9 u kS z0 z1) (aW .i64 x5 1) p0)) else (xg u)
def la(u:Nat)(x3:Bool)(p0:aB):Option Bool :=
  bif x3 then (some false) else (k9 u u 0 p0)
def km(u:Nat)(p0:aB):Option Bool :=
  bif decide (((p0.fA.length:Int)) > 240) then (la u true p0) else (bif decide (((p0.fB.length:Int)) > 240) then (la u true p0) else ((ot u p0.fR).bind λr1=>bif !r1 then (la u true p0) else ((sG u p0 p0.fR.b7).bind λr2=>bif decide (p0.fR.aY > ((r2.length:Int))) then (la u true p0) else (la u (decide (((p0.fP.length:Int)) > 200)) p0))))
def zB(u:Nat)(p0:aB)(s:Unit):Option Bool:=(xg u)
def um(u:Nat)(p0:aB)(y7:dd)(i_:Nat)(s:Unit)(k_:Unit->Option Bool):Option Bool:=(su u y7).bind λr8=>bif !r8 then (some false) else ((λz0 z1=>k_ ()) (aW .i64 (i_:Int) 1) p0)
theorem GW(u:Nat)(p0:aB)(s:Unit)(k:Nat)(hn:p0.fP.length<=9223372036854775807)(hk:p0.fP.length < k):k9 u k 0 p0=Pu.bU (zB u p0) (um u p0) p0.fP 0 s:=Pu.cK (λ(k:Nat) (s:Unit) (i:Int)=>k9 u k i p0) hn (λ_ _ _=>rfl) s hk
def xh(u:Nat)(p0:aB):Option Int :=
  some (cW .i64 1 p0.fR.b7)
def nw(u:Nat)(p0:aB)(p1:dd):Option (aB×Bool) :=
  (dS u p0).bind λr1=>(gn u p1).bind λr2=>(c9 (decide ((r1.fP.length+([r2]).length)*64<=140737488355328))).bind λ_=>(km u ((aB.mk r1.fA r1.fB r1.fR (r1.fP++([r2]))))).bind λr4=>bif !r4 then ((dS u p0).bind λr5=>some ((r5,false))) else (some (((aB.mk r1.fA r1.fB r1.fR (r1.fP++([r2]))),true)))
def q7(u:Nat)(p0:aB)(p1 p2:Int)(p3:List Int):Option (aB×Bool) :=
  (bN u p1 0 1).bind λr1=>bif !r1 then ((dS u p0).bind λr2=>some ((r2,false))) else ((nw u p0 ((dd.mk p1 p2 p3 ((dp.mk 0 0 0))))).bind λr3=>some ((r3.1,r3.2)))
def zC(u:Nat)(x32 x33:List Int)(x34 x35 x36:Int)(x37:List dd):Option (aB×Bool) :=
  some (((aB.mk x32 x33 ((dp.mk x34 x35 x36)) x37),true))
def iN(u i4:Nat)(p1:List Int)(p2 x12:Int)(x13 x14:List Int)(x15 x16 x17:Int)(x18:List dd)(p0:aB):Option (aB×Bool):=match i4 with
  | 0=>none
  | i4+1=>(mb u p2 ((p1.length:Int))).bind λr26=>bif decide (x12 < r26) then ((fh u p2 ((p1.length:Int)) x12).bind λr27=>(kc u p1 p2 x12).bind λr28=>(xh u p0).bind λr29=>(q7 u ((aB.mk x13 x14 ((dp.mk x15 x16 x17)) x18)) r29 r27.1 r28.1).bind λr30=>bif !r30.2 then ((dS u p0).bind λr31=>some ((r31,false))) else ((λz0 z1 z2 z3 z4 z5 z6 z7 z8 z9=>iN u i4 z0 z1 z2 z3 z4 z5 z6 z7 z8 z9) p1 p2 (aW .i64 x12 1) r30.1.fA r30.1.fB r30.1.fR.aO r30.1.fR.b7 r30.1.fR.aY r30.1.fP p0)) else (zC u x13 x14 x15 x16 x17 x18)
def mO(u:Nat)(p1:List Int)(p2:Int)(x4:Bool)(r1 p0:aB):Option (aB×Bool) :=
  bif x4 then (some ((r1,false))) else (iN u u p1 p2 0 r1.fA r1.fB r1.fR.aO r1.fR.b7 r1.fR.aY r1.fP p0)
def q8(u:Nat)(p0:aB)(p1:List Int)(p2:Int):Option (aB×Bool) :=
  (dS u p0).bind λr1=>(km u p0).bind λr2=>bif !r2 then (mO u p1 p2 true r1 p0) else (bif decide (((p0.fP.length:Int)) > 0) then (mO u p1 p2 true r1 p0) else ((ma u p2 ((p1.length:Int))).bind λr3=>mO u p1 p2 (!r3) r1 p0))
def q9(u:Nat)(x14:List Int):Option ((List Int)) :=
  some x14
def kn(u gG:Nat)(p1:Int)(p2 x8:List Int)(x9:Int):Option ((List Int)):=match gG with
  | 0=>none
  | gG+1=>bif decide (x9 < ((p2.length:Int))) then ((cN p2 x9).bind λy12=>(cN x8 (aW .i64 p1 x9)).bind λy13=>(λz0 z1 z2 z3=>kn u gG z0 z1 z2 z3) p1 p2 (x8.set (sY (aW .i64 p1 x9)) y12) (aW .i64 x9 1)) else (q9 u x8)
def ra(u:Nat)(p1:Int)(p2 x5:List Int):Option ((List Int)) :=
  kn u u p1 p2 x5 0
def mp(u gH:Nat)(p1:Int)(p2 x3:List Int):Option ((List Int)):=match gH with
  | 0=>none
  | gH+1=>bif decide (((x3.length:Int)) < (aW .i64 p1 ((p2.length:Int)))) then ((c9 (decide ((x3.length+(([0]:List Int)).length)*1<=140737488355328))).bind λ_=>(λz0 z1 z2=>mp u gH z0 z1 z2) p1 p2 (x3++(([0]:List Int)))) else (ra u p1 p2 x3)
def pj(u:Nat)(p0:List Int)(p1:Int)(p2:List Int):Option ((List Int)) :=
  (c9 (decide (((([]:List Int)).length+p0.length)*1<=140737488355328))).bind λ_=>mp u u p1 p2 ((([]:List Int))++p0)
def vM(u:Nat)(p1:Int)(p2:List Int)(s:(List Int)):Option ((List Int)):=(q9 u s)
def vN(u:Nat)(p1:Int)(p2:List Int)(y12:Int)(i_:Nat)(s:(List Int))(k_:((List Int))->Option ((List Int))):Option ((List Int)):=(cN s (aW .i64 p1 (i_:Int))).bind λy13=>(λz0 z1 z2 z3=>k_ z2) p1 p2 (s.set (sY (aW .i64 p1 (i_:Int))) y12) (aW .i64 (i_:Int) 1)
theorem IM(u:Nat)(p1:Int)(p2:List Int)(s:(List Int))(k:Nat)(hn:p2.length<=9223372036854775807)(hk:p2.length < k):kn u k p1 p2 s 0=Pu.bU (vM u p1 p2) (vN u p1 p2) p2 0 s:=Pu.cK (λ(k:Nat) (s:(List Int)) (i:Int)=>kn u k p1 p2 s i) hn (λ_ _ _=>rfl) s hk
def mP(u:Nat)(x5 x6:List Int)(x7 x8 x9:Int)(r1:aB):Option aB :=
  some ((aB.mk x5 x6 ((dp.mk x7 x8 x9)) r1.fP))
def jn(u:Nat)(p0:aB)(p1:dd):Option aB :=
  (dS u p0).bind λr1=>(su u p1).bind λr2=>bif !r2 then (mP u r1.fA r1.fB r1.fR.aO r1.fR.b7 r1.fR.aY r1) else (bif p1.lx == 0 then ((pj u p0.fA p1.Bn p1.fB).bind λr3=>mP u r3 r1.fB r1.fR.aO r1.fR.b7 r1.fR.aY r1) else (bif p1.lx == 1 then ((pj u p0.fB p1.Bn p1.fB).bind λr4=>mP u r1.fA r4 r1.fR.aO r1.fR.b7 r1.fR.aY r1) else (mP u r1.fA r1.fB p1.fR.aO p1.fR.b7 p1.fR.aY r1)))
def wF(u:Nat)(x26 x27:List Int)(x28 x29 x30:Int)(x31:List dd):Option aB :=
  some ((aB.mk x26 x27 ((dp.mk x28 x29 x30)) (([]:List dd))))
def mg(u ig:Nat)(x10:Int)(p0:aB)(x11 x12:List Int)(x13 x14 x15:Int)(x16:List dd):Option aB:=match ig with
  | 0=>none
  | ig+1=>bif decide (x10 < ((p0.fP.length:Int))) then ((cN p0.fP x10).bind λy24=>(jn u ((aB.mk x11 x12 ((dp.mk x13 x14 x15)) x16)) y24).bind λr25=>(λz0 z1 z2 z3 z4 z5 z6 z7=>mg u ig z0 z1 z2 z3 z4 z5 z6 z7) (aW .i64 x10 1) p0 r25.fA r25.fB r25.fR.aO r25.fR.b7 r25.fR.aY r25.fP) else (wF u x11 x12 x13 x14 x15 x16)
def qi(u:Nat)(p0:aB):Option aB :=
  (dS u p0).bind λr1=>(km u p0).bind λr2=>bif !r2 then (some r1) else (mg u u 0 p0 r1.fA r1.fB r1.fR.aO r1.fR.b7 r1.fR.aY r1.fP)
def xi(u:Nat)(p0:aB)(s:(List Int)×(List Int)×Int×Int×Int×(List dd)):Option aB:=(wF u s.1 s.2.1 s.2.2.1 s.2.2.2.1 s.2.2.2.2.1 s.2.2.2.2.2)
def xj(u:Nat)(p0:aB)(y24:dd)(i_:Nat)(s:(List Int)×(List Int)×Int×Int×Int×(List dd))(k_:((List Int)×(List Int)×Int×Int×Int×(List dd))->Option aB):Option aB:=(jn u ((aB.mk s.1 s.2.1 ((dp.mk s.2.2.1 s.2.2.2.1 s.2.2.2.2.1)) s.2.2.2.2.2)) y24).bind λr25=>(λz0 z1 z2 z3 z4 z5 z6 z7=>k_ (z2,z3,z4,z5,z6,z7)) (aW .i64 (i_:Int) 1) p0 r25.fA r25.fB r25.fR.aO r25.fR.b7 r25.fR.aY r25.fP
theorem Ki(u:Nat)(p0:aB)(s:(List Int)×(List Int)×Int×Int×Int×(List dd))(k:Nat)(hn:p0.fP.length<=9223372036854775807)(hk:p0.fP.length < k):mg u k 0 p0 s.1 s.2.1 s.2.2.1 s.2.2.2.1 s.2.2.2.2.1 s.2.2.2.2.2=Pu.bU (xi u p0) (xj u p0) p0.fP 0 s:=Pu.cK (λ(k:Nat) (s:(List Int)×(List Int)×Int×Int×Int×(List dd)) (i:Int)=>mg u k i p0 s.1 s.2.1 s.2.2.1 s.2.2.2.1 s.2.2.2.2.1 s.2.2.2.2.2) hn (λ_ _ _=>rfl) s hk
def pk(u:Nat)(p0:aB)(p1:dp):Option (aB×Bool) :=
  (nw u p0 ((dd.mk 2 0 ([]) p1))).bind λr1=>some ((r1.1,r1.2))
def iO(u:Nat)(p3:Int)(p0:aB):Option (aB×Int) :=
  (dS u p0).bind λr7=>some ((r7,p3))
def nU(u:Nat)(p0:aB)(p1:ah)(p2:bI)(p3:Int):Option (aB×Int) :=
  bif p3 == 1 then ((xe u p1 p2).bind λr1=>bif r1 then ((q8 u p0 p2.bZ p1.aC).bind λr2=>bif r2.2 then (some ((r2.1,2))) else (iO u p3 p0)) else (iO u p3 p0)) else (bif p3 == 2 then ((qi u p0).bind λr3=>some ((r3,3))) else (bif p3 == 3 then ((xh u p0).bind λr4=>(pk u p0 ((dp.mk p1.aO r4 p1.aY))).bind λr5=>bif r5.2 then (some ((r5.1,4))) else (iO u p3 p0)) else (bif p3 == 4 then ((qi u p0).bind λr6=>some ((r6,5))) else (iO u p3 p0))))
def vg(u:Nat)(p0:aH):Option Int :=
  bif p0.bp == 0 then (some 0) else ((qh u p0.aD p0.bD).bind λr1=>some r1)
def rN(u:Nat)(x14:Int):Option Int :=
  some x14
def rO(u:Nat)(o3:Int->Int->Int->Int->Option Int)(p0 x12:Int)(x13 x6:Int):Option Int :=
  o3 p0 x12 x13 (aW .i64 x6 1)
def nV(u:Nat)(o3:Int->Int->Int->Int->Option Int)(p0 x4:Int)(x5 x6:Int)(x10:Bool):Option Int :=
  bif x10 then ((em u p0 x6).bind λr11=>bif r11 then ((c9 (decide (0<=x6))).bind λ_=>rO u o3 p0 (cW .i64 x4 1) (qP .i64 x5 (gl .i64 1 x6)) x6) else (rO u o3 p0 x4 x5 x6)) else (rN u x5)
def fv(u eU:Nat)(p0 x4:Int)(x5 x6:Int):Option Int:=match eU with
  | 0=>none
  | eU+1=>bif decide (x6 < 40) then (nV u (λz0 z1 z2 z3=>fv u eU z0 z1 z2 z3) p0 x4 x5 x6 (decide (x4 > 0))) else (nV u (λz0 z1 z2 z3=>fv u eU z0 z1 z2 z3) p0 x4 x5 x6 false)
def tc(u:Nat)(p0 p1:Int):Option Int :=
  fv u u p0 p1 0 0
def vh(u:Nat)(p0:aH)(p1:Int):Option Int :=
  (vg u p0).bind λr1=>(tc u r1 p1).bind λr2=>some r2
def xk(u:Nat)(x11:Int):Option Int :=
  some x11
def mQ(u:Nat)(Ic:(List bM)->Int->Int->Option Int)(p0:List bM)(x10 x4:Int):Option Int :=
  Ic p0 x10 (aW .i64 x4 1)
def jo(u gP:Nat)(p0:List bM)(x3 x4:Int):Option Int:=match gP with
  | 0=>none
  | gP+1=>bif decide (x4 < ((p0.length:Int))) then ((cN p0 x4).bind λy7=>(d7 u y7.bV).bind λr8=>bif r8 then ((cN p0 x4).bind λy9=>mQ u (λz0 z1 z2=>jo u gP z0 z1 z2) p0 (qP .i64 x3 y9.bV) x4) else (mQ u (λz0 z1 z2=>jo u gP z0 z1 z2) p0 x3 x4)) else (xk u x3)
def vj(u:Nat)(p0:List bM):Option Int :=
  jo u u p0 0 0
def zD(u:Nat)(p0:List bM)(s:Int):Option Int:=(xk u s)
def un(u:Nat)(p0:List bM)(y7:bM)(i_:Nat)(s:Int)(k_:Int->Option Int):Option Int:=(d7 u y7.bV).bind λr8=>bif r8 then ((cN p0 (i_:Int)).bind λy9=>mQ u (λz0 z1 z2=>k_ z1) p0 (qP .i64 s y9.bV) (i_:Int)) else (mQ u (λz0 z1 z2=>k_ z1) p0 s (i_:Int))
theorem GX(u:Nat)(p0:List bM)(s:Int)(k:Nat)(hn:p0.length<=9223372036854775807)(hk:p0.length < k):jo u k p0 s 0=Pu.bU (zD u p0) (un u p0) p0 0 s:=Pu.cK (λ(k:Nat) (s i:Int)=>jo u k p0 s i) hn (λ_ _ _=>rfl) s hk
def rP(u:Nat)(x3:Int):Option Int :=
  some x3
def td(u:Nat)(p0:aH)(p1:Int):Option Int :=
  (vj u p0.bj).bind λr1=>bif p0.bp == 5 then ((gX u r1 p1).bind λr2=>rP u r2) else (rP u r1)
def ed(u:Nat)(p0 p1:Int)(p2:dY):Option ag :=
  (ni u p2).bind λr1=>some ((ag.mk p0 p1 r1))
def te(u:Nat)(p2:Int)(p1:iE)(p4:aB)(r1:aH)(x5 x6:Int)(r3:(List bM))(r2:aB):Option GI :=
  (nU u p4 r1.aD r1.bD r1.bp).bind λr7=>(vh u ((aH.mk r1.gW x5 x6 r1.aD r1.bD r7.2 r3 r1.bB)) p1.aZ).bind λr8=>(td u ((aH.mk r1.gW x5 x6 r1.aD r1.bD r7.2 r3 r1.bB)) p2).bind λr9=>(s5 u r1.aD.aO r8 r9).bind λr10=>(ed u p2 x5 r10).bind λr11=>(c9 (decide (((([]:List ag)).length+([r11]).length)*40<=140737488355328))).bind λ_=>some ((GI.mk ((aH.mk r1.gW x5 x6 r1.aD r1.bD r7.2 r3 r1.bB)) r7.1 ((([]:List ag))++([r11]))))
def zE(u:Nat)(p0:cT)(p1:iE)(p2:Int)(p3:aH)(p4:aB):Option GI :=
  (dj u p3).bind λr1=>(dS u p4).bind λr2=>bif !p3.gW then (some ((GI.mk r1 r2 (([]:List ag))))) else ((u9 u p3.bj p1.aX).bind λr3=>bif p2 == 0 then (some ((GI.mk ((aH.mk r1.gW r1.bP r1.bJ r1.aD r1.bD r1.bp r3 r1.bB)) r2 (([]:List ag))))) else (bif decide (r1.bJ>=p1.aQ) then ((q6 u p0 p2 p3.bP).bind λr4=>te u p2 p1 p4 r1 r4 0 r3 r2) else (te u p2 p1 p4 r1 r1.bP (aW .i64 r1.bJ 1) r3 r2)))
def fw(u:Nat)(o5:(List ag)->Int->World->(List ag)->(List bR)->Int->Option World)(p1:List ag)(x5:Int)(p0:World)(x23:List ag)(x24:List bR)(x25:Int):Option World :=
  o5 p1 (aW .i64 x5 1) p0 x23 x24 x25
def ey(u:Nat)(o5:(List ag)->Int->World->(List ag)->(List bR)->Int->Option World)(p1:List ag)(x5:Int)(x20:Bool)(p0:World)(x6:List ag)(y13 y14 y15:ag)(x7:List bR)(x8:Int)(r19:dY×Bool):Option World :=
  bif x20 then ((cN p1 x5).bind λy21=>(cN p1 x5).bind λy22=>(c9 (decide ((x7.length+([(bR.mk y21.cB y22.pW r19.1.fI)]).length)*24<=140737488355328))).bind λ_=>fw u o5 p1 x5 p0 (x6++([(ag.mk y13.cB y14.pW ((([]:List Int))++y15.fB))])) (x7++([(bR.mk y21.cB y22.pW r19.1.fI)])) x8) else (fw u o5 p1 x5 p0 (x6++([(ag.mk y13.cB y14.pW ((([]:List Int))++y15.fB))])) x7 x8)
def b8(u cz:Nat)(p1:List ag)(x5:Int)(p0:World)(x6:List ag)(x7:List bR)(x8:Int):Option World:=match cz with
  | 0=>none
  | cz+1=>bif decide (x5 < ((p1.length:Int))) then (bif decide (((x6.length:Int))>=400) then (fw u (λz0 z1 z2 z3 z4 z5=>b8 u cz z0 z1 z2 z3 z4 z5) p1 x5 p0 x6 x7 (aW .i64 x8 1)) else ((cN p1 x5).bind λy13=>(cN p1 x5).bind λy14=>(cN p1 x5).bind λy15=>(c9 (decide (((([]:List Int)).length+y15.fB.length)*1<=140737488355328))).bind λ_=>(c9 (decide ((x6.length+([(ag.mk y13.cB y14.pW ((([]:List Int))++y15.fB))]).length)*40<=140737488355328))).bind λ_=>(cN p1 x5).bind λy18=>(kl u y18.fB).bind λr19=>bif r19.2 then (bif r19.1.bt == 3 then (ey u (λz0 z1 z2 z3 z4 z5=>b8 u cz z0 z1 z2 z3 z4 z5) p1 x5 (decide (((x7.length:Int)) < 3000)) p0 x6 y13 y14 y15 x7 x8 r19) else (ey u (λz0 z1 z2 z3 z4 z5=>b8 u cz z0 z1 z2 z3 z4 z5) p1 x5 false p0 x6 y13 y14 y15 x7 x8 r19)) else (ey u (λz0 z1 z2 z3 z4 z5=>b8 u cz z0 z1 z2 z3 z4 z5) p1 x5 false p0 x6 y13 y14 y15 x7 x8 r19))) else (some ((World.mk p0.fC p0.fT p0.ce p0.bX p0.fN p0.fD x6 x7 x8)))
def kd(u:Nat)(p0:World)(p1:List ag):Option World :=
  b8 u u p1 0 p0 p0.bx p0.cu p0.bn
def Fb(u:Nat)(p1:List ag)(p0:World)(s:(List ag)×(List bR)×Int):Option World:=(some ((World.mk p0.fC p0.fT p0.ce p0.bX p0.fN p0.fD s.1 s.2.1 s.2.2)))
def Fc(u:Nat)(p1:List ag)(p0:World)(i_:Nat)(s:(List ag)×(List bR)×Int)(k_:((List ag)×(List bR)×Int)->Option World):Option World:=bif decide (((s.1.length:Int))>=400) then (fw u (λz0 z1 z2 z3 z4 z5=>k_ (z3,z4,z5)) p1 (i_:Int) p0 s.1 s.2.1 (aW .i64 s.2.2 1)) else ((cN p1 (i_:Int)).bind λy13=>(cN p1 (i_:Int)).bind λy14=>(cN p1 (i_:Int)).bind λy15=>(c9 (decide (((([]:List Int)).length+y15.fB.length)*1<=140737488355328))).bind λ_=>(c9 (decide ((s.1.length+([(ag.mk y13.cB y14.pW ((([]:List Int))++y15.fB))]).length)*40<=140737488355328))).bind λ_=>(cN p1 (i_:Int)).bind λy18=>(kl u y18.fB).bind λr19=>bif r19.2 then (bif r19.1.bt == 3 then (ey u (λz0 z1 z2 z3 z4 z5=>k_ (z3,z4,z5)) p1 (i_:Int) (decide (((s.2.1.length:Int)) < 3000)) p0 s.1 y13 y14 y15 s.2.1 s.2.2 r19) else (ey u (λz0 z1 z2 z3 z4 z5=>k_ (z3,z4,z5)) p1 (i_:Int) false p0 s.1 y13 y14 y15 s.2.1 s.2.2 r19)) else (ey u (λz0 z1 z2 z3 z4 z5=>k_ (z3,z4,z5)) p1 (i_:Int) false p0 s.1 y13 y14 y15 s.2.1 s.2.2 r19))
theorem RS(u:Nat)(p1:List ag)(p0:World)(s:(List ag)×(List bR)×Int)(k:Nat)(hn:(((p1.length:Int)):Int)<=9223372036854775807)(hk:sY (((p1.length:Int))) < k):b8 u k p1 0 p0 s.1 s.2.1 s.2.2=Pu.n5 (Fb u p1 p0) (Fc u p1 p0) (sY (((p1.length:Int)))) 0 s:=Pu.pJ (λ(k:Nat) (s:(List ag)×(List bR)×Int) (i:Int)=>b8 u k p1 i p0 s.1 s.2.1 s.2.2) hn (λ_ _ _=>rfl) s hk
def nx(u:Nat)(p0:World)(p1:Int):Option World :=
  (cN p0.fN p1).bind λy1=>(cN p0.fD p1).bind λy2=>(zE u p0.fT p0.fC p1 y1 y2).bind λr3=>(cN p0.fN p1).bind λy4=>(cN p0.fD p1).bind λy5=>(kd u ((World.mk p0.fC p0.fT p0.ce p0.bX (p0.fN.set (sY p1) r3.fN) (p0.fD.set (sY p1) r3.fD) p0.bx p0.cu p0.bn)) r3.nc).bind λr6=>some r6
def ke(u:Nat)(p0:aH):Option aH :=
  (dj u p0).bind λr1=>some ((aH.mk r1.gW r1.bP r1.bJ r1.aD r1.bD r1.bp r1.bj (aW .i64 r1.bB 1)))
def yX(u:Nat)  : Option Int :=
  some (-1)
def ou(u lV:Nat)(p0:List bM)(p1 x2:Int):Option Int:=match lV with
  | 0=>none
  | lV+1=>bif decide (x2 < ((p0.length:Int))) then ((cN p0 x2).bind λy4=>bif y4.oJ == p1 then (some x2) else ((λz0 z1 z2=>ou u lV z0 z1 z2) p0 p1 (aW .i64 x2 1))) else (yX u)
def sv(u:Nat)(p0:List bM)(p1:Int):Option Int :=
  ou u u p0 p1 0
def IN(u:Nat)(p0:List bM)(p1:Int)(s:Unit):Option Int:=(yX u)
def IP(u:Nat)(p0:List bM)(p1:Int)(y4:bM)(i_:Nat)(s:Unit)(k_:Unit->Option Int):Option Int:=bif y4.oJ == p1 then (some (i_:Int)) else ((λz0 z1 z2=>k_ ()) p0 p1 (aW .i64 (i_:Int) 1))
theorem IQ(u:Nat)(p0:List bM)(p1:Int)(s:Unit)(k:Nat)(hn:p0.length<=9223372036854775807)(hk:p0.length < k):ou u k p0 p1 0=Pu.bU (IN u p0 p1) (IP u p0 p1) p0 0 s:=Pu.cK (λ(k:Nat) (s:Unit) (i:Int)=>ou u k p0 p1 i) hn (λ_ _ _=>rfl) s hk
def wG(u:Nat)(p1 p2 p3:Int)(p0:List bM)(x12:Int):Option ((List bM)) :=
  (c9 (cE 0 x12 ((([]:List bM))++p0).length)).bind λ_=>(c9 (decide (((([]:List bM)).length+((((([]:List bM))++p0).take (sY x12)).drop (sY 0)).length)*40<=140737488355328))).bind λ_=>(c9 (decide ((((([]:List bM))++((((([]:List bM))++p0).take (sY x12)).drop (sY 0))).length+([(bM.mk p1 p2 p3 0 0)]).length)*40<=140737488355328))).bind λ_=>(c9 (cE x12 ((((([]:List bM))++p0).length:Int)) ((([]:List bM))++p0).length)).bind λ_=>(c9 (decide (((((([]:List bM))++((((([]:List bM))++p0).take (sY x12)).drop (sY 0)))++([(bM.mk p1 p2 p3 0 0)])).length+((((([]:List bM))++p0).take (sY ((((([]:List bM))++p0).length:Int)))).drop (sY x12)).length)*40<=140737488355328))).bind λ_=>some ((((([]:List bM))++((((([]:List bM))++p0).take (sY x12)).drop (sY 0)))++([(bM.mk p1 p2 p3 0 0)]))++((((([]:List bM))++p0).take (sY ((((([]:List bM))++p0).length:Int)))).drop (sY x12)))
def tg(u:Nat)(Ml:Int->Int->Int->(List bM)->Int->Option ((List bM)))(p1 p2 p3:Int)(p0:List bM)(x8:Int)(x11:Bool):Option ((List bM)) :=
  bif x11 then (Ml p1 p2 p3 p0 (aW .i64 x8 1)) else (wG u p1 p2 p3 p0 x8)
def kg(u jz:Nat)(p1 p2 p3:Int)(p0:List bM)(x8:Int):Option ((List bM)):=match jz with
  | 0=>none
  | jz+1=>bif decide (x8 < ((((([]:List bM))++p0).length:Int))) then ((cN ((([]:List bM))++p0) x8).bind λy10=>tg u (λz0 z1 z2 z3 z4=>kg u jz z0 z1 z2 z3 z4) p1 p2 p3 p0 x8 (decide (y10.oJ<=p1))) else (tg u (λz0 z1 z2 z3 z4=>kg u jz z0 z1 z2 z3 z4) p1 p2 p3 p0 x8 false)
def th(u:Nat)(p0:List bM)(p1 p2 p3:Int)(x5:Bool):Option ((List bM)) :=
  bif x5 then (some ((([]:List bM))++p0)) else ((sv u p0 p1).bind λr6=>bif decide (r6 < 0) then (kg u u p1 p2 p3 p0 0) else ((cN ((([]:List bM))++p0) r6).bind λy11=>(cN ((([]:List bM))++p0) r6).bind λy12=>some (((([]:List bM))++p0).set (sY r6) ((bM.mk y11.oJ p2 (qP .i64 y11.bV p3) 0 y11.mx)))))
def zF(u:Nat)(p0:List bM)(p1 p2 p3:Int):Option ((List bM)) :=
  (c9 (decide (((([]:List bM)).length+p0.length)*40<=140737488355328))).bind λ_=>(bN u p1 0 6).bind λr2=>bif !r2 then (th u p0 p1 p2 p3 true) else ((d7 u p2).bind λr3=>bif !r3 then (th u p0 p1 p2 p3 true) else ((d7 u p3).bind λr4=>th u p0 p1 p2 p3 (!r4)))
def sH(u:Nat)(p0:aH):Option Int :=
  some p0.bD.bq
def mR(u:Nat)(p0:List bM)(p2 r1:Int)(x7:Bool):Option Int :=
  bif x7 then (some 0) else ((cN p0 r1).bind λy8=>(cN p0 r1).bind λy9=>some (J9 .i64 (eH .i64 y8.bQ p2) y9.mx))
def sI(u:Nat)(p0:List bM)(p1 p2:Int):Option Int :=
  (sv u p0 p1).bind λr1=>bif decide (r1 < 0) then (mR u p0 p2 r1 true) else ((d7 u p2).bind λr2=>bif !r2 then (mR u p0 p2 r1 true) else ((cN p0 r1).bind λy3=>(d7 u y3.bQ).bind λr4=>bif !r4 then (mR u p0 p2 r1 true) else ((cN p0 r1).bind λy5=>(d7 u y5.mx).bind λr6=>mR u p0 p2 r1 (!r6))))
def rQ(u:Nat)(x9:List Int):Option ((List Int)) :=
  some x9
def jV(u:Nat)(GF:Int->(List Int)->Int->Option ((List Int)))(p0:Int)(x8:List Int)(x4:Int):Option ((List Int)) :=
  GF p0 x8 (aW .i64 x4 1)
def iA(u gj:Nat)(p0:Int)(x3:List Int)(x4:Int):Option ((List Int)):=match gj with
  | 0=>none
  | gj+1=>bif decide (x4 < 40) then ((em u p0 x4).bind λr7=>bif r7 then ((c9 (decide ((x3.length+(([x4]:List Int)).length)*8<=140737488355328))).bind λ_=>jV u (λz0 z1 z2=>iA u gj z0 z1 z2) p0 (x3++(([x4]:List Int))) x4) else (jV u (λz0 z1 z2=>iA u gj z0 z1 z2) p0 x3 x4)) else (rQ u x3)
def ti(u:Nat)(p0:Int):Option ((List Int)) :=
  iA u u p0 (([]:List Int)) 0
def yn(u:Nat)(p0:Int)(s:(List Int)):Option ((List Int)):=(rQ u s)
def yo(u:Nat)(p0:Int)(i_:Nat)(s:(List Int))(k_:((List Int))->Option ((List Int))):Option ((List Int)):=(em u p0 (i_:Int)).bind λr7=>bif r7 then ((c9 (decide ((s.length+(([(i_:Int)]:List Int)).length)*8<=140737488355328))).bind λ_=>jV u (λz0 z1 z2=>k_ z1) p0 (s++(([(i_:Int)]:List Int))) (i_:Int)) else (jV u (λz0 z1 z2=>k_ z1) p0 s (i_:Int))
theorem Fd(u:Nat)(p0:Int)(s:(List Int))(k:Nat)(hn:(40:Int)<=9223372036854775807)(hk:sY (40) < k):iA u k p0 s 0=Pu.n5 (yn u p0) (yo u p0) (sY (40)) 0 s:=Pu.pJ (λ(k:Nat) (s:(List Int)) (i:Int)=>iA u k p0 s i) hn (λ_ _ _=>rfl) s hk
def rS(u:Nat)(p2:Int)(x3:Bool)(p0:ah)(p1:bI):Option ((List Int)×Bool) :=
  bif x3 then (some ((([]:List Int),false))) else ((fh u p0.aC p0.aY p2).bind λr4=>(c9 (cE r4.1 (aW .i64 r4.1 r4.2) p1.bZ.length)).bind λ_=>(c9 (decide (((([]:List Int)).length+((p1.bZ.take (sY (aW .i64 r4.1 r4.2))).drop (sY r4.1)).length)*1<=140737488355328))).bind λ_=>some (((([]:List Int))++((p1.bZ.take (sY (aW .i64 r4.1 r4.2))).drop (sY r4.1)),true)))
def ny(u:Nat)(p0:ah)(p1:bI)(p2:Int):Option ((List Int)×Bool) :=
  (nv u p0 p1).bind λr1=>bif !r1 then (rS u p2 true p0 p1) else ((em u p1.bq p2).bind λr2=>rS u p2 (!r2) p0 p1)
def mS(u:Nat)(p2:Int)(p0:List bM)(r2:Int)(x6:Bool):Option ((List bM)) :=
  bif x6 then (some ((([]:List bM))++p0)) else ((cN ((([]:List bM))++p0) r2).bind λy7=>(cN ((([]:List bM))++p0) r2).bind λy8=>some (((([]:List bM))++p0).set (sY r2) ((bM.mk y7.oJ y7.bQ y7.bV y7.uO (qP .i64 y7.mx p2)))))
def ov(u:Nat)(p0:List bM)(p1 p2:Int):Option ((List bM)) :=
  (c9 (decide (((([]:List bM)).length+p0.length)*40<=140737488355328))).bind λ_=>(sv u p0 p1).bind λr2=>bif decide (r2 < 0) then (mS u p2 p0 r2 true) else ((d7 u p2).bind λr3=>bif !r3 then (mS u p2 p0 r2 true) else ((cN p0 r2).bind λy4=>(d7 u y4.mx).bind λr5=>mS u p2 p0 r2 (!r5)))
def oM(u:Nat)(p2 r3:Int)(p0 r1:aH)(x17:List ag):Option Act :=
  (ov u p0.bj p2 r3).bind λr18=>some ((Act.mk ((aH.mk r1.gW r1.bP r1.bJ r1.aD r1.bD r1.bp r18 r1.bB)) x17))
def jB(u:Nat)(Df:Int->Int->Int->((List Int))->Int->aH->aH->(List ag)->Option Act)(p1 p2 r3:Int)(r4:(List Int))(x7:Int)(p0 r1:aH)(x16:List ag):Option Act :=
  Df p1 p2 r3 r4 (aW .i64 x7 1) p0 r1 x16
def fZ(u eN:Nat)(p1 p2 r3:Int)(r4:(List Int))(x7:Int)(p0 r1:aH)(x8:List ag):Option Act:=match eN with
  | 0=>none
  | eN+1=>bif decide (x7 < ((r4.length:Int))) then ((cN r4 x7).bind λy11=>(ny u p0.aD p0.bD y11).bind λr12=>bif r12.2 then ((cN r4 x7).bind λy13=>(mf u p0.aD.aO y13 r12.1).bind λr14=>(ed u p1 p2 r14).bind λr15=>(c9 (decide ((x8.length+([r15]).length)*40<=140737488355328))).bind λ_=>jB u (λz0 z1 z2 z3 z4 z5 z6 z7=>fZ u eN z0 z1 z2 z3 z4 z5 z6 z7) p1 p2 r3 r4 x7 p0 r1 (x8++([r15]))) else (jB u (λz0 z1 z2 z3 z4 z5 z6 z7=>fZ u eN z0 z1 z2 z3 z4 z5 z6 z7) p1 p2 r3 r4 x7 p0 r1 x8)) else (oM u p2 r3 p0 r1 x8)
def pm(u:Nat)(p0:aH)(p1 p2:Int):Option Act :=
  (dj u p0).bind λr1=>(sH u p0).bind λr2=>(sI u p0.bj p2 r2).bind λr3=>(ti u r3).bind λr4=>fZ u u p1 p2 r3 r4 0 p0 r1 (([]:List ag))
def wg(u:Nat)(p1 p2 r3:Int)(r4:(List Int))(p0 r1:aH)(s:(List ag)):Option Act:=(oM u p2 r3 p0 r1 s)
def wh(u:Nat)(p1 p2 r3:Int)(r4:(List Int))(p0 r1:aH)(y11:Int)(i_:Nat)(s:(List ag))(k_:((List ag))->Option Act):Option Act:=(ny u p0.aD p0.bD y11).bind λr12=>bif r12.2 then ((cN r4 (i_:Int)).bind λy13=>(mf u p0.aD.aO y13 r12.1).bind λr14=>(ed u p1 p2 r14).bind λr15=>(c9 (decide ((s.length+([r15]).length)*40<=140737488355328))).bind λ_=>jB u (λz0 z1 z2 z3 z4 z5 z6 z7=>k_ z7) p1 p2 r3 r4 (i_:Int) p0 r1 (s++([r15]))) else (jB u (λz0 z1 z2 z3 z4 z5 z6 z7=>k_ z7) p1 p2 r3 r4 (i_:Int) p0 r1 s)
theorem CY(u:Nat)(p1 p2 r3:Int)(r4:(List Int))(p0 r1:aH)(s:(List ag))(k:Nat)(hn:r4.length<=9223372036854775807)(hk:r4.length < k):fZ u k p1 p2 r3 r4 0 p0 r1 s=Pu.bU (wg u p1 p2 r3 r4 p0 r1) (wh u p1 p2 r3 r4 p0 r1) r4 0 s:=Pu.cK (λ(k:Nat) (s:(List ag)) (i:Int)=>fZ u k p1 p2 r3 r4 i p0 r1 s) hn (λ_ _ _=>rfl) s hk
def nz(u:Nat)(r1:aH)(r2:(List bM))(x10:List ag):Option Act :=
  some ((Act.mk ((aH.mk r1.gW r1.bP r1.bJ r1.aD r1.bD r1.bp r2 r1.bB)) x10))
def nA(u:Nat)(r1:aH)(r2:(List bM))(r7:Act)(x9:List ag):Option Act :=
  some ((Act.mk r7.fN x9))
def nW(u:Nat)(p0:aH)(p1 p2:Int)(p3:dY):Option Act :=
  (dj u p0).bind λr1=>bif p2 == p1 then (some ((Act.mk r1 (([]:List ag))))) else ((zF u p0.bj p2 p3.bQ p3.bV).bind λr2=>bif p0.bp == 0 then ((ed u p1 p2 ((dY.mk 4 0 ((ah.mk 0 0 0 ([]))) 0 0 0 ([])))).bind λr3=>(c9 (decide (((([]:List ag)).length+([r3]).length)*40<=140737488355328))).bind λ_=>nz u r1 r2 ((([]:List ag))++([r3]))) else (bif p3.aO != p0.aD.aO then ((ed u p1 p2 ((dY.mk 1 0 p0.aD 0 0 0 ([])))).bind λr5=>(c9 (decide (((([]:List ag)).length+([r5]).length)*40<=140737488355328))).bind λ_=>nz u r1 r2 ((([]:List ag))++([r5]))) else ((pm u ((aH.mk r1.gW r1.bP r1.bJ r1.aD r1.bD r1.bp r2 r1.bB)) p1 p2).bind λr7=>bif ((r7.nc.length:Int)) == 0 then ((ed u p1 p2 ((dY.mk 4 p0.aD.aO ((ah.mk 0 0 0 ([]))) 0 0 0 ([])))).bind λr8=>(c9 (decide ((r7.nc.length+([r8]).length)*40<=140737488355328))).bind λ_=>nA u r1 r2 r7 (r7.nc++([r8]))) else (nA u r1 r2 r7 r7.nc))))
def tj(u:Nat)(p0:aB):Option (Int×(List Int)) :=
  (km u p0).bind λr1=>bif !r1 then (some ((0,([]:List Int)))) else ((sG u p0 p0.fR.b7).bind λr2=>(c9 (cE 0 p0.fR.aY r2.length)).bind λ_=>(c9 (decide (((([]:List Int)).length+((r2.take (sY p0.fR.aY)).drop (sY 0)).length)*1<=140737488355328))).bind λ_=>some ((p0.fR.aO,(([]:List Int))++((r2.take (sY p0.fR.aY)).drop (sY 0)))))
def rT(u:Nat)(r1:aH)(r7:ah)(r8:bI)(x11:Int):Option aH :=
  some ((aH.mk r1.gW r1.bP r1.bJ r7 r8 x11 r1.bj r1.bB))
def rU(u:Nat)(x10:Bool)(r1:aH)(r7:ah)(r8:bI):Option aH :=
  bif x10 then (rT u r1 r7 r8 5) else (rT u r1 r7 r8 1)
def rV(u:Nat)(x5:Bool)(p1:aB)(p2:ah)(r1:aH):Option aH :=
  bif x5 then (some r1) else ((tj u p1).bind λr6=>(mc u p2).bind λr7=>(mE u p2 r6.2).bind λr8=>bif r6.1 == p2.aO then ((ug u p2 r6.2).bind λr9=>rU u r9 r1 r7 r8) else (rU u false r1 r7 r8))
def tk(u:Nat)(p0:aH)(p1:aB)(p2:ah):Option aH :=
  (dj u p0).bind λr1=>bif p0.bp != 0 then ((p9 u p0.aD p2).bind λr2=>bif !r2 then ((ke u p0).bind λr3=>some r3) else (some r1)) else ((g8 u p2).bind λr4=>bif !r4 then (rV u true p1 p2 r1) else (rV u (p2.aO == 0) p1 p2 r1))
def qj(u:Nat)(x4:Bool)(x5:Int)(x6:List Int):Option (bI×Bool) :=
  bif x4 then (some (((bI.mk x5 x6),false))) else (some (((bI.mk x5 x6),true)))
def rc(u:Nat)(p0:ah)(p1:bI)(p2:Int)(p3:List Int):Option (bI×Bool) :=
  (nh u p1).bind λr1=>(nv u p0 p1).bind λr2=>bif !r2 then (qj u true r1.bq r1.bZ) else ((so u p0 r1 p2 p3).bind λr3=>qj u (!r3.1) r3.2.bq r3.2.bZ)
def rX(u:Nat)(r1:aH)(x24:List bM)(x25:List ag):Option Act :=
  some ((Act.mk ((aH.mk r1.gW r1.bP r1.bJ r1.aD r1.bD r1.bp x24 r1.bB)) x25))
def rY(u:Nat)(o4:Int->Int->((List Int)×Bool)->Int->aH->aH->(List bM)->(List ag)->Option Act)(p1 p2:Int)(r2:(List Int)×Bool)(x6:Int)(p0 r1:aH)(x22:List bM)(x23:List ag):Option Act :=
  o4 p1 p2 r2 (aW .i64 x6 1) p0 r1 x22 x23
def lO(u:Nat)(o4:Int->Int->((List Int)×Bool)->Int->aH->aH->(List bM)->(List ag)->Option Act)(p1 p2:Int)(r2:(List Int)×Bool)(x6:Int)(x12:Bool)(p0 r1:aH)(x7:List bM)(x8:List ag):Option Act :=
  bif x12 then ((cN p0.bj x6).bind λy13=>(sH u p0).bind λr14=>(sI u x7 y13.oJ r14).bind λr15=>(em u r15 p2).bind λr16=>bif r16 then ((mf u p0.aD.aO p2 r2.1).bind λr17=>(ed u p1 y13.oJ r17).bind λr18=>(c9 (decide ((x8.length+([r18]).length)*40<=140737488355328))).bind λ_=>(gX u 0 p2).bind λr20=>(ov u x7 y13.oJ r20).bind λr21=>rY u o4 p1 p2 r2 x6 p0 r1 r21 (x8++([r18]))) else (rY u o4 p1 p2 r2 x6 p0 r1 x7 x8)) else (rX u r1 x7 x8)
def ez(u eV:Nat)(p1 p2:Int)(r2:(List Int)×Bool)(x6:Int)(p0 r1:aH)(x7:List bM)(x8:List ag):Option Act:=match eV with
  | 0=>none
  | eV+1=>bif decide (x6 < ((p0.bj.length:Int))) then (lO u (λz0 z1 z2 z3 z4 z5 z6 z7=>ez u eV z0 z1 z2 z3 z4 z5 z6 z7) p1 p2 r2 x6 r2.2 p0 r1 x7 x8) else (lO u (λz0 z1 z2 z3 z4 z5 z6 z7=>ez u eV z0 z1 z2 z3 z4 z5 z6 z7) p1 p2 r2 x6 false p0 r1 x7 x8)
def tl(u:Nat)(p0:aH)(p1 p2:Int):Option Act :=
  (dj u p0).bind λr1=>(ny u p0.aD p0.bD p2).bind λr2=>ez u u p1 p2 r2 0 p0 r1 r1.bj (([]:List ag))
def qk(u:Nat)(p1:Int)(x1:Bool)(p0:aH)(p2:dY):Option Act :=
  bif x1 then ((ke u p0).bind λr2=>some ((Act.mk r2 (([]:List ag))))) else ((em u p0.bD.bq p2.fI).bind λr3=>bif r3 then ((dj u p0).bind λr4=>some ((Act.mk r4 (([]:List ag))))) else ((rc u p0.aD p0.bD p2.fI p2.fB).bind λr5=>bif !r5.2 then ((ke u p0).bind λr6=>some ((Act.mk r6 (([]:List ag))))) else ((dj u p0).bind λr7=>(tl u ((aH.mk r7.gW r7.bP r7.bJ r7.aD r5.1 r7.bp r7.bj r7.bB)) p1 p2.fI).bind λr8=>some r8)))
def re(u:Nat)(p0:aH)(p1:Int)(p2:dY):Option Act :=
  bif p0.bp == 0 then (qk u p1 true p0 p2) else (qk u p1 (p2.aO != p0.aD.aO) p0 p2)
def mT(u:Nat)(x4:Bool)(x5 x6:Int)(x7 x8 x9:Int)(x10:List b4)(x11:Int)(x12:List Int)(x13:Int)(x14:List bM)(x15:Int):Option Act :=
  some ((Act.mk ((aH.mk x4 x5 x6 ((ah.mk x7 x8 x9 x10)) ((bI.mk x11 x12)) x13 x14 x15)) (([]:List ag))))
def rf(u:Nat)(p0:aH)(p1:Int)(p2:aB)(p3:dY):Option Act :=
  (dj u p0).bind λr1=>bif p3.bt == 1 then ((tk u ((aH.mk r1.gW r1.bP 0 r1.aD r1.bD r1.bp r1.bj r1.bB)) p2 p3.aD).bind λr2=>mT u r2.gW r2.bP r2.bJ r2.aD.aO r2.aD.aC r2.aD.aY r2.aD.aJ r2.bD.bq r2.bD.bZ r2.bp r2.bj r2.bB) else (bif p3.bt == 3 then ((re u ((aH.mk r1.gW r1.bP 0 r1.aD r1.bD r1.bp r1.bj r1.bB)) p1 p3).bind λr3=>some r3) else (bif p3.bt == 2 then (mT u r1.gW r1.bP 0 r1.aD.aO r1.aD.aC r1.aD.aY r1.aD.aJ r1.bD.bq r1.bD.bZ r1.bp r1.bj (aW .i64 r1.bB 1)) else (mT u r1.gW r1.bP 0 r1.aD.aO r1.aD.aC r1.aD.aY r1.aD.aJ r1.bD.bq r1.bD.bZ r1.bp r1.bj r1.bB)))
def tn(u:Nat)(p1:Int)(x4:Bool)(p2:aH)(p3:aB)(p4:ag)(r2:dY×Bool):Option Act :=
  bif x4 then ((ke u p2).bind λr5=>some ((Act.mk r5 (([]:List ag))))) else (bif r2.1.bt == 2 then ((nW u p2 p1 p4.cB r2.1).bind λr6=>some r6) else (bif p4.cB == p2.bP then ((rf u p2 p1 p3 r2.1).bind λr7=>some r7) else ((ke u p2).bind λr8=>some ((Act.mk r8 (([]:List ag)))))))
def zG(u:Nat)(p0:cT)(p1:Int)(p2:aH)(p3:aB)(p4:ag):Option Act :=
  bif !p2.gW then ((dj u p2).bind λr1=>some ((Act.mk r1 (([]:List ag))))) else ((kl u p4.fB).bind λr2=>bif !r2.2 then (tn u p1 true p2 p3 p4 r2) else ((bN u p4.cB 0 (cW .i64 ((p0.cf.length:Int)) 1)).bind λr3=>bif !r3 then (tn u p1 true p2 p3 p4 r2) else (tn u p1 (p4.cB == p1) p2 p3 p4 r2)))
def nB(u:Nat)(p0:World)(p1:Int):Option World :=
  (cN p0.bx p1).bind λy1=>(c9 (cE 0 p1 p0.bx.length)).bind λ_=>(c9 (decide (((([]:List ag)).length+((p0.bx.take (sY p1)).drop (sY 0)).length)*40<=140737488355328))).bind λ_=>(c9 (cE (aW .i64 p1 1) ((p0.bx.length:Int)) p0.bx.length)).bind λ_=>(c9 (decide ((((([]:List ag))++((p0.bx.take (sY p1)).drop (sY 0))).length+((p0.bx.take (sY ((p0.bx.length:Int)))).drop (sY (aW .i64 p1 1))).length)*40<=140737488355328))).bind λ_=>(cN p0.fN y1.pW).bind λy6=>(cN p0.fD y1.pW).bind λy7=>(zG u p0.fT y1.pW y6 y7 y1).bind λr8=>(cN p0.fN y1.pW).bind λy9=>(kd u ((World.mk p0.fC p0.fT p0.ce p0.bX (p0.fN.set (sY y1.pW) r8.fN) p0.fD (((([]:List ag))++((p0.bx.take (sY p1)).drop (sY 0)))++((p0.bx.take (sY ((p0.bx.length:Int)))).drop (sY (aW .i64 p1 1)))) p0.cu p0.bn)) r8.nc).bind λr10=>some r10
def yY(u:Nat)(p0:aH):Option aH :=
  some ((aH.mk false 0 0 ((ah.mk 0 0 0 ([]))) ((bI.mk 0 ([]))) 0 ([]) 0))
def Aq(u:Nat)(x33 x34:List Int)(x35 x36 x37:Int)(x38:List dd):Option aB :=
  some ((aB.mk x33 x34 ((dp.mk x35 x36 x37)) (([]:List dd))))
def ql(u:Nat)(Mk:Int->Int->aB->(List Int)->(List Int)->Int->Int->Int->(List dd)->Option aB)(p1 x10:Int)(p0:aB)(x27 x28:List Int)(x29 x30 x31:Int)(x32:List dd):Option aB :=
  Mk p1 (aW .i64 x10 1) p0 x27 x28 x29 x30 x31 x32
def mh(u jy:Nat)(p1 x10:Int)(p0:aB)(x11 x12:List Int)(x13 x14 x15:Int)(x16:List dd):Option aB:=match jy with
  | 0=>none
  | jy+1=>bif decide (x10 < ((p0.fP.length:Int))) then ((em u p1 x10).bind λr24=>bif r24 then ((cN p0.fP x10).bind λy25=>(jn u ((aB.mk x11 x12 ((dp.mk x13 x14 x15)) x16)) y25).bind λr26=>ql u (λz0 z1 z2 z3 z4 z5 z6 z7 z8=>mh u jy z0 z1 z2 z3 z4 z5 z6 z7 z8) p1 x10 p0 r26.fA r26.fB r26.fR.aO r26.fR.b7 r26.fR.aY r26.fP) else (ql u (λz0 z1 z2 z3 z4 z5 z6 z7 z8=>mh u jy z0 z1 z2 z3 z4 z5 z6 z7 z8) p1 x10 p0 x11 x12 x13 x14 x15 x16)) else (Aq u x11 x12 x13 x14 x15 x16)
def zH(u:Nat)(p0:aB)(p1:Int):Option aB :=
  (dS u p0).bind λr1=>(km u p0).bind λr2=>bif !r2 then (some r1) else (mh u u p1 0 p0 r1.fA r1.fB r1.fR.aO r1.fR.b7 r1.fR.aY r1.fP)
def BE(u:Nat)(p1:Int)(p0:aB)(s:(List Int)×(List Int)×Int×Int×Int×(List dd)):Option aB:=(Aq u s.1 s.2.1 s.2.2.1 s.2.2.2.1 s.2.2.2.2.1 s.2.2.2.2.2)
def xm(u:Nat)(p1:Int)(p0:aB)(i_:Nat)(s:(List Int)×(List Int)×Int×Int×Int×(List dd))(k_:((List Int)×(List Int)×Int×Int×Int×(List dd))->Option aB):Option aB:=(em u p1 (i_:Int)).bind λr24=>bif r24 then ((cN p0.fP (i_:Int)).bind λy25=>(jn u ((aB.mk s.1 s.2.1 ((dp.mk s.2.2.1 s.2.2.2.1 s.2.2.2.2.1)) s.2.2.2.2.2)) y25).bind λr26=>ql u (λz0 z1 z2 z3 z4 z5 z6 z7 z8=>k_ (z3,z4,z5,z6,z7,z8)) p1 (i_:Int) p0 r26.fA r26.fB r26.fR.aO r26.fR.b7 r26.fR.aY r26.fP) else (ql u (λz0 z1 z2 z3 z4 z5 z6 z7 z8=>k_ (z3,z4,z5,z6,z7,z8)) p1 (i_:Int) p0 s.1 s.2.1 s.2.2.1 s.2.2.2.1 s.2.2.2.2.1 s.2.2.2.2.2)
theorem Kj(u:Nat)(p1:Int)(p0:aB)(s:(List Int)×(List Int)×Int×Int×Int×(List dd))(k:Nat)(hn:(((p0.fP.length:Int)):Int)<=9223372036854775807)(hk:sY (((p0.fP.length:Int))) < k):mh u k p1 0 p0 s.1 s.2.1 s.2.2.1 s.2.2.2.1 s.2.2.2.2.1 s.2.2.2.2.2=Pu.n5 (BE u p1 p0) (xm u p1 p0) (sY (((p0.fP.length:Int)))) 0 s:=Pu.pJ (λ(k:Nat) (s:(List Int)×(List Int)×Int×Int×Int×(List dd)) (i:Int)=>mh u k p1 i p0 s.1 s.2.1 s.2.2.1 s.2.2.2.1 s.2.2.2.2.1 s.2.2.2.2.2) hn (λ_ _ _=>rfl) s hk
def zI(u:Nat)(p0:aB)(p1:Int):Option aB :=
  (zH u p0 p1).bind λr1=>some r1
def rh(u:Nat)(p0:World)(p1:ag):Option Bool :=
  (bN u p1.cB 0 (cW .i64 ((p0.fN.length:Int)) 1)).bind λr1=>bif r1 then ((bN u p1.pW 0 (cW .i64 ((p0.fN.length:Int)) 1)).bind λr2=>some r2) else (some false)
def ri(u:Nat)(r1:Bool)(x4 x5:Int)(x6 x7:Int)(x8 x9:List Int)(x10:List a9)(x11:List aH)(x12:List aB)(x13:List ag)(x14:List bR)(x15:Int):Option (Bool×World) :=
  some ((r1,(World.mk ((iE.mk x4 x5 x6 x7)) ((cT.mk x8)) x9 x10 x11 x12 x13 x14 x15)))
def rj(u:Nat)(r2:Bool)(x5 x6:Int)(x7 x8:Int)(x9 x10:List Int)(x11:List a9)(x12:List aH)(x13:List aB)(x14:List ag)(x15:List bR)(x16:Int):Option (Bool×World) :=
  some ((r2,(World.mk ((iE.mk x5 x6 x7 x8)) ((cT.mk x9)) x10 x11 x12 x13 x14 x15 x16)))
def rk(u:Nat)(r2:Bool)(p0:World)(x5:List ag)(x6:Int):Option (Bool×World) :=
  some ((r2,(World.mk p0.fC p0.fT p0.ce p0.bX p0.fN p0.fD x5 p0.cu x6)))
def mq(u:Nat)(x9:Bool)(p1:cX)(p0:World):Option (Bool×World) :=
  bif x9 then (some ((false,p0))) else ((cN p0.bx p1.fN).bind λy10=>(c9 (decide (((([]:List Int)).length+y10.fB.length)*1<=140737488355328))).bind λ_=>(c9 (decide ((p0.bx.length+([(ag.mk y10.cB y10.pW ((([]:List Int))++y10.fB))]).length)*40<=140737488355328))).bind λ_=>some ((true,(World.mk p0.fC p0.fT p0.ce p0.bX p0.fN p0.fD (p0.bx++([(ag.mk y10.cB y10.pW ((([]:List Int))++y10.fB))])) p0.cu p0.bn))))
def ko(u:Nat)(x10:Bool)(p1:cX)(p0:World):Option (Bool×World) :=
  bif x10 then (some ((false,p0))) else ((cN p0.fN p1.fN).bind λy11=>(yY u y11).bind λr12=>(cN p0.fN p1.fN).bind λy13=>(cN p0.fD p1.fN).bind λy14=>(zI u y14 p1.fS).bind λr15=>(cN p0.fD p1.fN).bind λy16=>some ((true,(World.mk p0.fC p0.fT p0.ce p0.bX (p0.fN.set (sY p1.fN) r12) (p0.fD.set (sY p1.fN) r15) p0.bx p0.cu p0.bn))))
def kp(u:Nat)(x11:Bool)(p1:cX)(p0:World):Option (Bool×World) :=
  bif x11 then (some ((false,p0))) else ((mn u p0.fT p1.fN).bind λr12=>(cN p0.fN p1.fN).bind λy13=>some ((true,(World.mk p0.fC p0.fT p0.ce p0.bX (p0.fN.set (sY p1.fN) r12) p0.fD p0.bx p0.cu p0.bn))))
def ms(u:Nat)(x12:Bool)(p1:cX)(p0:World):Option (Bool×World) :=
  bif x12 then (some ((false,p0))) else ((c9 (decide (((([]:List Int)).length+p1.fP.fB.length)*1<=140737488355328))).bind λ_=>(c9 (decide ((p0.bx.length+([(ag.mk p1.fP.cB p1.fP.pW ((([]:List Int))++p1.fP.fB))]).length)*40<=140737488355328))).bind λ_=>some ((true,(World.mk p0.fC p0.fT p0.ce p0.bX p0.fN p0.fD (p0.bx++([(ag.mk p1.fP.cB p1.fP.pW ((([]:List Int))++p1.fP.fB))])) p0.cu p0.bn))))
def sA(u:Nat)(p0:World)(p1:cX):Option (Bool×World) :=
  (bN u p1.fN 0 (cW .i64 ((p0.fN.length:Int)) 1)).bind λr1=>(bN u p1.fN 0 (cW .i64 ((p0.bx.length:Int)) 1)).bind λr2=>bif p1.bt == 1 then (bif r1 then ((nx u p0 p1.fN).bind λr3=>ri u r1 r3.fC.aC r3.fC.aZ r3.fC.aQ r3.fC.aX r3.fT.cf r3.ce r3.bX r3.fN r3.fD r3.bx r3.cu r3.bn) else (ri u r1 p0.fC.aC p0.fC.aZ p0.fC.aQ p0.fC.aX p0.fT.cf p0.ce p0.bX p0.fN p0.fD p0.bx p0.cu p0.bn)) else (bif p1.bt == 2 then (bif r2 then ((nB u p0 p1.fN).bind λr4=>rj u r2 r4.fC.aC r4.fC.aZ r4.fC.aQ r4.fC.aX r4.fT.cf r4.ce r4.bX r4.fN r4.fD r4.bx r4.cu r4.bn) else (rj u r2 p0.fC.aC p0.fC.aZ p0.fC.aQ p0.fC.aX p0.fT.cf p0.ce p0.bX p0.fN p0.fD p0.bx p0.cu p0.bn)) else (bif p1.bt == 3 then (bif r2 then ((c9 (cE 0 p1.fN p0.bx.length)).bind λ_=>(c9 (decide (((([]:List ag)).length+((p0.bx.take (sY p1.fN)).drop (sY 0)).length)*40<=140737488355328))).bind λ_=>(c9 (cE (aW .i64 p1.fN 1) ((p0.bx.length:Int)) p0.bx.length)).bind λ_=>(c9 (decide ((((([]:List ag))++((p0.bx.take (sY p1.fN)).drop (sY 0))).length+((p0.bx.take (sY ((p0.bx.length:Int)))).drop (sY (aW .i64 p1.fN 1))).length)*40<=140737488355328))).bind λ_=>rk u r2 p0 (((([]:List ag))++((p0.bx.take (sY p1.fN)).drop (sY 0)))++((p0.bx.take (sY ((p0.bx.length:Int)))).drop (sY (aW .i64 p1.fN 1)))) (aW .i64 p0.bn 1)) else (rk u r2 p0 p0.bx p0.bn)) else (bif p1.bt == 4 then (bif !r2 then (mq u true p1 p0) else (mq u (decide (((p0.bx.length:Int))>=400)) p1 p0)) else (bif p1.bt == 5 then (bif !r1 then (ko u true p1 p0) else (bif p1.fN == 0 then (ko u true p1 p0) else ((cN p0.fN p1.fN).bind λy9=>ko u (!y9.gW) p1 p0))) else (bif p1.bt == 6 then (bif !r1 then (kp u true p1 p0) else (bif p1.fN == 0 then (kp u true p1 p0) else ((cN p0.fN p1.fN).bind λy10=>kp u y10.gW p1 p0))) else (bif p1.bt == 7 then ((rh u p0 p1.fP).bind λr11=>bif !r11 then (ms u true p1 p0) else (ms u (decide (((p0.bx.length:Int))>=400)) p1 p0)) else (some ((false,p0)))))))))
def tp(u:Nat)(x59:List cX)(x60:List Int)(x61 x62:Int)(x63 x64:Int)(x65 x66:Int)(x67 x68:List Int)(x69:List a9)(x70:List aH)(x71:List aB)(x72:List ag)(x73:List bR)(x74:Int)(r1:World×aK):Option (World×(List cX)×World×aK) :=
  some ((r1.1,x59,(World.mk ((iE.mk x63 x64 x65 x66)) ((cT.mk x67)) x68 x69 x70 x71 x72 x73 x74),(aK.mk x60 x61 x62)))
def hP(u:Nat)(If:(List cX)->Int->(List Int)->Int->Int->Int->Int->Int->Int->(List Int)->(List Int)->(List a9)->(List aH)->(List aB)->(List ag)->(List bR)->Int->(World×aK)->Option (World×(List cX)×World×aK))(x21:List cX)(x22:Int)(x55:Bool)(x23:List Int)(x24 x25:Int)(x26 x27:Int)(x28 x29:Int)(x30 x31:List Int)(x32:List a9)(x33:List aH)(x34:List aB)(x35:List ag)(x36:List bR)(x37:Int)(r1:World×aK):Option (World×(List cX)×World×aK) :=
  bif x55 then ((s9 u ((aK.mk x23 x24 x25)) ((World.mk ((iE.mk x26 x27 x28 x29)) ((cT.mk x30)) x31 x32 x33 x34 x35 x36 x37))).bind λr56=>(c9 (decide ((x21.length+([r56.1]).length)*64<=140737488355328))).bind λ_=>(sA u ((World.mk ((iE.mk x26 x27 x28 x29)) ((cT.mk x30)) x31 x32 x33 x34 x35 x36 x37)) r56.1).bind λr58=>If (x21++([r56.1])) (cW .i64 x22 1) r56.2.fB r56.2.fI r56.2.fH r58.2.fC.aC r58.2.fC.aZ r58.2.fC.aQ r58.2.fC.aX r58.2.fT.cf r58.2.ce r58.2.bX r58.2.fN r58.2.fD r58.2.bx r58.2.cu r58.2.bn r1) else (tp u x21 x23 x24 x25 x26 x27 x28 x29 x30 x31 x32 x33 x34 x35 x36 x37 r1)
def dy(u gR:Nat)(x21:List cX)(x22:Int)(x23:List Int)(x24 x25:Int)(x26 x27:Int)(x28 x29:Int)(x30 x31:List Int)(x32:List a9)(x33:List aH)(x34:List aB)(x35:List ag)(x36:List bR)(x37:Int)(r1:World×aK):Option (World×(List cX)×World×aK):=match gR with
  | 0=>none
  | gR+1=>bif decide (x22 > 0) then (hP u (λz0 z1 z2 z3 z4 z5 z6 z7 z8 z9 z10 z11 z12 z13 z14 z15 z16 z17=>dy u gR z0 z1 z2 z3 z4 z5 z6 z7 z8 z9 z10 z11 z12 z13 z14 z15 z16 z17) x21 x22 (decide (((x21.length:Int)) < 400)) x23 x24 x25 x26 x27 x28 x29 x30 x31 x32 x33 x34 x35 x36 x37 r1) else (hP u (λz0 z1 z2 z3 z4 z5 z6 z7 z8 z9 z10 z11 z12 z13 z14 z15 z16 z17=>dy u gR z0 z1 z2 z3 z4 z5 z6 z7 z8 z9 z10 z11 z12 z13 z14 z15 z16 z17) x21 x22 false x23 x24 x25 x26 x27 x28 x29 x30 x31 x32 x33 x34 x35 x36 x37 r1)
def vk(u:Nat)(p0:aK)(p1:Int):Option (World×(List cX)×World×aK) :=
  (u6 u p0).bind λr1=>(md u r1.1).bind λr2=>(ba u r1.2 p1).bind λr3=>dy u u (([]:List cX)) (aW .i64 5 r3.1) r3.2.fB r3.2.fI r3.2.fH r2.fC.aC r2.fC.aZ r2.fC.aQ r2.fC.aX r2.fT.cf r2.ce r2.bX r2.fN r2.fD r2.bx r2.cu r2.bn r1
def rm(u:Nat)(p0:aK)(p1:Int):Option (World×aK) :=
  (vk u p0 p1).bind λr1=>some ((r1.2.2.1,r1.2.2.2))
def mU(u:Nat)(x7 x8:Int)(x9 x10:Int)(x11:List Int)(x12 x13:Int):Option (iE×aK) :=
  some (((iE.mk x7 x8 x9 x10),(aK.mk x11 x12 x13)))
def vm(u:Nat)(p0:aK):Option (iE×aK) :=
  (pY u p0).bind λr1=>(ba u r1.2 12).bind λr2=>bif r2.1 == 0 then ((dq u r2.2 (([1,6,7]:List Int))).bind λr3=>mU u r3.1 r1.1.aZ r1.1.aQ r1.1.aX r3.2.fB r3.2.fI r3.2.fH) else (bif r2.1 == 1 then ((dq u r2.2 (([0,40,41]:List Int))).bind λr4=>mU u r1.1.aC r4.1 r1.1.aQ r1.1.aX r4.2.fB r4.2.fI r4.2.fH) else (bif r2.1 == 2 then ((dq u r2.2 (([0,5,6]:List Int))).bind λr5=>mU u r1.1.aC r1.1.aZ r5.1 r1.1.aX r5.2.fB r5.2.fI r5.2.fH) else (bif r2.1 == 3 then ((dq u r2.2 (([1,8,9]:List Int))).bind λr6=>mU u r1.1.aC r1.1.aZ r1.1.aQ r6.1 r6.2.fB r6.2.fI r6.2.fH) else (mU u r1.1.aC r1.1.aZ r1.1.aQ r1.1.aX r2.2.fB r2.2.fI r2.2.fH))))
def tq(u:Nat)(x6 x7:List Int)(x8 x9:Int):Option (cT×aK) :=
  some (((cT.mk x6),(aK.mk x7 x8 x9)))
def vn(u:Nat)(p0:aK):Option (cT×aK) :=
  (pX u p0).bind λr1=>(ba u r1.2 8).bind λr2=>bif r2.1 == 0 then ((ba u r2.2 ((r1.1.cf.length:Int))).bind λr3=>(dq u r3.2 (([-1,0,6,-2]:List Int))).bind λr4=>(cN r1.1.cf r3.1).bind λy5=>tq u (r1.1.cf.set (sY r3.1) r4.1) r4.2.fB r4.2.fI r4.2.fH) else (bif r2.1 == 1 then (tq u (([]:List Int)) r2.2.fB r2.2.fI r2.2.fH) else (tq u r1.1.cf r2.2.fB r2.2.fI r2.2.fH))
def rn(u:Nat)(p0:aK):Option (dd×aK) :=
  (iz u p0 4).bind λr1=>bif r1.1 then ((ba u r1.2 4).bind λr2=>(ba u r2.2 2).bind λr3=>(ba u r3.2 6).bind λr4=>some (((dd.mk 2 0 ([]) ((dp.mk r2.1 r3.1 r4.1))),r4.2))) else ((ba u r1.2 2).bind λr5=>(ba u r5.2 9).bind λr6=>(gz u r6.2 5).bind λr7=>some (((dd.mk r5.1 r6.1 r7.1 ((dp.mk 0 0 0))),r7.2)))
def xn(u:Nat)(x47 x48:List Int)(x49 x50 x51:Int)(x52:List dd)(x53:List Int)(x54 x55:Int):Option (aB×aK) :=
  some (((aB.mk x47 x48 ((dp.mk x49 x50 x51)) x52),(aK.mk x53 x54 x55)))
def po(u:Nat)(qB:Int->(List Int)->(List Int)->Int->Int->Int->(List dd)->(List Int)->Int->Int->Option (aB×aK))(x15:Int)(x41 x42:List Int)(x43 x44 x45:Int)(x46:List dd)(r38:Bool×aK):Option (aB×aK) :=
  qB (cW .i64 x15 1) x41 x42 x43 x44 x45 x46 r38.2.fB r38.2.fI r38.2.fH
def pp(u:Nat)(qB:Int->(List Int)->(List Int)->Int->Int->Int->(List dd)->(List Int)->Int->Int->Option (aB×aK))(x15:Int)(x40:Bool)(r36:aB×Bool)(r38:Bool×aK)(r37:aB):Option (aB×aK) :=
  bif x40 then (po u qB x15 r37.fA r37.fB r37.fR.aO r37.fR.b7 r37.fR.aY r37.fP r38) else (po u qB x15 r36.1.fA r36.1.fB r36.1.fR.aO r36.1.fR.b7 r36.1.fR.aY r36.1.fP r38)
def gp(u fU:Nat)(x15:Int)(x16 x17:List Int)(x18 x19 x20:Int)(x21:List dd)(x22:List Int)(x23 x24:Int):Option (aB×aK):=match fU with
  | 0=>none
  | fU+1=>bif decide (x15 > 0) then ((rn u ((aK.mk x22 x23 x24))).bind λr35=>(nw u ((aB.mk x16 x17 ((dp.mk x18 x19 x20)) x21)) r35.1).bind λr36=>(qi u r36.1).bind λr37=>(iz u r35.2 5).bind λr38=>bif r38.1 then ((km u r37).bind λr39=>pp u (λz0 z1 z2 z3 z4 z5 z6 z7 z8 z9=>gp u fU z0 z1 z2 z3 z4 z5 z6 z7 z8 z9) x15 r39 r36 r38 r37) else (pp u (λz0 z1 z2 z3 z4 z5 z6 z7 z8 z9=>gp u fU z0 z1 z2 z3 z4 z5 z6 z7 z8 z9) x15 false r36 r38 r37)) else (xn u x16 x17 x18 x19 x20 x21 x22 x23 x24)
def vo(u:Nat)(p0:aK):Option (aB×aK) :=
  (ba u p0 3).bind λr1=>(gz u r1.2 9).bind λr2=>(jb u r1.1 r2.1).bind λr3=>(ba u r2.2 5).bind λr4=>gp u u r4.1 r3.fA r3.fB r3.fR.aO r3.fR.b7 r3.fR.aY r3.fP r4.2.fB r4.2.fI r4.2.fH
def mt(u:Nat)(r1:aB×aK)(x8 x9 x10:Int)(x11:List dd)(x12:List Int)(x13 x14:Int):Option (aB×aK) :=
  some (((aB.mk r1.1.fA r1.1.fB ((dp.mk x8 x9 x10)) x11),(aK.mk x12 x13 x14)))
def uo(u:Nat)(p0:aK):Option (aB×aK) :=
  (vo u p0).bind λr1=>(ba u r1.2 12).bind λr2=>bif r2.1 == 0 then ((dq u r2.2 (([-1,0,240,241]:List Int))).bind λr3=>mt u r1 r1.1.fR.aO r1.1.fR.b7 r3.1 r1.1.fP r3.2.fB r3.2.fI r3.2.fH) else (bif r2.1 == 1 then ((dq u r2.2 (([-1,1,2]:List Int))).bind λr4=>mt u r1 r1.1.fR.aO r4.1 r1.1.fR.aY r1.1.fP r4.2.fB r4.2.fI r4.2.fH) else (bif r2.1 == 2 then ((dq u r2.2 (([-1,1000001]:List Int))).bind λr5=>mt u r1 r5.1 r1.1.fR.b7 r1.1.fR.aY r1.1.fP r5.2.fB r5.2.fI r5.2.fH) else (bif r2.1 == 3 then ((dq u r2.2 (([3,0,2]:List Int))).bind λr6=>(dq u r6.2 (([-1,240,0]:List Int))).bind λr7=>(c9 (decide ((r1.1.fP.length+([(dd.mk r6.1 r7.1 (([1]:List Int)) ((dp.mk 0 0 0)))]).length)*64<=140737488355328))).bind λ_=>mt u r1 r1.1.fR.aO r1.1.fR.b7 r1.1.fR.aY (r1.1.fP++([(dd.mk r6.1 r7.1 (([1]:List Int)) ((dp.mk 0 0 0)))])) r7.2.fB r7.2.fI r7.2.fH) else (mt u r1 r1.1.fR.aO r1.1.fR.b7 r1.1.fR.aY r1.1.fP r2.2.fB r2.2.fI r2.2.fH))))
def kt(u:Nat)(x8 x9 x10:Int)(x11:List b4)(x12:List Int)(x13 x14:Int):Option (ah×aK) :=
  some (((ah.mk x8 x9 x10 x11),(aK.mk x12 x13 x14)))
def uq(u:Nat)(p0:aK):Option (ah×aK) :=
  (pa u p0).bind λr1=>(ba u r1.2.2 10).bind λr2=>bif r2.1 == 0 then ((dq u r2.2 (([0,-1,1000000,1000001]:List Int))).bind λr3=>kt u r3.1 r1.1.aC r1.1.aY r1.1.aJ r3.2.fB r3.2.fI r3.2.fH) else (bif r2.1 == 1 then ((dq u r2.2 (([0,1,7]:List Int))).bind λr4=>kt u r1.1.aO r4.1 r1.1.aY r1.1.aJ r4.2.fB r4.2.fI r4.2.fH) else (bif r2.1 == 2 then (kt u r1.1.aO r1.1.aC (aW .i64 r1.1.aY 1) r1.1.aJ r2.2.fB r2.2.fI r2.2.fH) else (bif r2.1 == 3 then ((c9 (decide ((r1.1.aJ.length+([(b4.mk 1 257)]).length)*16<=140737488355328))).bind λ_=>kt u r1.1.aO r1.1.aC r1.1.aY (r1.1.aJ++([(b4.mk 1 257)])) r2.2.fB r2.2.fI r2.2.fH) else (bif r2.1 == 4 then (bif decide (((r1.1.aJ.length:Int)) > 0) then ((cN r1.1.aJ 0).bind λy6=>(cN r1.1.aJ 0).bind λy7=>kt u r1.1.aO r1.1.aC r1.1.aY (r1.1.aJ.set (sY 0) ((b4.mk (aW .i64 y6.fW 1) y7.fS))) r2.2.fB r2.2.fI r2.2.fH) else (kt u r1.1.aO r1.1.aC r1.1.aY r1.1.aJ r2.2.fB r2.2.fI r2.2.fH)) else (kt u r1.1.aO r1.1.aC r1.1.aY r1.1.aJ r2.2.fB r2.2.fI r2.2.fH)))))
def da(u:Nat)(x24:List Int)(x25 x26:Int)(x27 x28:Int)(x29 x30:Int)(x31 x32:List Int)(x33:List a9)(x34:List aH)(x35:List aB)(x36:List ag)(r1:World×aK)(x37:Int):Option (World×aK) :=
  some (((World.mk ((iE.mk x27 x28 x29 x30)) ((cT.mk x31)) x32 x33 x34 x35 x36 r1.1.cu x37),(aK.mk x24 x25 x26)))
def sJ(u:Nat)(p0:aK)(p1:Int):Option (World×aK) :=
  (rm u p0 p1).bind λr1=>(ba u r1.2 ((r1.1.fN.length:Int))).bind λr2=>(ba u r2.2 40).bind λr3=>bif r3.1 == 0 then ((vm u r3.2).bind λr4=>da u r4.2.fB r4.2.fI r4.2.fH r4.1.aC r4.1.aZ r4.1.aQ r4.1.aX r1.1.fT.cf r1.1.ce r1.1.bX r1.1.fN r1.1.fD r1.1.bx r1 r1.1.bn) else (bif r3.1 == 1 then ((vn u r3.2).bind λr5=>da u r5.2.fB r5.2.fI r5.2.fH r1.1.fC.aC r1.1.fC.aZ r1.1.fC.aQ r1.1.fC.aX r5.1.cf r1.1.ce r1.1.bX r1.1.fN r1.1.fD r1.1.bx r1 r1.1.bn) else (bif r3.1 == 2 then ((lY u r3.2).bind λr6=>da u r6.2.fB r6.2.fI r6.2.fH r1.1.fC.aC r1.1.fC.aZ r1.1.fC.aQ r1.1.fC.aX r1.1.fT.cf r6.1 r1.1.bX r1.1.fN r1.1.fD r1.1.bx r1 r1.1.bn) else (bif r3.1 == 3 then ((ba u r3.2 7).bind λr7=>(cN r1.1.fN r2.1).bind λy8=>da u r7.2.fB r7.2.fI r7.2.fH r1.1.fC.aC r1.1.fC.aZ r1.1.fC.aQ r1.1.fC.aX r1.1.fT.cf r1.1.ce r1.1.bX (r1.1.fN.set (sY r2.1) ((aH.mk y8.gW y8.bP y8.bJ y8.aD y8.bD r7.1 y8.bj y8.bB))) r1.1.fD r1.1.bx r1 r1.1.bn) else (bif r3.1 == 4 then ((ba u r3.2 7).bind λr9=>(cN r1.1.fN r2.1).bind λy10=>da u r9.2.fB r9.2.fI r9.2.fH r1.1.fC.aC r1.1.fC.aZ r1.1.fC.aQ r1.1.fC.aX r1.1.fT.cf r1.1.ce r1.1.bX (r1.1.fN.set (sY r2.1) ((aH.mk y10.gW (cW .i64 r9.1 1) y10.bJ y10.aD y10.bD y10.bp y10.bj y10.bB))) r1.1.fD r1.1.bx r1 r1.1.bn) else (bif r3.1 == 5 then ((uo u r3.2).bind λr11=>(cN r1.1.fD r2.1).bind λy12=>da u r11.2.fB r11.2.fI r11.2.fH r1.1.fC.aC r1.1.fC.aZ r1.1.fC.aQ r1.1.fC.aX r1.1.fT.cf r1.1.ce r1.1.bX r1.1.fN (r1.1.fD.set (sY r2.1) r11.1) r1.1.bx r1 r1.1.bn) else (bif r3.1 == 6 then ((uq u r3.2).bind λr13=>(cN r1.1.fN r2.1).bind λy14=>da u r13.2.fB r13.2.fI r13.2.fH r1.1.fC.aC r1.1.fC.aZ r1.1.fC.aQ r1.1.fC.aX r1.1.fT.cf r1.1.ce r1.1.bX (r1.1.fN.set (sY r2.1) ((aH.mk y14.gW y14.bP y14.bJ r13.1 y14.bD y14.bp y14.bj y14.bB))) r1.1.fD r1.1.bx r1 r1.1.bn) else (bif r3.1 == 7 then ((ba u r3.2 9).bind λr15=>(ba u r15.2 9).bind λr16=>(c9 (decide ((r1.1.bx.length+([(ag.mk (cW .i64 r15.1 1) (cW .i64 r16.1 1) ([]))]).length)*40<=140737488355328))).bind λ_=>da u r16.2.fB r16.2.fI r16.2.fH r1.1.fC.aC r1.1.fC.aZ r1.1.fC.aQ r1.1.fC.aX r1.1.fT.cf r1.1.ce r1.1.bX r1.1.fN r1.1.fD (r1.1.bx++([(ag.mk (cW .i64 r15.1 1) (cW .i64 r16.1 1) ([]))])) r1 r1.1.bn) else (bif r3.1 == 8 then (da u r3.2.fB r3.2.fI r3.2.fH r1.1.fC.aC r1.1.fC.aZ r1.1.fC.aQ r1.1.fC.aX r1.1.fT.cf r1.1.ce r1.1.bX r1.1.fN r1.1.fD r1.1.bx r1 (-1)) else (bif r3.1 == 9 then ((c9 (cE 1 ((r1.1.fD.length:Int)) r1.1.fD.length)).bind λ_=>da u r3.2.fB r3.2.fI r3.2.fH r1.1.fC.aC r1.1.fC.aZ r1.1.fC.aQ r1.1.fC.aX r1.1.fT.cf r1.1.ce r1.1.bX r1.1.fN ((r1.1.fD.take (sY ((r1.1.fD.length:Int)))).drop (sY 1)) r1.1.bx r1 r1.1.bn) else (bif r3.1 == 10 then ((cN r1.1.fN r2.1).bind λy19=>(cN r1.1.fN r2.1).bind λy20=>da u r3.2.fB r3.2.fI r3.2.fH r1.1.fC.aC r1.1.fC.aZ r1.1.fC.aQ r1.1.fC.aX r1.1.fT.cf r1.1.ce r1.1.bX (r1.1.fN.set (sY r2.1) ((aH.mk (!y19.gW) y20.bP y20.bJ y20.aD y20.bD y20.bp y20.bj y20.bB))) r1.1.fD r1.1.bx r1 r1.1.bn) else (bif r3.1 == 11 then ((cN r1.1.bX r2.1).bind λy21=>(c9 (decide ((y21.fB.length+(([1]:List Int)).length)*1<=140737488355328))).bind λ_=>(cN r1.1.bX r2.1).bind λy23=>da u r3.2.fB r3.2.fI r3.2.fH r1.1.fC.aC r1.1.fC.aZ r1.1.fC.aQ r1.1.fC.aX r1.1.fT.cf r1.1.ce (r1.1.bX.set (sY r2.1) ((a9.mk (y21.fB++(([1]:List Int)))))) r1.1.fN r1.1.fD r1.1.bx r1 r1.1.bn) else (da u r3.2.fB r3.2.fI r3.2.fH r1.1.fC.aC r1.1.fC.aZ r1.1.fC.aQ r1.1.fC.aX r1.1.fT.cf r1.1.ce r1.1.bX r1.1.fN r1.1.fD r1.1.bx r1 r1.1.bn))))))))))))
def wH(u:Nat)(p0:List Int)(p1:Int):Option (aK×World) :=
  (w4 u p0).bind λr1=>(sJ u r1 p1).bind λr2=>some ((r2.2,r2.1))
def sB(u:Nat)(x27:List ag)(x28:List Int)(x29 x30:Int):Option ((List ag)×aK) :=
  some ((x27,(aK.mk x28 x29 x30)))
def lc(u:Nat)(Cy:(List ag)->Int->(List Int)->Int->Int->Option ((List ag)×aK))(x7:List ag)(x8:Int)(x23:List Int)(x24 x25:Int)(r20:ag)(x26:List Int):Option ((List ag)×aK) :=
  (c9 (decide ((x7.length+([(ag.mk r20.cB r20.pW x26)]).length)*40<=140737488355328))).bind λ_=>Cy (x7++([(ag.mk r20.cB r20.pW x26)])) (cW .i64 x8 1) x23 x24 x25
def dI(u eh:Nat)(x7:List ag)(x8:Int)(x9:List Int)(x10 x11:Int):Option ((List ag)×aK):=match eh with
  | 0=>none
  | eh+1=>bif decide (x8 > 0) then ((p8 u ((aK.mk x9 x10 x11))).bind λr17=>(ba u r17.2 4).bind λr18=>(ba u r18.2 4).bind λr19=>(ed u r18.1 r19.1 r17.1).bind λr20=>(iz u r19.2 6).bind λr21=>bif r21.1 then ((lZ u r21.2 r20.fB).bind λr22=>lc u (λz0 z1 z2 z3 z4=>dI u eh z0 z1 z2 z3 z4) x7 x8 r22.2.fB r22.2.fI r22.2.fH r20 r22.1) else (lc u (λz0 z1 z2 z3 z4=>dI u eh z0 z1 z2 z3 z4) x7 x8 r21.2.fB r21.2.fI r21.2.fH r20 r20.fB)) else (sB u x7 x9 x10 x11)
def nX(u:Nat)(p0:aK):Option ((List ag)×aK) :=
  (ba u p0 5).bind λr1=>dI u u (([]:List ag)) r1.1 r1.2.fB r1.2.fI r1.2.fH
def ro(u:Nat)(p0:List Int):Option (World×(List ag)) :=
  (wH u p0 40).bind λr1=>(nX u r1.1).bind λr2=>some ((r1.2,r2.1))
def hZ(u:Nat)(p0:List Int):Option (List Int) :=
  (c9 (decide (((([]:List Int)).length+p0.length)*8<=140737488355328))).bind λ_=>some ((([]:List Int))++p0)
def eg(u:Nat)(p0:List Int):Option ((List Int)) :=
  (c9 (decide (0<=((p0.length:Int))) && (0 == 0 || 0 == ((p0.length:Int))))).bind λ_=>(c9 (decide (sY ((p0.length:Int))*1<=140737488355328))).bind λ_=>(c9 (decide (((zQH (sY 0) (0:Int)).length+p0.length)*1<=140737488355328))).bind λ_=>some ((zQH (sY 0) (0:Int))++p0)
def iB(u:Nat)(p0:ag):Option ag :=
  (eg u p0.fB).bind λr1=>some ((ag.mk p0.cB p0.pW r1))
def qF(u:Nat)(x9:List ag):Option ((List ag)) :=
  some x9
def ii(u gm:Nat)(x3 p0:List ag)(x4:Int):Option ((List ag)):=match gm with
  | 0=>none
  | gm+1=>bif decide (x4 < ((p0.length:Int))) then ((cN p0 x4).bind λy7=>(iB u y7).bind λr8=>(c9 (decide ((x3.length+([r8]).length)*40<=140737488355328))).bind λ_=>(λz0 z1 z2=>ii u gm z0 z1 z2) (x3++([r8])) p0 (aW .i64 x4 1)) else (qF u x3)
def mV(u:Nat)(p0:List ag):Option ((List ag)) :=
  ii u u (([]:List ag)) p0 0
def Bo(u:Nat)(p0:List ag)(s:(List ag)):Option ((List ag)):=(qF u s)
def t7(u:Nat)(p0:List ag)(y7:ag)(i_:Nat)(s:(List ag))(k_:((List ag))->Option ((List ag))):Option ((List ag)):=(iB u y7).bind λr8=>(c9 (decide ((s.length+([r8]).length)*40<=140737488355328))).bind λ_=>(λz0 z1 z2=>k_ z0) (s++([r8])) p0 (aW .i64 (i_:Int) 1)
theorem Bp(u:Nat)(p0:List ag)(s:(List ag))(k:Nat)(hn:p0.length<=9223372036854775807)(hk:p0.length < k):ii u k s p0 0=Pu.bU (Bo u p0) (t7 u p0) p0 0 s:=Pu.cK (λ(k:Nat) (s:(List ag)) (i:Int)=>ii u k s p0 i) hn (λ_ _ _=>rfl) s hk
def di(u:Nat)(p0:List bR):Option (List bR) :=
  (c9 (decide (((([]:List bR)).length+p0.length)*24<=140737488355328))).bind λ_=>some ((([]:List bR))++p0)
def dz(u:Nat)(p0:List b4):Option (List b4) :=
  (c9 (decide (((([]:List b4)).length+p0.length)*16<=140737488355328))).bind λ_=>some ((([]:List b4))++p0)
def tr(u:Nat)(p0:ah):Option ah :=
  (dz u p0.aJ).bind λr1=>some ((ah.mk p0.aO p0.aC p0.aY r1))
def pq(u:Nat)(p0:bI):Option bI :=
  (eg u p0.bZ).bind λr1=>some ((bI.mk p0.bq r1))
def cY(u:Nat)(p0:List bM):Option (List bM) :=
  (c9 (decide (((([]:List bM)).length+p0.length)*40<=140737488355328))).bind λ_=>some ((([]:List bM))++p0)
def oz(u:Nat)(p0:aH):Option aH :=
  (tr u p0.aD).bind λr1=>(pq u p0.bD).bind λr2=>(cY u p0.bj).bind λr3=>some ((aH.mk p0.gW p0.bP p0.bJ r1 r2 p0.bp r3 p0.bB))
def tu(u:Nat)(p0:dd):Option dd :=
  (eg u p0.fB).bind λr1=>some ((dd.mk p0.lx p0.Bn r1 p0.fR))
def ur(u:Nat)(r1 r2:(List Int))(p0:aB)(x11:List dd):Option aB :=
  some ((aB.mk r1 r2 p0.fR x11))
def kF(u iY:Nat)(p0:aB)(x5:Int)(r1 r2:(List Int))(x6:List dd):Option aB:=match iY with
  | 0=>none
  | iY+1=>bif decide (x5 < ((p0.fP.length:Int))) then ((cN p0.fP x5).bind λy9=>(tu u y9).bind λr10=>(c9 (decide ((x6.length+([r10]).length)*64<=140737488355328))).bind λ_=>(λz0 z1 z2 z3 z4=>kF u iY z0 z1 z2 z3 z4) p0 (aW .i64 x5 1) r1 r2 (x6++([r10]))) else (ur u r1 r2 p0 x6)
def oA(u:Nat)(p0:aB):Option aB :=
  (eg u p0.fA).bind λr1=>(eg u p0.fB).bind λr2=>kF u u p0 0 r1 r2 ([])
def DN(u:Nat)(p0:aB)(r1 r2:(List Int))(s:(List dd)):Option aB:=(ur u r1 r2 p0 s)
def xo(u:Nat)(p0:aB)(r1 r2:(List Int))(y9:dd)(i_:Nat)(s:(List dd))(k_:((List dd))->Option aB):Option aB:=(tu u y9).bind λr10=>(c9 (decide ((s.length+([r10]).length)*64<=140737488355328))).bind λ_=>(λz0 z1 z2 z3 z4=>k_ z4) p0 (aW .i64 (i_:Int) 1) r1 r2 (s++([r10]))
theorem DO(u:Nat)(p0:aB)(r1 r2:(List Int))(s:(List dd))(k:Nat)(hn:p0.fP.length<=9223372036854775807)(hk:p0.fP.length < k):kF u k p0 0 r1 r2 s=Pu.bU (DN u p0 r1 r2) (xo u p0 r1 r2) p0.fP 0 s:=Pu.cK (λ(k:Nat) (s:(List dd)) (i:Int)=>kF u k p0 i r1 r2 s) hn (λ_ _ _=>rfl) s hk
def tv(u:Nat)(p0:World)(r1:List Int)(r2:(List Int))(x13:List a9)(x22:List aH)(x31:List aB)(r3:(List ag))(r4:List bR):Option World :=
  some ((World.mk p0.fC ((cT.mk r1)) r2 x13 x22 x31 r3 r4 p0.bn))
def jC(u io:Nat)(p0:World)(x25:Int)(r1:List Int)(r2:(List Int))(x13:List a9)(x22:List aH)(x26:List aB)(r3:(List ag))(r4:List bR):Option World:=match io with
  | 0=>none
  | io+1=>bif decide (x25 < ((p0.fD.length:Int))) then ((cN p0.fD x25).bind λy29=>(oA u y29).bind λr30=>(c9 (decide ((x26.length+([r30]).length)*96<=140737488355328))).bind λ_=>(λz0 z1 z2 z3 z4 z5 z6 z7 z8=>jC u io z0 z1 z2 z3 z4 z5 z6 z7 z8) p0 (aW .i64 x25 1) r1 r2 x13 x22 (x26++([r30])) r3 r4) else (tv u p0 r1 r2 x13 x22 x26 r3 r4)
def oN(u:Nat)(p0:World)(r1:List Int)(r2:(List Int))(x13:List a9)(x22:List aH)(r3:(List ag))(r4:List bR):Option World :=
  jC u u p0 0 r1 r2 x13 x22 ([]) r3 r4
def jD(u ip:Nat)(p0:World)(x16:Int)(r1:List Int)(r2:(List Int))(x13:List a9)(x17:List aH)(r3:(List ag))(r4:List bR):Option World:=match ip with
  | 0=>none
  | ip+1=>bif decide (x16 < ((p0.fN.length:Int))) then ((cN p0.fN x16).bind λy20=>(oz u y20).bind λr21=>(c9 (decide ((x17.length+([r21]).length)*144<=140737488355328))).bind λ_=>(λz0 z1 z2 z3 z4 z5 z6 z7=>jD u ip z0 z1 z2 z3 z4 z5 z6 z7) p0 (aW .i64 x16 1) r1 r2 x13 (x17++([r21])) r3 r4) else (oN u p0 r1 r2 x13 x17 r3 r4)
def oO(u:Nat)(p0:World)(r1:List Int)(r2:(List Int))(x13:List a9)(r3:(List ag))(r4:List bR):Option World :=
  jD u u p0 0 r1 r2 x13 ([]) r3 r4
def jE(u iq:Nat)(p0:World)(x7:Int)(r1:List Int)(r2:(List Int))(x8:List a9)(r3:(List ag))(r4:List bR):Option World:=match iq with
  | 0=>none
  | iq+1=>bif decide (x7 < ((p0.bX.length:Int))) then ((cN p0.bX x7).bind λy11=>(eg u y11.fB).bind λr12=>(c9 (decide ((x8.length+([(a9.mk r12)]).length)*24<=140737488355328))).bind λ_=>(λz0 z1 z2 z3 z4 z5 z6=>jE u iq z0 z1 z2 z3 z4 z5 z6) p0 (aW .i64 x7 1) r1 r2 (x8++([(a9.mk r12)])) r3 r4) else (oO u p0 r1 r2 x8 r3 r4)
def pr(u:Nat)(p0:World):Option World :=
  (hZ u p0.fT.cf).bind λr1=>(eg u p0.ce).bind λr2=>(mV u p0.bx).bind λr3=>(di u p0.cu).bind λr4=>jE u u p0 0 r1 r2 ([]) r3 r4
def CZ(u:Nat)(p0:World)(r1:List Int)(r2:(List Int))(x13:List a9)(x22:List aH)(r3:(List ag))(r4:List bR)(s:(List aB)):Option World:=(tv u p0 r1 r2 x13 x22 s r3 r4)
def wi(u:Nat)(p0:World)(r1:List Int)(r2:(List Int))(x13:List a9)(x22:List aH)(r3:(List ag))(r4:List bR)(y29:aB)(i_:Nat)(s:(List aB))(k_:((List aB))->Option World):Option World:=(oA u y29).bind λr30=>(c9 (decide ((s.length+([r30]).length)*96<=140737488355328))).bind λ_=>(λz0 z1 z2 z3 z4 z5 z6 z7 z8=>k_ z6) p0 (aW .i64 (i_:Int) 1) r1 r2 x13 x22 (s++([r30])) r3 r4
theorem C0(u:Nat)(p0:World)(r1:List Int)(r2:(List Int))(x13:List a9)(x22:List aH)(r3:(List ag))(r4:List bR)(s:(List aB))(k:Nat)(hn:p0.fD.length<=9223372036854775807)(hk:p0.fD.length < k):jC u k p0 0 r1 r2 x13 x22 s r3 r4=Pu.bU (CZ u p0 r1 r2 x13 x22 r3 r4) (wi u p0 r1 r2 x13 x22 r3 r4) p0.fD 0 s:=Pu.cK (λ(k:Nat) (s:(List aB)) (i:Int)=>jC u k p0 i r1 r2 x13 x22 s r3 r4) hn (λ_ _ _=>rfl) s hk
def wj(u:Nat)(p0:World)(r1:List Int)(r2:(List Int))(x13:List a9)(r3:(List ag))(r4:List bR)(s:(List aH)):Option World:=(oN u p0 r1 r2 x13 s r3 r4)
def wl(u:Nat)(p0:World)(r1:List Int)(r2:(List Int))(x13:List a9)(r3:(List ag))(r4:List bR)(y20:aH)(i_:Nat)(s:(List aH))(k_:((List aH))->Option World):Option World:=(oz u y20).bind λr21=>(c9 (decide ((s.length+([r21]).length)*144<=140737488355328))).bind λ_=>(λz0 z1 z2 z3 z4 z5 z6 z7=>k_ z5) p0 (aW .i64 (i_:Int) 1) r1 r2 x13 (s++([r21])) r3 r4
theorem C1(u:Nat)(p0:World)(r1:List Int)(r2:(List Int))(x13:List a9)(r3:(List ag))(r4:List bR)(s:(List aH))(k:Nat)(hn:p0.fN.length<=9223372036854775807)(hk:p0.fN.length < k):jD u k p0 0 r1 r2 x13 s r3 r4=Pu.bU (wj u p0 r1 r2 x13 r3 r4) (wl u p0 r1 r2 x13 r3 r4) p0.fN 0 s:=Pu.cK (λ(k:Nat) (s:(List aH)) (i:Int)=>jD u k p0 i r1 r2 x13 s r3 r4) hn (λ_ _ _=>rfl) s hk
def wm(u:Nat)(p0:World)(r1:List Int)(r2:(List Int))(r3:(List ag))(r4:List bR)(s:(List a9)):Option World:=(oO u p0 r1 r2 s r3 r4)
def wn(u:Nat)(p0:World)(r1:List Int)(r2:(List Int))(r3:(List ag))(r4:List bR)(y11:a9)(i_:Nat)(s:(List a9))(k_:((List a9))->Option World):Option World:=(eg u y11.fB).bind λr12=>(c9 (decide ((s.length+([(a9.mk r12)]).length)*24<=140737488355328))).bind λ_=>(λz0 z1 z2 z3 z4 z5 z6=>k_ z4) p0 (aW .i64 (i_:Int) 1) r1 r2 (s++([(a9.mk r12)])) r3 r4
theorem C2(u:Nat)(p0:World)(r1:List Int)(r2:(List Int))(r3:(List ag))(r4:List bR)(s:(List a9))(k:Nat)(hn:p0.bX.length<=9223372036854775807)(hk:p0.bX.length < k):jE u k p0 0 r1 r2 s r3 r4=Pu.bU (wm u p0 r1 r2 r3 r4) (wn u p0 r1 r2 r3 r4) p0.bX 0 s:=Pu.cK (λ(k:Nat) (s:(List a9)) (i:Int)=>jE u k p0 i r1 r2 s r3 r4) hn (λ_ _ _=>rfl) s hk
def df(u:Nat)(p0 p1 p2:Int):Option Bool :=
  bif decide (p0>=p1) then (some (decide (p0<=p2))) else (some false)
def rZ(u:Nat)  : Option (Int×Int×Bool) :=
  some ((0,0,false))
def fy(u jN:Nat)(p0:List Int)(p1 x3:Int)(p2 x4:Int):Option (Int×Int×Bool):=match jN with
  | 0=>none
  | jN+1=>bif decide (x4 < p2) then ((df u p1 0 (cW .i64 (cW .i64 ((p0.length:Int)) 1) x4)).bind λr7=>bif !r7 then (some ((0,0,false))) else ((cN p0 (aW .i64 p1 x4)).bind λy8=>(c9 (decide (0<=(eB .i64 7 x4)))).bind λ_=>bif decide ((IntKind.wrap .i64 y8) < 128) then (bif x4 == 0 then (some ((qP .i64 x3 (gl .i64 (eH .i64 (IntKind.wrap .i64 y8) 127) (eB .i64 7 x4)),aW .i64 (aW .i64 p1 x4) 1,true))) else (some ((qP .i64 x3 (gl .i64 (eH .i64 (IntKind.wrap .i64 y8) 127) (eB .i64 7 x4)),aW .i64 (aW .i64 p1 x4) 1,decide ((IntKind.wrap .i64 y8) > 0))))) else ((λz0 z1 z2 z3 z4=>fy u jN z0 z1 z2 z3 z4) p0 p1 (qP .i64 x3 (gl .i64 (eH .i64 (IntKind.wrap .i64 y8) 127) (eB .i64 7 x4))) p2 (aW .i64 x4 1)))) else (rZ u)
def nC(u:Nat)(p0:List Int)(p1 p2:Int):Option (Int×Int×Bool) :=
  fy u u p0 p1 0 p2 0
def Fe(u:Nat)(p0:List Int)(p1 p2 s:Int):Option (Int×Int×Bool):=(rZ u)
def Ff(u:Nat)(p0:List Int)(p1 p2:Int)(i_:Nat)(s:Int)(k_:Int->Option (Int×Int×Bool)):Option (Int×Int×Bool):=(df u p1 0 (cW .i64 (cW .i64 ((p0.length:Int)) 1) (i_:Int))).bind λr7=>bif !r7 then (some ((0,0,false))) else ((cN p0 (aW .i64 p1 (i_:Int))).bind λy8=>(c9 (decide (0<=(eB .i64 7 (i_:Int))))).bind λ_=>bif decide ((IntKind.wrap .i64 y8) < 128) then (bif (i_:Int) == 0 then (some ((qP .i64 s (gl .i64 (eH .i64 (IntKind.wrap .i64 y8) 127) (eB .i64 7 (i_:Int))),aW .i64 (aW .i64 p1 (i_:Int)) 1,true))) else (some ((qP .i64 s (gl .i64 (eH .i64 (IntKind.wrap .i64 y8) 127) (eB .i64 7 (i_:Int))),aW .i64 (aW .i64 p1 (i_:Int)) 1,decide ((IntKind.wrap .i64 y8) > 0))))) else ((λz0 z1 z2 z3 z4=>k_ z2) p0 p1 (qP .i64 s (gl .i64 (eH .i64 (IntKind.wrap .i64 y8) 127) (eB .i64 7 (i_:Int)))) p2 (aW .i64 (i_:Int) 1)))
theorem RT(u:Nat)(p0:List Int)(p1 p2 s:Int)(k:Nat)(hn:(p2:Int)<=9223372036854775807)(hk:sY (p2) < k):fy u k p0 p1 s p2 0=Pu.n5 (Fe u p0 p1 p2) (Ff u p0 p1 p2) (sY (p2)) 0 s:=Pu.pJ (λ(k:Nat) (s i:Int)=>fy u k p0 p1 s p2 i) hn (λ_ _ _=>rfl) s hk
def pt(u:Nat)(r1:Int×Int×Bool)(x2:Bool):Option (Int×Int×Bool) :=
  bif x2 then (some ((0,0,false))) else (some ((r1.1,r1.2.1,true)))
def mi(u:Nat)(p0:List Int)(p1:Int):Option (Int×Int×Bool) :=
  (nC u p0 p1 6).bind λr1=>bif !r1.2.2 then (pt u r1 true) else (pt u r1 (decide (r1.1 > 1000000000000)))
def mW(u:Nat)(x11:Int)(x12:List Int):Option ((List Int)×Int×Bool) :=
  some ((x12,x11,true))
def d8(u er:Nat)(p0:List Int)(x4:Int)(x5:List Int)(p2 x6:Int):Option ((List Int)×Int×Bool):=match er with
  | 0=>none
  | er+1=>bif decide (x6 < p2) then ((mi u p0 x4).bind λr10=>bif !r10.2.2 then (some (([],0,false))) else ((c9 (decide ((x5.length+(([r10.1]:List Int)).length)*8<=140737488355328))).bind λ_=>(λz0 z1 z2 z3 z4=>d8 u er z0 z1 z2 z3 z4) p0 r10.2.1 (x5++(([r10.1]:List Int))) p2 (aW .i64 x6 1))) else (mW u x4 x5)
def jc(u:Nat)(p0:List Int)(p1 p2:Int):Option ((List Int)×Int×Bool) :=
  d8 u u p0 p1 (([]:List Int)) p2 0
def DP(u:Nat)(p0:List Int)(p2:Int)(s:Int×(List Int)):Option ((List Int)×Int×Bool):=(mW u s.1 s.2)
def DQ(u:Nat)(p0:List Int)(p2:Int)(i_:Nat)(s:Int×(List Int))(k_:(Int×(List Int))->Option ((List Int)×Int×Bool)):Option ((List Int)×Int×Bool):=(mi u p0 s.1).bind λr10=>bif !r10.2.2 then (some (([],0,false))) else ((c9 (decide ((s.2.length+(([r10.1]:List Int)).length)*8<=140737488355328))).bind λ_=>(λz0 z1 z2 z3 z4=>k_ (z1,z2)) p0 r10.2.1 (s.2++(([r10.1]:List Int))) p2 (aW .i64 (i_:Int) 1))
theorem QH(u:Nat)(p0:List Int)(p2:Int)(s:Int×(List Int))(k:Nat)(hn:(p2:Int)<=9223372036854775807)(hk:sY (p2) < k):d8 u k p0 s.1 s.2 p2 0=Pu.n5 (DP u p0 p2) (DQ u p0 p2) (sY (p2)) 0 s:=Pu.pJ (λ(k:Nat) (s:Int×(List Int)) (i:Int)=>d8 u k p0 s.1 s.2 p2 i) hn (λ_ _ _=>rfl) s hk
def sK(u:Nat)(p0 p1:Int):Option Bool :=
  (df u p0 2 6).bind λr1=>bif r1 then ((df u p1 0 (eB .i64 40 p0)).bind λr2=>some r2) else (some false)
def se(u:Nat)(p0 p1:Int)(x3:Bool):Option Int :=
  bif x3 then (some 0) else ((c9 (!(p1 == 0))).bind λ_=>some (QY .i64 (cW .i64 (aW .i64 p0 p1) 1) p1))
def tw(u:Nat)(p0 p1:Int):Option Int :=
  (df u p0 0 1000000000000).bind λr1=>bif !r1 then (se u p0 p1 true) else ((df u p1 1 1000000000000).bind λr2=>se u p0 p1 (!r2))
def pu(u:Nat)(p0 p1:Int):Option Int :=
  (sK u p0 p1).bind λr1=>bif !r1 then (some 0) else ((tw u p1 p0).bind λr2=>some r2)
def vO(u:Nat)(x17:List Int):Option ((List Int)×Bool) :=
  some ((x17,true))
def lP(u jM:Nat)(p0 x5:Int)(x11:List Int)(x12:Int):Option ((List Int)×Bool):=match jM with
  | 0=>none
  | jM+1=>bif decide (x12 < (((zQH (sY x5) (0:Int)).length:Int))) then ((c9 (decide (0<=(eB .i64 8 (cW .i64 (cW .i64 x5 1) x12))))).bind λ_=>(cN x11 x12).bind λy16=>(λz0 z1 z2 z3=>lP u jM z0 z1 z2 z3) p0 x5 (x11.set (sY x12) (IntKind.wrap .u8 (lB .i64 p0 (eB .i64 8 (cW .i64 (cW .i64 x5 1) x12))))) (aW .i64 x12 1)) else (vO u x11)
def lQ(u:Nat)(p0 x5:Int)(x6:Bool):Option ((List Int)×Bool) :=
  bif x6 then (some (([],false))) else ((c9 (decide (0<=x5) && (x5 == 0 || x5 == x5))).bind λ_=>(c9 (decide (sY x5*1<=140737488355328))).bind λ_=>lP u u p0 x5 (zQH (sY x5) (0:Int)) 0)
def nY(u:Nat)(p0 x5:Int):Option ((List Int)×Bool) :=
  bif decide (p0 < 1) then (lQ u p0 x5 true) else ((c9 (decide (0<=(eB .i64 8 x5)))).bind λ_=>lQ u p0 x5 ((lB .i64 p0 (eB .i64 8 x5)) != 1))
def nZ(u:Nat)(GC:Int->Int->Option ((List Int)×Bool))(p0 x2:Int)(x4:Bool):Option ((List Int)×Bool) :=
  bif x4 then (GC p0 (aW .i64 x2 1)) else (nY u p0 x2)
def gC(u gc:Nat)(p0 x2:Int):Option ((List Int)×Bool):=match gc with
  | 0=>none
  | gc+1=>bif decide (x2 < 6) then ((c9 (decide (0<=(eB .i64 8 x2)))).bind λ_=>nZ u (λz0 z1=>gC u gc z0 z1) p0 x2 (decide ((lB .i64 p0 (eB .i64 8 x2)) > 1))) else (nZ u (λz0 z1=>gC u gc z0 z1) p0 x2 false)
def mj(u:Nat)(p0:Int):Option ((List Int)×Bool) :=
  gC u u p0 0
def Fg(u:Nat)(p0 x5:Int)(s:(List Int)):Option ((List Int)×Bool):=(vO u s)
def yp(u:Nat)(p0 x5:Int)(i_:Nat)(s:(List Int))(k_:((List Int))->Option ((List Int)×Bool)):Option ((List Int)×Bool):=(c9 (decide (0<=(eB .i64 8 (cW .i64 (cW .i64 x5 1) (i_:Int)))))).bind λ_=>(cN s (i_:Int)).bind λy16=>(λz0 z1 z2 z3=>k_ z2) p0 x5 (s.set (sY (i_:Int)) (IntKind.wrap .u8 (lB .i64 p0 (eB .i64 8 (cW .i64 (cW .i64 x5 1) (i_:Int)))))) (aW .i64 (i_:Int) 1)
theorem Fh(u:Nat)(p0 x5:Int)(s:(List Int))(k:Nat)(hn:((((zQH (sY x5) (0:Int)).length:Int)):Int)<=9223372036854775807)(hk:sY ((((zQH (sY x5) (0:Int)).length:Int))) < k):lP u k p0 x5 s 0=Pu.n5 (Fg u p0 x5) (yp u p0 x5) (sY ((((zQH (sY x5) (0:Int)).length:Int)))) 0 s:=Pu.pJ (λ(k:Nat) (s:(List Int)) (i:Int)=>lP u k p0 x5 s i) hn (λ_ _ _=>rfl) s hk
def wT(u:Nat)(p0 p1:Int):Option Int :=
  (df u p1 1 1000000000000).bind λr1=>bif !r1 then (some 0) else ((c9 (!(p1 == 0))).bind λ_=>(c9 (!(p1 == 0))).bind λ_=>some (m4 .i64 (aW .i64 (m4 .i64 p0 p1) p1) p1))
def zJ(u:Nat)(p0 p1:Int):Option Int :=
  (wT u p0 251).bind λr1=>(wT u p1 251).bind λr2=>some (aW .i64 r1 (eB .i64 251 r2))
def pv(u:Nat)(x11 x12:Int):Option Int :=
  (zJ u x11 x12).bind λr13=>some r13
def mX(u kR:Nat)(x4 x5:Int)(p0:List Int)(x6:Int):Option Int:=match kR with
  | 0=>none
  | kR+1=>bif decide (x6 < ((p0.length:Int))) then ((cN p0 x6).bind λy10=>(λz0 z1 z2 z3=>mX u kR z0 z1 z2 z3) (m4 .i64 (aW .i64 x4 (IntKind.wrap .i64 y10)) 251) (m4 .i64 (aW .i64 x5 (m4 .i64 (aW .i64 x4 (IntKind.wrap .i64 y10)) 251)) 251) p0 (aW .i64 x6 1)) else (pv u x4 x5)
def nk(u:Nat)(p0:List Int):Option Int :=
  mX u u 0 0 p0 0
def zK(u:Nat)(p0:List Int)(s:Int×Int):Option Int:=(pv u s.1 s.2)
def ut(u:Nat)(p0:List Int)(y10:Int)(i_:Nat)(s:Int×Int)(k_:(Int×Int)->Option Int):Option Int:=(λz0 z1 z2 z3=>k_ (z0,z1)) (m4 .i64 (aW .i64 s.1 (IntKind.wrap .i64 y10)) 251) (m4 .i64 (aW .i64 s.2 (m4 .i64 (aW .i64 s.1 (IntKind.wrap .i64 y10)) 251)) 251) p0 (aW .i64 (i_:Int) 1)
theorem GY(u:Nat)(p0:List Int)(s:Int×Int)(k:Nat)(hn:p0.length<=9223372036854775807)(hk:p0.length < k):mX u k s.1 s.2 p0 0=Pu.bU (zK u p0) (ut u p0) p0 0 s:=Pu.cK (λ(k:Nat) (s:Int×Int) (i:Int)=>mX u k s.1 s.2 p0 i) hn (λ_ _ _=>rfl) s hk
def rp(u:Nat)(p0:List Int)(x8:Int):Option b4 :=
  (nk u p0).bind λr9=>some ((b4.mk r9 x8))
def oB(u lU:Nat)(p0:List Int)(x3 x4:Int):Option b4:=match lU with
  | 0=>none
  | lU+1=>bif decide (x4 < ((p0.length:Int))) then ((cN p0 x4).bind λy7=>(λz0 z1 z2=>oB u lU z0 z1 z2) p0 (qP .i64 (gl .i64 x3 8) (IntKind.wrap .i64 y7)) (aW .i64 x4 1)) else (rp u p0 x3)
def xp(u:Nat)(p0:List Int):Option b4 :=
  bif decide (((p0.length:Int)) > 6) then (some ((b4.mk 0 0))) else (oB u u p0 1 0)
def AY(u:Nat)(p0:List Int)(s:Int):Option b4:=(rp u p0 s)
def vP(u:Nat)(p0:List Int)(y7:Int)(i_:Nat)(s:Int)(k_:Int->Option b4):Option b4:=(λz0 z1 z2=>k_ z1) p0 (qP .i64 (gl .i64 s 8) (IntKind.wrap .i64 y7)) (aW .i64 (i_:Int) 1)
theorem IR(u:Nat)(p0:List Int)(s:Int)(k:Nat)(hn:p0.length<=9223372036854775807)(hk:p0.length < k):oB u k p0 s 0=Pu.bU (AY u p0) (vP u p0) p0 0 s:=Pu.cK (λ(k:Nat) (s i:Int)=>oB u k p0 s i) hn (λ_ _ _=>rfl) s hk
def lf(u:Nat)(p0:ah):Option Bool :=
  bif p0.aO == 0 then (bif p0.aC == 0 then (bif p0.aY == 0 then (some (((p0.aJ.length:Int)) == 0)) else (some false)) else (some false)) else (some false)
def sL(u:Nat)(p0 p1 p2:Int):Option (Int×Int) :=
  (pu u p0 p1).bind λr1=>(df u p2 0 (cW .i64 r1 1)).bind λr2=>bif !r2 then (some ((0,0))) else (some ((eB .i64 p2 p0,if (cW .i64 p1 (eB .i64 p2 p0)) < p0 then (cW .i64 p1 (eB .i64 p2 p0)) else p0)))
def yZ(u:Nat)  : Option Bool :=
  some true
def ku(u:Nat)(JU:ah->Int->Option Bool)(p0:ah)(x7:Int)(x13:Bool):Option Bool :=
  bif x13 then (some false) else (JU p0 (aW .i64 x7 1))
def jd(u gE:Nat)(p0:ah)(x7:Int):Option Bool:=match gE with
  | 0=>none
  | gE+1=>bif decide (x7 < ((p0.aJ.length:Int))) then ((cN p0.aJ x7).bind λy9=>(mj u y9.fS).bind λr10=>(sL u p0.aC p0.aY x7).bind λr11=>bif !r10.2 then (ku u (λz0 z1=>jd u gE z0 z1) p0 x7 true) else (bif ((r10.1.length:Int)) != r11.2 then (ku u (λz0 z1=>jd u gE z0 z1) p0 x7 true) else ((nk u r10.1).bind λr12=>ku u (λz0 z1=>jd u gE z0 z1) p0 x7 (r12 != y9.fW)))) else (yZ u)
def rq(u:Nat)(x5:Bool)(p0:ah):Option Bool :=
  bif x5 then (some false) else (jd u u p0 0)
def sC(u:Nat)(p0:ah):Option Bool :=
  (lf u p0).bind λr1=>bif r1 then (some true) else ((df u p0.aO 1 1000000).bind λr2=>bif !r2 then (rq u true p0) else ((sK u p0.aC p0.aY).bind λr3=>bif !r3 then (rq u true p0) else ((pu u p0.aC p0.aY).bind λr4=>rq u (((p0.aJ.length:Int)) != r4) p0)))
def AZ(u:Nat)(p0:ah)(s:Unit):Option Bool:=(yZ u)
def vQ(u:Nat)(p0:ah)(y9:b4)(i_:Nat)(s:Unit)(k_:Unit->Option Bool):Option Bool:=(mj u y9.fS).bind λr10=>(sL u p0.aC p0.aY (i_:Int)).bind λr11=>bif !r10.2 then (ku u (λz0 z1=>k_ ()) p0 (i_:Int) true) else (bif ((r10.1.length:Int)) != r11.2 then (ku u (λz0 z1=>k_ ()) p0 (i_:Int) true) else ((nk u r10.1).bind λr12=>ku u (λz0 z1=>k_ ()) p0 (i_:Int) (r12 != y9.fW)))
theorem IS(u:Nat)(p0:ah)(s:Unit)(k:Nat)(hn:p0.aJ.length<=9223372036854775807)(hk:p0.aJ.length < k):jd u k p0 0=Pu.bU (AZ u p0) (vQ u p0) p0.aJ 0 s:=Pu.cK (λ(k:Nat) (s:Unit) (i:Int)=>jd u k p0 i) hn (λ_ _ _=>rfl) s hk
def pz(u:Nat)(x19 y2:Int)(y3 y4:Int)(x20:List b4):Option (ah×Int×Bool) :=
  (sC u ((ah.mk y2 y3 y4 x20))).bind λr21=>bif !r21 then (some (((ah.mk 0 0 0 ([])),0,false))) else (some (((ah.mk y2 y3 y4 x20),x19,true)))
def lg(u:Nat)(Ia:(List Int)->Int->Int->Int->Int->Int->Int->(List b4)->Option (ah×Int×Bool))(p0:List Int)(x9:Int)(r15:Int×Int×Bool)(r16:(List Int)×Bool)(r5 x10:Int)(x17:Bool)(y2 y3 y4:Int)(x11:List b4):Option (ah×Int×Bool) :=
  bif x17 then (some (((ah.mk 0 0 0 ([])),0,false))) else ((xp u r16.1).bind λr18=>(c9 (decide ((x11.length+([r18]).length)*16<=140737488355328))).bind λ_=>Ia p0 r15.2.1 r5 (aW .i64 x10 1) y2 y3 y4 (x11++([r18])))
def dA(u du:Nat)(p0:List Int)(x9 r5:Int)(x10 y2:Int)(y3 y4:Int)(x11:List b4):Option (ah×Int×Bool):=match du with
  | 0=>none
  | du+1=>bif decide (x10 < r5) then ((nC u p0 x9 8).bind λr15=>(mj u r15.1).bind λr16=>bif !r15.2.2 then (lg u (λz0 z1 z2 z3 z4 z5 z6 z7=>dA u du z0 z1 z2 z3 z4 z5 z6 z7) p0 x9 r15 r16 r5 x10 true y2 y3 y4 x11) else (lg u (λz0 z1 z2 z3 z4 z5 z6 z7=>dA u du z0 z1 z2 z3 z4 z5 z6 z7) p0 x9 r15 r16 r5 x10 (!r16.2) y2 y3 y4 x11)) else (pz u x9 y2 y3 y4 x11)
def pA(u:Nat)(p0:List Int)(p1:Int):Option (ah×Int×Bool) :=
  (jc u p0 p1 3).bind λr1=>bif !r1.2.2 then (some (((ah.mk 0 0 0 ([])),0,false))) else ((cN r1.1 0).bind λy2=>(cN r1.1 1).bind λy3=>(cN r1.1 2).bind λy4=>(pu u y3 y4).bind λr5=>dA u u p0 r1.2.1 r5 0 y2 y3 y4 ([]))
def GZ(u:Nat)(p0:List Int)(r5 y2:Int)(y3 y4:Int)(s:Int×(List b4)):Option (ah×Int×Bool):=(pz u s.1 y2 y3 y4 s.2)
def G0(u:Nat)(p0:List Int)(r5 y2:Int)(y3 y4:Int)(i_:Nat)(s:Int×(List b4))(k_:(Int×(List b4))->Option (ah×Int×Bool)):Option (ah×Int×Bool):=(nC u p0 s.1 8).bind λr15=>(mj u r15.1).bind λr16=>bif !r15.2.2 then (lg u (λz0 z1 z2 z3 z4 z5 z6 z7=>k_ (z1,z7)) p0 s.1 r15 r16 r5 (i_:Int) true y2 y3 y4 s.2) else (lg u (λz0 z1 z2 z3 z4 z5 z6 z7=>k_ (z1,z7)) p0 s.1 r15 r16 r5 (i_:Int) (!r16.2) y2 y3 y4 s.2)
theorem Sw(u:Nat)(p0:List Int)(r5 y2:Int)(y3 y4:Int)(s:Int×(List b4))(k:Nat)(hn:(r5:Int)<=9223372036854775807)(hk:sY (r5) < k):dA u k p0 s.1 r5 0 y2 y3 y4 s.2=Pu.n5 (GZ u p0 r5 y2 y3 y4) (G0 u p0 r5 y2 y3 y4) (sY (r5)) 0 s:=Pu.pJ (λ(k:Nat) (s:Int×(List b4)) (i:Int)=>dA u k p0 s.1 r5 i y2 y3 y4 s.2) hn (λ_ _ _=>rfl) s hk
def oC(u:Nat)(p0:List Int)(p1 p2:Int)(x3:Bool):Option ((List Int)×Bool) :=
  bif x3 then (some (([],false))) else ((c9 (cE p1 (aW .i64 p1 p2) p0.length)).bind λ_=>(eg u ((p0.take (sY (aW .i64 p1 p2))).drop (sY p1))).bind λr5=>some ((r5,true)))
def pB(u:Nat)(p0:List Int)(p1 p2:Int):Option ((List Int)×Bool) :=
  (df u p1 0 ((p0.length:Int))).bind λr1=>bif !r1 then (oC u p0 p1 p2 true) else ((df u p2 0 (cW .i64 ((p0.length:Int)) p1)).bind λr2=>oC u p0 p1 p2 (!r2))
def n4(u:Nat)(p0:List Int)(r1:Int×Int×Bool)(x2:Bool):Option ((List Int)×Int×Bool) :=
  bif x2 then (some (([],0,false))) else ((pB u p0 r1.2.1 r1.1).bind λr3=>bif !r3.2 then (some (([],0,false))) else (some ((r3.1,aW .i64 r1.2.1 r1.1,true))))
def nD(u:Nat)(p0:List Int)(p1 p2:Int):Option ((List Int)×Int×Bool) :=
  (mi u p0 p1).bind λr1=>bif !r1.2.2 then (n4 u p0 r1 true) else (n4 u p0 r1 (decide (r1.1 > p2)))
def iC(u:Nat)(x13:Bool)(p1 x14:Int)(x15 x16 x17:Int)(x18:List b4)(x19 x20 x21:Int)(x22:List Int):Option (dY×Bool) :=
  some (((dY.mk p1 x14 ((ah.mk x15 x16 x17 x18)) x19 x20 x21 x22),x13))
def ep(u:Nat)(p0:List Int)(p1 p2:Int):Option (dY×Bool) :=
  bif p1 == 1 then ((pA u p0 p2).bind λr1=>iC u r1.2.2 p1 0 r1.1.aO r1.1.aC r1.1.aY r1.1.aJ 0 0 0 ([])) else (bif p1 == 2 then ((jc u p0 p2 5).bind λr2=>bif !r2.2.2 then (some (((dY.mk 0 0 ((ah.mk 0 0 0 ([]))) 0 0 0 ([])),false))) else ((cN r2.1 0).bind λy3=>(cN r2.1 1).bind λy4=>(cN r2.1 2).bind λy5=>(cN r2.1 3).bind λy6=>(cN r2.1 4).bind λy7=>iC u true p1 y3 0 0 0 ([]) (qP .i64 y4 (gl .i64 y5 20)) (qP .i64 y6 (gl .i64 y7 20)) 0 ([]))) else (bif p1 == 3 then ((jc u p0 p2 2).bind λr8=>bif !r8.2.2 then (some (((dY.mk 0 0 ((ah.mk 0 0 0 ([]))) 0 0 0 ([])),false))) else ((cN r8.1 0).bind λy9=>(cN r8.1 1).bind λy10=>(nD u p0 r8.2.1 6).bind λr11=>iC u r11.2.2 p1 y9 0 0 0 ([]) 0 0 y10 r11.1)) else (bif p1 == 4 then ((mi u p0 p2).bind λr12=>iC u r12.2.2 p1 r12.1 0 0 0 ([]) 0 0 0 ([])) else (iC u false p1 0 0 0 0 ([]) 0 0 0 ([])))))
def iP(u:Nat)(p0:dY)(p1 p2 p3:Bool):Option Bool :=
  bif p1 then (bif p2 then (bif p3 then (some true) else (bif p0.fI == 0 then (some (((p0.fB.length:Int)) == 0)) else (some false))) else (bif p0.bQ == 0 then (bif p0.bV == 0 then (bif p3 then (some true) else (bif p0.fI == 0 then (some (((p0.fB.length:Int)) == 0)) else (some false))) else (some false)) else (some false))) else ((lf u p0.aD).bind λr1=>bif r1 then (bif p2 then (bif p3 then (some true) else (bif p0.fI == 0 then (some (((p0.fB.length:Int)) == 0)) else (some false))) else (bif p0.bQ == 0 then (bif p0.bV == 0 then (bif p3 then (some true) else (bif p0.fI == 0 then (some (((p0.fB.length:Int)) == 0)) else (some false))) else (some false)) else (some false))) else (some false))
def xq(u:Nat)(p0:Int):Option Bool :=
  (df u p0 0 1000000).bind λr1=>some r1
def uv(u:Nat)(p0:Int):Option Bool :=
  (df u p0 0 1099511627775).bind λr1=>some r1
def wI(u:Nat)(p0:Int):Option Bool :=
  (df u p0 0 39).bind λr1=>some r1
def uw(u:Nat)(p0:dY):Option Bool :=
  bif p0.bt == 1 then ((sC u p0.aD).bind λr1=>bif r1 then (bif p0.aD.aO != 0 then (bif p0.aO == 0 then ((iP u p0 true false false).bind λr2=>some r2) else (some false)) else (some false)) else (some false)) else (bif p0.bt == 2 then ((xq u p0.aO).bind λr3=>bif r3 then ((uv u p0.bQ).bind λr4=>bif r4 then ((uv u p0.bV).bind λr5=>bif r5 then ((iP u p0 false true false).bind λr6=>some r6) else (some false)) else (some false)) else (some false)) else (bif p0.bt == 3 then ((df u p0.aO 1 1000000).bind λr7=>bif r7 then ((wI u p0.fI).bind λr8=>bif r8 then ((df u ((p0.fB.length:Int)) 1 6).bind λr9=>bif r9 then ((iP u p0 false false true).bind λr10=>some r10) else (some false)) else (some false)) else (some false)) else (bif p0.bt == 4 then ((xq u p0.aO).bind λr11=>bif r11 then ((iP u p0 false false false).bind λr12=>some r12) else (some false)) else (some false))))
def oP(u:Nat)(x7:List Int)(x8:Int):Option ((List Int)) :=
  (c9 (decide ((x7.length+(([IntKind.wrap .u8 x8]:List Int)).length)*1<=140737488355328))).bind λ_=>some (x7++(([IntKind.wrap .u8 x8]:List Int)))
def ia(u im:Nat)(x3:List Int)(x4:Int):Option ((List Int)):=match im with
  | 0=>none
  | im+1=>bif decide (x4>=128) then ((c9 (decide ((x3.length+(([qP .u8 (IntKind.wrap .u8 x4) 128]:List Int)).length)*1<=140737488355328))).bind λ_=>(λz0 z1=>ia u im z0 z1) (x3++(([qP .u8 (IntKind.wrap .u8 x4) 128]:List Int))) (lB .i64 x4 7)) else (oP u x3 x4)
def mY(u:Nat)(p0:List Int)(p1:Int):Option ((List Int)) :=
  ia u u p0 p1
def dU(u:Nat)(p0:List Int)(p1:Int):Option ((List Int)) :=
  (eg u p0).bind λr1=>(df u p1 0 1000000000000).bind λr2=>bif !r2 then (some r1) else ((mY u r1 p1).bind λr3=>some r3)
def xr(u:Nat)(x14:List Int):Option ((List Int)) :=
  some x14
def mZ(u kQ:Nat)(x8:List Int)(p1:ah)(x9:Int):Option ((List Int)):=match kQ with
  | 0=>none
  | kQ+1=>bif decide (x9 < ((p1.aJ.length:Int))) then ((cN p1.aJ x9).bind λy12=>(mY u x8 y12.fS).bind λr13=>(λz0 z1 z2=>mZ u kQ z0 z1 z2) r13 p1 (aW .i64 x9 1)) else (xr u x8)
def vp(u:Nat)(p0:List Int)(p1:ah):Option ((List Int)) :=
  (sC u p1).bind λr1=>bif !r1 then ((eg u p0).bind λr2=>some r2) else ((dU u p0 p1.aO).bind λr3=>(dU u r3 p1.aC).bind λr4=>(dU u r4 p1.aY).bind λr5=>mZ u u r5 p1 0)
def zL(u:Nat)(p1:ah)(s:(List Int)):Option ((List Int)):=(xr u s)
def ux(u:Nat)(p1:ah)(y12:b4)(i_:Nat)(s:(List Int))(k_:((List Int))->Option ((List Int))):Option ((List Int)):=(mY u s y12.fS).bind λr13=>(λz0 z1 z2=>k_ z0) r13 p1 (aW .i64 (i_:Int) 1)
theorem G1(u:Nat)(p1:ah)(s:(List Int))(k:Nat)(hn:p1.aJ.length<=9223372036854775807)(hk:p1.aJ.length < k):mZ u k s p1 0=Pu.bU (zL u p1) (ux u p1) p1.aJ 0 s:=Pu.cK (λ(k:Nat) (s:(List Int)) (i:Int)=>mZ u k s p1 i) hn (λ_ _ _=>rfl) s hk
def vq(u:Nat)(p0:List Int)(p1:Int):Option ((List Int)) :=
  (dU u p0 (eH .i64 p1 1048575)).bind λr1=>(dU u r1 (lB .i64 p1 20)).bind λr2=>some r2
def wJ(u:Nat)(p0 p1:List Int):Option ((List Int)) :=
  (dU u p0 ((p1.length:Int))).bind λr1=>(c9 (decide ((r1.length+p1.length)*1<=140737488355328))).bind λ_=>some (r1++p1)
def jp(u:Nat)(x11:List Int):Option ((List Int)) :=
  (nk u x11).bind λr12=>(dU u x11 r12).bind λr13=>some r13
def vt(u:Nat)(p0:dY):Option ((List Int)) :=
  (uw u p0).bind λr1=>bif !r1 then (some ([])) else ((dU u ([]) p0.bt).bind λr2=>bif p0.bt == 1 then ((vp u r2 p0.aD).bind λr3=>jp u r3) else (bif p0.bt == 2 then ((dU u r2 p0.aO).bind λr4=>(vq u r4 p0.bQ).bind λr5=>(vq u r5 p0.bV).bind λr6=>jp u r6) else (bif p0.bt == 3 then ((dU u r2 p0.aO).bind λr7=>(dU u r7 p0.fI).bind λr8=>(wJ u r8 p0.fB).bind λr9=>jp u r9) else (bif p0.bt == 4 then ((dU u r2 p0.aO).bind λr10=>jp u r10) else (jp u r2)))))
def BF(u:Nat)(p0 p1:List Int):Option Bool :=
  some ((strOfNums p0).toList == (strOfNums p1).toList)
def tx(u:Nat)(p0 p1:List Int):Option Bool :=
  (BF u p0 p1).bind λr1=>some r1
def m0(u:Nat)(x7:Bool)(r3:dY×Bool):Option (dY×Bool) :=
  bif x7 then (some (((dY.mk 0 0 ((ah.mk 0 0 0 ([]))) 0 0 0 ([])),false))) else (some ((r3.1,true)))
def pC(u:Nat)(p0:List Int)(r1:Int×Int×Bool)(x2:Bool):Option (dY×Bool) :=
  bif x2 then (some (((dY.mk 0 0 ((ah.mk 0 0 0 ([]))) 0 0 0 ([])),false))) else ((ep u p0 r1.1 r1.2.1).bind λr3=>bif !r3.2 then (m0 u true r3) else ((uw u r3.1).bind λr4=>bif !r4 then (m0 u true r3) else ((vt u r3.1).bind λr5=>(tx u r5 p0).bind λr6=>m0 u (!r6) r3)))
def kv(u:Nat)(p0:List Int):Option (dY×Bool) :=
  (mi u p0 0).bind λr1=>bif !r1.2.2 then (pC u p0 r1 true) else (pC u p0 r1 (decide (((p0.length:Int)) > 400)))
def ij(u:Nat)(lA:(List ag)->Int->World->(List ag)->(List bR)->Int->Option World)(p1:List ag)(x5:Int)(p0:World)(x18:List ag)(x19:List bR)(x20:Int):Option World :=
  lA p1 (aW .i64 x5 1) p0 x18 x19 x20
def eK(u:Nat)(lA:(List ag)->Int->World->(List ag)->(List bR)->Int->Option World)(p1:List ag)(x5:Int)(x17:Bool)(p0:World)(x6:List ag)(r14:ag)(x7:List bR)(x8:Int)(y13:ag)(r16:dY×Bool):Option World :=
  bif x17 then ((c9 (decide ((x7.length+([(bR.mk y13.cB y13.pW r16.1.fI)]).length)*24<=140737488355328))).bind λ_=>ij u lA p1 x5 p0 (x6++([r14])) (x7++([(bR.mk y13.cB y13.pW r16.1.fI)])) x8) else (ij u lA p1 x5 p0 (x6++([r14])) x7 x8)
def cy(u cM:Nat)(p1:List ag)(x5:Int)(p0:World)(x6:List ag)(x7:List bR)(x8:Int):Option World:=match cM with
  | 0=>none
  | cM+1=>bif decide (x5 < ((p1.length:Int))) then ((cN p1 x5).bind λy13=>bif decide (((x6.length:Int))>=400) then (ij u (λz0 z1 z2 z3 z4 z5=>cy u cM z0 z1 z2 z3 z4 z5) p1 x5 p0 x6 x7 (aW .i64 x8 1)) else ((iB u y13).bind λr14=>(c9 (decide ((x6.length+([r14]).length)*40<=140737488355328))).bind λ_=>(kv u y13.fB).bind λr16=>bif r16.2 then (bif r16.1.bt == 3 then (eK u (λz0 z1 z2 z3 z4 z5=>cy u cM z0 z1 z2 z3 z4 z5) p1 x5 (decide (((x7.length:Int)) < 3000)) p0 x6 r14 x7 x8 y13 r16) else (eK u (λz0 z1 z2 z3 z4 z5=>cy u cM z0 z1 z2 z3 z4 z5) p1 x5 false p0 x6 r14 x7 x8 y13 r16)) else (eK u (λz0 z1 z2 z3 z4 z5=>cy u cM z0 z1 z2 z3 z4 z5) p1 x5 false p0 x6 r14 x7 x8 y13 r16))) else (some ((World.mk p0.fC p0.fT p0.ce p0.bX p0.fN p0.fD x6 x7 x8)))
def qm(u:Nat)(p0:World)(p1:List ag):Option World :=
  cy u u p1 0 p0 p0.bx p0.cu p0.bn
def Bq(u:Nat)(p1:List ag)(p0:World)(s:(List ag)×(List bR)×Int):Option World:=(some ((World.mk p0.fC p0.fT p0.ce p0.bX p0.fN p0.fD s.1 s.2.1 s.2.2)))
def Br(u:Nat)(p1:List ag)(p0:World)(y13:ag)(i_:Nat)(s:(List ag)×(List bR)×Int)(k_:((List ag)×(List bR)×Int)->Option World):Option World:=bif decide (((s.1.length:Int))>=400) then (ij u (λz0 z1 z2 z3 z4 z5=>k_ (z3,z4,z5)) p1 (i_:Int) p0 s.1 s.2.1 (aW .i64 s.2.2 1)) else ((iB u y13).bind λr14=>(c9 (decide ((s.1.length+([r14]).length)*40<=140737488355328))).bind λ_=>(kv u y13.fB).bind λr16=>bif r16.2 then (bif r16.1.bt == 3 then (eK u (λz0 z1 z2 z3 z4 z5=>k_ (z3,z4,z5)) p1 (i_:Int) (decide (((s.2.1.length:Int)) < 3000)) p0 s.1 r14 s.2.1 s.2.2 y13 r16) else (eK u (λz0 z1 z2 z3 z4 z5=>k_ (z3,z4,z5)) p1 (i_:Int) false p0 s.1 r14 s.2.1 s.2.2 y13 r16)) else (eK u (λz0 z1 z2 z3 z4 z5=>k_ (z3,z4,z5)) p1 (i_:Int) false p0 s.1 r14 s.2.1 s.2.2 y13 r16))
theorem OY(u:Nat)(p1:List ag)(p0:World)(s:(List ag)×(List bR)×Int)(k:Nat)(hn:p1.length<=9223372036854775807)(hk:p1.length < k):cy u k p1 0 p0 s.1 s.2.1 s.2.2=Pu.bU (Bq u p1 p0) (Br u p1 p0) p1 0 s:=Pu.cK (λ(k:Nat) (s:(List ag)×(List bR)×Int) (i:Int)=>cy u k p1 i p0 s.1 s.2.1 s.2.2) hn (λ_ _ _=>rfl) s hk
def zM(u:Nat)(p0:World)(p1:List ag):Option World :=
  (pr u p0).bind λr1=>(qm u r1 p1).bind λr2=>some r2
def zN(u:Nat)(p0:World)(p1:List ag):Option World :=
  (md u p0).bind λr1=>(kd u r1 p1).bind λr2=>some r2
def uy(u:Nat)  : Option Bool :=
  some true
def kG(u iZ:Nat)(p0 p1:List Int)(x2:Int):Option Bool:=match iZ with
  | 0=>none
  | iZ+1=>bif decide (x2 < ((p0.length:Int))) then ((cN p0 x2).bind λy4=>(cN p1 x2).bind λy5=>bif y4 != y5 then (some false) else ((λz0 z1 z2=>kG u iZ z0 z1 z2) p0 p1 (aW .i64 x2 1))) else (uy u)
def rr(u:Nat)(p0 p1:List Int):Option Bool :=
  bif ((p0.length:Int)) != ((p1.length:Int)) then (some false) else (kG u u p0 p1 0)
def DR(u:Nat)(p0 p1:List Int)(s:Unit):Option Bool:=(uy u)
def xt(u:Nat)(p0 p1:List Int)(y4:Int)(i_:Nat)(s:Unit)(k_:Unit->Option Bool):Option Bool:=(cN p1 (i_:Int)).bind λy5=>bif y4 != y5 then (some false) else ((λz0 z1 z2=>k_ ()) p0 p1 (aW .i64 (i_:Int) 1))
theorem DS(u:Nat)(p0 p1:List Int)(s:Unit)(k:Nat)(hn:p0.length<=9223372036854775807)(hk:p0.length < k):kG u k p0 p1 0=Pu.bU (DR u p0 p1) (xt u p0 p1) p0 0 s:=Pu.cK (λ(k:Nat) (s:Unit) (i:Int)=>kG u k p0 p1 i) hn (λ_ _ _=>rfl) s hk
def Ar(u:Nat)  : Option Bool :=
  some true
def qn(u nb:Nat)(p0 p1:List Int)(x2:Int):Option Bool:=match nb with
  | 0=>none
  | nb+1=>bif decide (x2 < ((p0.length:Int))) then ((cN p0 x2).bind λy4=>(cN p1 x2).bind λy5=>bif y4 != y5 then (some false) else ((λz0 z1 z2=>qn u nb z0 z1 z2) p0 p1 (aW .i64 x2 1))) else (Ar u)
def jF(u:Nat)(p0 p1:List Int):Option Bool :=
  bif ((p0.length:Int)) != ((p1.length:Int)) then (some false) else (qn u u p0 p1 0)
def Kk(u:Nat)(p0 p1:List Int)(s:Unit):Option Bool:=(Ar u)
def BG(u:Nat)(p0 p1:List Int)(y4:Int)(i_:Nat)(s:Unit)(k_:Unit->Option Bool):Option Bool:=(cN p1 (i_:Int)).bind λy5=>bif y4 != y5 then (some false) else ((λz0 z1 z2=>k_ ()) p0 p1 (aW .i64 (i_:Int) 1))
theorem Km(u:Nat)(p0 p1:List Int)(s:Unit)(k:Nat)(hn:p0.length<=9223372036854775807)(hk:p0.length < k):qn u k p0 p1 0=Pu.bU (Kk u p0 p1) (BG u p0 p1) p0 0 s:=Pu.cK (λ(k:Nat) (s:Unit) (i:Int)=>qn u k p0 p1 i) hn (λ_ _ _=>rfl) s hk
def qG(u:Nat)  : Option Bool :=
  some true
def eL(u:Nat)(BB:(List ag)->(List ag)->Int->Option Bool)(p0 p1:List ag)(x2:Int)(x11:Bool):Option Bool :=
  bif x11 then (some false) else (BB p0 p1 (aW .i64 x2 1))
def dV(u dm:Nat)(p0 p1:List ag)(x2:Int):Option Bool:=match dm with
  | 0=>none
  | dm+1=>bif decide (x2 < ((p0.length:Int))) then ((cN p0 x2).bind λy4=>(cN p1 x2).bind λy5=>bif y4.cB != y5.cB then (eL u (λz0 z1 z2=>dV u dm z0 z1 z2) p0 p1 x2 true) else ((cN p0 x2).bind λy6=>(cN p1 x2).bind λy7=>bif y6.pW != y7.pW then (eL u (λz0 z1 z2=>dV u dm z0 z1 z2) p0 p1 x2 true) else ((cN p0 x2).bind λy8=>(cN p1 x2).bind λy9=>(jF u y8.fB y9.fB).bind λr10=>eL u (λz0 z1 z2=>dV u dm z0 z1 z2) p0 p1 x2 (!r10)))) else (qG u)
def kH(u:Nat)(p0 p1:List ag):Option Bool :=
  bif ((p0.length:Int)) != ((p1.length:Int)) then (some false) else (dV u u p0 p1 0)
def Bt(u:Nat)(p0 p1:List ag)(s:Unit):Option Bool:=(qG u)
def t8(u:Nat)(p0 p1:List ag)(y4:ag)(i_:Nat)(s:Unit)(k_:Unit->Option Bool):Option Bool:=(cN p1 (i_:Int)).bind λy5=>bif y4.cB != y5.cB then (eL u (λz0 z1 z2=>k_ ()) p0 p1 (i_:Int) true) else ((cN p0 (i_:Int)).bind λy6=>(cN p1 (i_:Int)).bind λy7=>bif y6.pW != y7.pW then (eL u (λz0 z1 z2=>k_ ()) p0 p1 (i_:Int) true) else ((cN p0 (i_:Int)).bind λy8=>(cN p1 (i_:Int)).bind λy9=>(jF u y8.fB y9.fB).bind λr10=>eL u (λz0 z1 z2=>k_ ()) p0 p1 (i_:Int) (!r10)))
theorem Bu(u:Nat)(p0 p1:List ag)(s:Unit)(k:Nat)(hn:p0.length<=9223372036854775807)(hk:p0.length < k):dV u k p0 p1 0=Pu.bU (Bt u p0 p1) (t8 u p0 p1) p0 0 s:=Pu.cK (λ(k:Nat) (s:Unit) (i:Int)=>dV u k p0 p1 i) hn (λ_ _ _=>rfl) s hk
def uA(u:Nat)  : Option Bool :=
  some true
def kI(u i2:Nat)(p0 p1:List b4)(x2:Int):Option Bool:=match i2 with
  | 0=>none
  | i2+1=>bif decide (x2 < ((p0.length:Int))) then ((cN p0 x2).bind λy4=>(cN p1 x2).bind λy5=>bif !([y4.fW,y4.fS] == [y5.fW,y5.fS]) then (some false) else ((λz0 z1 z2=>kI u i2 z0 z1 z2) p0 p1 (aW .i64 x2 1))) else (uA u)
def rt(u:Nat)(p0 p1:List b4):Option Bool :=
  bif ((p0.length:Int)) != ((p1.length:Int)) then (some false) else (kI u u p0 p1 0)
def DT(u:Nat)(p0 p1:List b4)(s:Unit):Option Bool:=(uA u)
def xu(u:Nat)(p0 p1:List b4)(y4:b4)(i_:Nat)(s:Unit)(k_:Unit->Option Bool):Option Bool:=(cN p1 (i_:Int)).bind λy5=>bif !([y4.fW,y4.fS] == [y5.fW,y5.fS]) then (some false) else ((λz0 z1 z2=>k_ ()) p0 p1 (aW .i64 (i_:Int) 1))
theorem DU(u:Nat)(p0 p1:List b4)(s:Unit)(k:Nat)(hn:p0.length<=9223372036854775807)(hk:p0.length < k):kI u k p0 p1 0=Pu.bU (DT u p0 p1) (xu u p0 p1) p0 0 s:=Pu.cK (λ(k:Nat) (s:Unit) (i:Int)=>kI u k p0 p1 i) hn (λ_ _ _=>rfl) s hk
def tz(u:Nat)(p0 p1:ah):Option Bool :=
  bif p0.aO == p1.aO then (bif p0.aC == p1.aC then (bif p0.aY == p1.aY then ((rt u p0.aJ p1.aJ).bind λr1=>some r1) else (some false)) else (some false)) else (some false)
def tA(u:Nat)(p0 p1:bI):Option Bool :=
  bif p0.bq == p1.bq then ((jF u p0.bZ p1.bZ).bind λr1=>some r1) else (some false)
def uB(u:Nat)  : Option Bool :=
  some true
def kJ(u i1:Nat)(p0 p1:List bM)(x2:Int):Option Bool:=match i1 with
  | 0=>none
  | i1+1=>bif decide (x2 < ((p0.length:Int))) then ((cN p0 x2).bind λy4=>(cN p1 x2).bind λy5=>bif !([y4.oJ,y4.bQ,y4.bV,y4.uO,y4.mx] == [y5.oJ,y5.bQ,y5.bV,y5.uO,y5.mx]) then (some false) else ((λz0 z1 z2=>kJ u i1 z0 z1 z2) p0 p1 (aW .i64 x2 1))) else (uB u)
def ru(u:Nat)(p0 p1:List bM):Option Bool :=
  bif ((p0.length:Int)) != ((p1.length:Int)) then (some false) else (kJ u u p0 p1 0)
def DV(u:Nat)(p0 p1:List bM)(s:Unit):Option Bool:=(uB u)
def xv(u:Nat)(p0 p1:List bM)(y4:bM)(i_:Nat)(s:Unit)(k_:Unit->Option Bool):Option Bool:=(cN p1 (i_:Int)).bind λy5=>bif !([y4.oJ,y4.bQ,y4.bV,y4.uO,y4.mx] == [y5.oJ,y5.bQ,y5.bV,y5.uO,y5.mx]) then (some false) else ((λz0 z1 z2=>k_ ()) p0 p1 (aW .i64 (i_:Int) 1))
theorem DW(u:Nat)(p0 p1:List bM)(s:Unit)(k:Nat)(hn:p0.length<=9223372036854775807)(hk:p0.length < k):kJ u k p0 p1 0=Pu.bU (DV u p0 p1) (xv u p0 p1) p0 0 s:=Pu.cK (λ(k:Nat) (s:Unit) (i:Int)=>kJ u k p0 p1 i) hn (λ_ _ _=>rfl) s hk
def oD(u:Nat)(p0 p1:aH):Option Bool :=
  bif p0.gW == p1.gW then (bif p0.bP == p1.bP then (bif p0.bJ == p1.bJ then ((tz u p0.aD p1.aD).bind λr1=>bif r1 then ((tA u p0.bD p1.bD).bind λr2=>bif r2 then (bif p0.bp == p1.bp then ((ru u p0.bj p1.bj).bind λr3=>bif r3 then (some (p0.bB == p1.bB)) else (some false)) else (some false)) else (some false)) else (some false)) else (some false)) else (some false)) else (some false)
def uC(u:Nat)  : Option Bool :=
  some true
def eE(u:Nat)(ER:Int->aB->aB->Option Bool)(x5:Int)(x10:Bool)(p0 p1:aB):Option Bool :=
  bif x10 then (some false) else (ER (aW .i64 x5 1) p0 p1)
def eF(u dM:Nat)(x5:Int)(p0 p1:aB):Option Bool:=match dM with
  | 0=>none
  | dM+1=>bif decide (x5 < ((p0.fP.length:Int))) then ((cN p0.fP x5).bind λy7=>(cN p1.fP x5).bind λy8=>bif y7.lx != y8.lx then (eE u (λz0 z1 z2=>eF u dM z0 z1 z2) x5 true p0 p1) else (bif y7.Bn != y8.Bn then (eE u (λz0 z1 z2=>eF u dM z0 z1 z2) x5 true p0 p1) else (bif !([y7.fR.aO,y7.fR.b7,y7.fR.aY] == [y8.fR.aO,y8.fR.b7,y8.fR.aY]) then (eE u (λz0 z1 z2=>eF u dM z0 z1 z2) x5 true p0 p1) else ((jF u y7.fB y8.fB).bind λr9=>eE u (λz0 z1 z2=>eF u dM z0 z1 z2) x5 (!r9) p0 p1)))) else (uC u)
def kK(u:Nat)(x3:Bool)(p0 p1:aB):Option Bool :=
  bif x3 then (some false) else (eF u u 0 p0 p1)
def oE(u:Nat)(p0 p1:aB):Option Bool :=
  (jF u p0.fA p1.fA).bind λr1=>bif !r1 then (kK u true p0 p1) else ((jF u p0.fB p1.fB).bind λr2=>bif !r2 then (kK u true p0 p1) else (bif !([p0.fR.aO,p0.fR.b7,p0.fR.aY] == [p1.fR.aO,p1.fR.b7,p1.fR.aY]) then (kK u true p0 p1) else (kK u (((p0.fP.length:Int)) != ((p1.fP.length:Int))) p0 p1)))
def DX(u:Nat)(p0 p1:aB)(s:Unit):Option Bool:=(uC u)
def xw(u:Nat)(p0 p1:aB)(y7:dd)(i_:Nat)(s:Unit)(k_:Unit->Option Bool):Option Bool:=(cN p1.fP (i_:Int)).bind λy8=>bif y7.lx != y8.lx then (eE u (λz0 z1 z2=>k_ ()) (i_:Int) true p0 p1) else (bif y7.Bn != y8.Bn then (eE u (λz0 z1 z2=>k_ ()) (i_:Int) true p0 p1) else (bif !([y7.fR.aO,y7.fR.b7,y7.fR.aY] == [y8.fR.aO,y8.fR.b7,y8.fR.aY]) then (eE u (λz0 z1 z2=>k_ ()) (i_:Int) true p0 p1) else ((jF u y7.fB y8.fB).bind λr9=>eE u (λz0 z1 z2=>k_ ()) (i_:Int) (!r9) p0 p1)))
theorem DY(u:Nat)(p0 p1:aB)(s:Unit)(k:Nat)(hn:p0.fP.length<=9223372036854775807)(hk:p0.fP.length < k):eF u k 0 p0 p1=Pu.bU (DX u p0 p1) (xw u p0 p1) p0.fP 0 s:=Pu.cK (λ(k:Nat) (s:Unit) (i:Int)=>eF u k i p0 p1) hn (λ_ _ _=>rfl) s hk
def tB(u:Nat)  : Option Bool :=
  some true
def jG(u ir:Nat)(x24:Int)(p0 p1:World):Option Bool:=match ir with
  | 0=>none
  | ir+1=>bif decide (x24 < ((p0.cu.length:Int))) then ((cN p0.cu x24).bind λy26=>(cN p1.cu x24).bind λy27=>bif !([y26.cB,y26.pW,y26.fI] == [y27.cB,y27.pW,y27.fI]) then (some false) else ((λz0 z1 z2=>jG u ir z0 z1 z2) (aW .i64 x24 1) p0 p1)) else (tB u)
def oQ(u:Nat)(p0 p1:World):Option Bool :=
  jG u u 0 p0 p1
def jH(u iu:Nat)(x18:Int)(p0 p1:World):Option Bool:=match iu with
  | 0=>none
  | iu+1=>bif decide (x18 < ((p0.fD.length:Int))) then ((cN p0.fD x18).bind λy20=>(cN p1.fD x18).bind λy21=>(oE u y20 y21).bind λr22=>bif !r22 then (some false) else ((λz0 z1 z2=>jH u iu z0 z1 z2) (aW .i64 x18 1) p0 p1)) else (oQ u p0 p1)
def oS(u:Nat)(p0 p1:World):Option Bool :=
  jH u u 0 p0 p1
def jI(u iv:Nat)(x12:Int)(p0 p1:World):Option Bool:=match iv with
  | 0=>none
  | iv+1=>bif decide (x12 < ((p0.fN.length:Int))) then ((cN p0.fN x12).bind λy14=>(cN p1.fN x12).bind λy15=>(oD u y14 y15).bind λr16=>bif !r16 then (some false) else ((λz0 z1 z2=>jI u iv z0 z1 z2) (aW .i64 x12 1) p0 p1)) else (oS u p0 p1)
def oT(u:Nat)(p0 p1:World):Option Bool :=
  jI u u 0 p0 p1
def jJ(u iw:Nat)(x6:Int)(p0 p1:World):Option Bool:=match iw with
  | 0=>none
  | iw+1=>bif decide (x6 < ((p0.bX.length:Int))) then ((cN p0.bX x6).bind λy8=>(cN p1.bX x6).bind λy9=>(jF u y8.fB y9.fB).bind λr10=>bif !r10 then (some false) else ((λz0 z1 z2=>jJ u iw z0 z1 z2) (aW .i64 x6 1) p0 p1)) else (oT u p0 p1)
def dB(u:Nat)(x4:Bool)(p0 p1:World):Option Bool :=
  bif x4 then (some false) else (jJ u u 0 p0 p1)
def pD(u:Nat)(p0 p1:World):Option Bool :=
  bif !([p0.fC.aC,p0.fC.aZ,p0.fC.aQ,p0.fC.aX] == [p1.fC.aC,p1.fC.aZ,p1.fC.aQ,p1.fC.aX]) then (dB u true p0 p1) else ((rr u p0.fT.cf p1.fT.cf).bind λr1=>bif !r1 then (dB u true p0 p1) else ((jF u p0.ce p1.ce).bind λr2=>bif !r2 then (dB u true p0 p1) else (bif ((p0.bX.length:Int)) != ((p1.bX.length:Int)) then (dB u true p0 p1) else (bif ((p0.fN.length:Int)) != ((p1.fN.length:Int)) then (dB u true p0 p1) else (bif ((p0.fD.length:Int)) != ((p1.fD.length:Int)) then (dB u true p0 p1) else ((kH u p0.bx p1.bx).bind λr3=>bif !r3 then (dB u true p0 p1) else (bif ((p0.cu.length:Int)) != ((p1.cu.length:Int)) then (dB u true p0 p1) else (dB u (p0.bn != p1.bn) p0 p1))))))))
def C3(u:Nat)(p0 p1:World)(s:Unit):Option Bool:=(tB u)
def wo(u:Nat)(p0 p1:World)(y26:bR)(i_:Nat)(s:Unit)(k_:Unit->Option Bool):Option Bool:=(cN p1.cu (i_:Int)).bind λy27=>bif !([y26.cB,y26.pW,y26.fI] == [y27.cB,y27.pW,y27.fI]) then (some false) else ((λz0 z1 z2=>k_ ()) (aW .i64 (i_:Int) 1) p0 p1)
theorem C4(u:Nat)(p0 p1:World)(s:Unit)(k:Nat)(hn:p0.cu.length<=9223372036854775807)(hk:p0.cu.length < k):jG u k 0 p0 p1=Pu.bU (C3 u p0 p1) (wo u p0 p1) p0.cu 0 s:=Pu.cK (λ(k:Nat) (s:Unit) (i:Int)=>jG u k i p0 p1) hn (λ_ _ _=>rfl) s hk
def wq(u:Nat)(p0 p1:World)(s:Unit):Option Bool:=(oQ u p0 p1)
def ws(u:Nat)(p0 p1:World)(y20:aB)(i_:Nat)(s:Unit)(k_:Unit->Option Bool):Option Bool:=(cN p1.fD (i_:Int)).bind λy21=>(oE u y20 y21).bind λr22=>bif !r22 then (some false) else ((λz0 z1 z2=>k_ ()) (aW .i64 (i_:Int) 1) p0 p1)
theorem C5(u:Nat)(p0 p1:World)(s:Unit)(k:Nat)(hn:p0.fD.length<=9223372036854775807)(hk:p0.fD.length < k):jH u k 0 p0 p1=Pu.bU (wq u p0 p1) (ws u p0 p1) p0.fD 0 s:=Pu.cK (λ(k:Nat) (s:Unit) (i:Int)=>jH u k i p0 p1) hn (λ_ _ _=>rfl) s hk
def wt(u:Nat)(p0 p1:World)(s:Unit):Option Bool:=(oS u p0 p1)
def wu(u:Nat)(p0 p1:World)(y14:aH)(i_:Nat)(s:Unit)(k_:Unit->Option Bool):Option Bool:=(cN p1.fN (i_:Int)).bind λy15=>(oD u y14 y15).bind λr16=>bif !r16 then (some false) else ((λz0 z1 z2=>k_ ()) (aW .i64 (i_:Int) 1) p0 p1)
theorem C6(u:Nat)(p0 p1:World)(s:Unit)(k:Nat)(hn:p0.fN.length<=9223372036854775807)(hk:p0.fN.length < k):jI u k 0 p0 p1=Pu.bU (wt u p0 p1) (wu u p0 p1) p0.fN 0 s:=Pu.cK (λ(k:Nat) (s:Unit) (i:Int)=>jI u k i p0 p1) hn (λ_ _ _=>rfl) s hk
def wv(u:Nat)(p0 p1:World)(s:Unit):Option Bool:=(oT u p0 p1)
def ww(u:Nat)(p0 p1:World)(y8:a9)(i_:Nat)(s:Unit)(k_:Unit->Option Bool):Option Bool:=(cN p1.bX (i_:Int)).bind λy9=>(jF u y8.fB y9.fB).bind λr10=>bif !r10 then (some false) else ((λz0 z1 z2=>k_ ()) (aW .i64 (i_:Int) 1) p0 p1)
theorem C7(u:Nat)(p0 p1:World)(s:Unit)(k:Nat)(hn:p0.bX.length<=9223372036854775807)(hk:p0.bX.length < k):jJ u k 0 p0 p1=Pu.bU (wv u p0 p1) (ww u p0 p1) p0.bX 0 s:=Pu.cK (λ(k:Nat) (s:Unit) (i:Int)=>jJ u k i p0 p1) hn (λ_ _ _=>rfl) s hk
def qH(u:Nat)(x11:Int):Option Int :=
  some x11
def my(u:Nat)(lz:Int->(List ag)->Int->Option Int)(x10:Int)(p0:List ag)(x4:Int):Option Int :=
  lz x10 p0 (aW .i64 x4 1)
def ik(u:Nat)(lz:Int->(List ag)->Int->Option Int)(x3:Int)(p0:List ag)(x4:Int)(x9:Bool):Option Int :=
  bif x9 then (my u lz (aW .i64 x3 1) p0 x4) else (my u lz x3 p0 x4)
def dW(u dk:Nat)(x3:Int)(p0:List ag)(x4:Int):Option Int:=match dk with
  | 0=>none
  | dk+1=>bif decide (x4 < ((p0.length:Int))) then ((cN p0 x4).bind λy7=>(kv u y7.fB).bind λr8=>bif r8.2 then (ik u (λz0 z1 z2=>dW u dk z0 z1 z2) x3 p0 x4 (r8.1.bt == 3)) else (ik u (λz0 z1 z2=>dW u dk z0 z1 z2) x3 p0 x4 false)) else (qH u x3)
def m2(u:Nat)(p0:List ag):Option Int :=
  dW u u 0 p0 0
def t9(u:Nat)(p0:List ag)(s:Int):Option Int:=(qH u s)
def oK(u:Nat)(p0:List ag)(y7:ag)(i_:Nat)(s:Int)(k_:Int->Option Int):Option Int:=(kv u y7.fB).bind λr8=>bif r8.2 then (ik u (λz0 z1 z2=>k_ z0) s p0 (i_:Int) (r8.1.bt == 3)) else (ik u (λz0 z1 z2=>k_ z0) s p0 (i_:Int) false)
theorem Bv(u:Nat)(p0:List ag)(s:Int)(k:Nat)(hn:p0.length<=9223372036854775807)(hk:p0.length < k):dW u k s p0 0=Pu.bU (t9 u p0) (oK u p0) p0 0 s:=Pu.cK (λ(k:Nat) (s i:Int)=>dW u k s p0 i) hn (λ_ _ _=>rfl) s hk
def qo(u:Nat)(p0:List Int):Option Bool :=
  (EU u p0).bind λr1=>bif r1 then (some true) else ((ro u p0).bind λr2=>(zM u r2.1 r2.2).bind λr3=>(zN u r2.1 r2.2).bind λr4=>(pD u r3 r4).bind λr5=>bif !r5 then (some false) else (bif (aW .i64 ((r3.bx.length:Int)) r3.bn) == (aW .i64 (aW .i64 ((r2.1.bx.length:Int)) r2.1.bn) ((r2.2.length:Int))) then ((c9 (cE 0 ((r2.1.bx.length:Int)) r3.bx.length)).bind λ_=>(kH u ((r3.bx.take (sY ((r2.1.bx.length:Int)))).drop (sY 0)) r2.1.bx).bind λr7=>bif r7 then (bif decide (((r3.cu.length:Int))>=((r2.1.cu.length:Int))) then ((m2 u r2.2).bind λr8=>some (decide ((cW .i64 ((r3.cu.length:Int)) ((r2.1.cu.length:Int)))<=r8))) else (some false)) else (some false)) else (some false)))
end Go.Tm
