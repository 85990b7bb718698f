/- Go functions as pure functions (printed). -/
import Derived.Test.YtdcoelkflgpfgaaGreatCFnSafesF3
set_option maxRecDepth 100000
set_option maxHeartbeats 20000000
set_option linter.unusedVariables false
set_option linter.unusedSimpArgs false
open Int renaming toNat->sY
open List renaming replicate->zQk
open Nat renaming beq->zWv
namespace Go.Tm
structure aH where
  fB:List Int
  fI:Int
  fH:Int
  deriving DecidableEq
def bt(x:aH):List T:=[.sl 1 (x.fB.map (aj .u8)),.int .i64 x.fI,.int .i64 x.fH]
def aH.wf(x:aH):Prop:=(Jw (jw .u8)) x.fB/\(jw .i64) x.fI/\(jw .i64) x.fH/\True
structure cX where
  ca:List Int
  deriving DecidableEq
def qe(x:cX):List T:=[.sl 1 (x.ca.map (aj .i64))]
def cX.wf(x:cX):Prop:=(Jw (jw .i64)) x.ca/\True
structure aY where
  fB:List Int
  deriving DecidableEq
def aN(x:aY):List T:=[.sl 1 (x.fB.map (aj .u8))]
def aY.wf(x:aY):Prop:=(Jw (jw .u8)) x.fB/\True
structure ig where
  aw:Int
  aT:Int
  aF:Int
  aP:Int
  deriving DecidableEq
def mB(x:ig):List T:=[.int .i64 x.aw,.int .i64 x.aT,.int .i64 x.aF,.int .i64 x.aP]
def ig.wf(x:ig):Prop:=(jw .i64) x.aw/\(jw .i64) x.aT/\(jw .i64) x.aF/\(jw .i64) x.aP/\True
structure cS where
  fW:Int
  fS:Int
  deriving DecidableEq
def a9(x:cS):List T:=[.int .i64 x.fW,.int .i64 x.fS]
def cS.wf(x:cS):Prop:=(jw .i64) x.fW/\(jw .i64) x.fS/\True
structure al where
  aM:Int
  aw:Int
  aW:Int
  aO:List cS
  deriving DecidableEq
def aI(x:al):List T:=[.int .i64 x.aM,.int .i64 x.aw,.int .i64 x.aW,.sl 2 (x.aO.map a9)]
def al.wf(x:al):Prop:=(jw .i64) x.aM/\(jw .i64) x.aw/\(jw .i64) x.aW/\(Jw cS.wf) x.aO/\True
structure bI where
  bq:Int
  b9:List Int
  deriving DecidableEq
def iz(x:bI):List T:=[.int .i64 x.bq,.sl 1 (x.b9.map (aj .u8))]
def bI.wf(x:bI):Prop:=(jw .i64) x.bq/\(Jw (jw .u8)) x.b9/\True
structure bS where
  oK:Int
  cn:Int
  ci:Int
  wT:Int
  oI:Int
  deriving DecidableEq
def ba(x:bS):List T:=[.int .i64 x.oK,.int .i64 x.cn,.int .i64 x.ci,.int .i64 x.wT,.int .i64 x.oI]
def bS.wf(x:bS):Prop:=(jw .i64) x.oK/\(jw .i64) x.cn/\(jw .i64) x.ci/\(jw .i64) x.wT/\(jw .i64) x.oI/\True
structure aC where
  fL:Bool
  bR:Int
  bG:Int
  ay:al
  bB:bI
  bc:Int
  bi:List bS
  bw:Int
  deriving DecidableEq
def ar(x:aC):List T:=[.bool x.fL,.int .i64 x.bR,.int .i64 x.bG,.int .i64 x.ay.aM,.int .i64 x.ay.aw,.int .i64 x.ay.aW,.sl 2 (x.ay.aO.map a9),.int .i64 x.bB.bq,.sl 1 (x.bB.b9.map (aj .u8)),.int .i64 x.bc,.sl 5 (x.bi.map ba),.int .i64 x.bw]
def aC.wf(x:aC):Prop:=(λ_=>True) x.fL/\(jw .i64) x.bR/\(jw .i64) x.bG/\al.wf x.ay/\bI.wf x.bB/\(jw .i64) x.bc/\(Jw bS.wf) x.bi/\(jw .i64) x.bw/\True
structure cT where
  aM:Int
  bQ:Int
  aW:Int
  deriving DecidableEq
def ri(x:cT):List T:=[.int .i64 x.aM,.int .i64 x.bQ,.int .i64 x.aW]
def cT.wf(x:cT):Prop:=(jw .i64) x.aM/\(jw .i64) x.bQ/\(jw .i64) x.aW/\True
structure ct where
  gq:Int
  vI:Int
  fB:List Int
  fR:cT
  deriving DecidableEq
def aV(x:ct):List T:=[.int .i64 x.gq,.int .i64 x.vI,.sl 1 (x.fB.map (aj .u8)),.int .i64 x.fR.aM,.int .i64 x.fR.bQ,.int .i64 x.fR.aW]
def ct.wf(x:ct):Prop:=(jw .i64) x.gq/\(jw .i64) x.vI/\(Jw (jw .u8)) x.fB/\cT.wf x.fR/\True
structure am where
  fA:List Int
  fB:List Int
  fR:cT
  fP:List ct
  deriving DecidableEq
def ag(x:am):List T:=[.sl 1 (x.fA.map (aj .u8)),.sl 1 (x.fB.map (aj .u8)),.int .i64 x.fR.aM,.int .i64 x.fR.bQ,.int .i64 x.fR.aW,.sl 6 (x.fP.map aV)]
def am.wf(x:am):Prop:=(Jw (jw .u8)) x.fA/\(Jw (jw .u8)) x.fB/\cT.wf x.fR/\(Jw ct.wf) x.fP/\True
structure ai where
  dt:Int
  tl:Int
  fB:List Int
  deriving DecidableEq
def ah(x:ai):List T:=[.int .i64 x.dt,.int .i64 x.tl,.sl 1 (x.fB.map (aj .u8))]
def ai.wf(x:ai):Prop:=(jw .i64) x.dt/\(jw .i64) x.tl/\(Jw (jw .u8)) x.fB/\True
structure cH where
  dt:Int
  tl:Int
  fI:Int
  deriving DecidableEq
def bk(x:cH):List T:=[.int .i64 x.dt,.int .i64 x.tl,.int .i64 x.fI]
def cH.wf(x:cH):Prop:=(jw .i64) x.dt/\(jw .i64) x.tl/\(jw .i64) x.fI/\True
structure World where
  fC:ig
  fT:cX
  bK:List Int
  bA:List aY
  fN:List aC
  fD:List am
  bn:List ai
  cN:List cH
  bl:Int
  deriving DecidableEq
def bu(x:World):List T:=[.int .i64 x.fC.aw,.int .i64 x.fC.aT,.int .i64 x.fC.aF,.int .i64 x.fC.aP,.sl 1 (x.fT.ca.map (aj .i64)),.sl 1 (x.bK.map (aj .u8)),.sl 1 (x.bA.map aN),.sl 12 (x.fN.map ar),.sl 6 (x.fD.map ag),.sl 3 (x.bn.map ah),.sl 3 (x.cN.map bk),.int .i64 x.bl]
def gS(t:T)(x:World):List T:=[.int .i64 x.fC.aw,.int .i64 x.fC.aT,.int .i64 x.fC.aF,.int .i64 x.fC.aP,.sl 1 (x.fT.ca.map (aj .i64)),.sl 1 (x.bK.map (aj .u8)),t,.sl 12 (x.fN.map ar),.sl 6 (x.fD.map ag),.sl 3 (x.bn.map ah),.sl 3 (x.cN.map bk),.int .i64 x.bl]
def World.wf(x:World):Prop:=ig.wf x.fC/\cX.wf x.fT/\(Jw (jw .u8)) x.bK/\(Jw aY.wf) x.bA/\(Jw aC.wf) x.fN/\(Jw am.wf) x.fD/\(Jw ai.wf) x.bn/\(Jw cH.wf) x.cN/\(jw .i64) x.bl/\True
structure cu where
  br:Int
  fN:Int
  fS:Int
  fP:ai
  deriving DecidableEq
def cI(x:cu):List T:=[.int .i64 x.br,.int .i64 x.fN,.int .i64 x.fS,.int .i64 x.fP.dt,.int .i64 x.fP.tl,.sl 1 (x.fP.fB.map (aj .u8))]
def cu.wf(x:cu):Prop:=(jw .i64) x.br/\(jw .i64) x.fN/\(jw .i64) x.fS/\ai.wf x.fP/\True
structure fc where
  br:Int
  aM:Int
  ay:al
  cn:Int
  ci:Int
  fI:Int
  fB:List Int
  deriving DecidableEq
def et(x:fc):List T:=[.int .i64 x.br,.int .i64 x.aM,.int .i64 x.ay.aM,.int .i64 x.ay.aw,.int .i64 x.ay.aW,.sl 2 (x.ay.aO.map a9),.int .i64 x.cn,.int .i64 x.ci,.int .i64 x.fI,.sl 1 (x.fB.map (aj .u8))]
def fc.wf(x:fc):Prop:=(jw .i64) x.br/\(jw .i64) x.aM/\al.wf x.ay/\(jw .i64) x.cn/\(jw .i64) x.ci/\(jw .i64) x.fI/\(Jw (jw .u8)) x.fB/\True
structure Fl where
  fN:aC
  fD:am
  kj:List ai
  deriving DecidableEq
def Sy(x:Fl):List T:=[.bool x.fN.fL,.int .i64 x.fN.bR,.int .i64 x.fN.bG,.int .i64 x.fN.ay.aM,.int .i64 x.fN.ay.aw,.int .i64 x.fN.ay.aW,.sl 2 (x.fN.ay.aO.map a9),.int .i64 x.fN.bB.bq,.sl 1 (x.fN.bB.b9.map (aj .u8)),.int .i64 x.fN.bc,.sl 5 (x.fN.bi.map ba),.int .i64 x.fN.bw,.sl 1 (x.fD.fA.map (aj .u8)),.sl 1 (x.fD.fB.map (aj .u8)),.int .i64 x.fD.fR.aM,.int .i64 x.fD.fR.bQ,.int .i64 x.fD.fR.aW,.sl 6 (x.fD.fP.map aV),.sl 3 (x.kj.map ah)]
def Fl.wf(x:Fl):Prop:=aC.wf x.fN/\am.wf x.fD/\(Jw ai.wf) x.kj/\True
structure Act where
  fN:aC
  kj:List ai
  deriving DecidableEq
def wV(x:Act):List T:=[.bool x.fN.fL,.int .i64 x.fN.bR,.int .i64 x.fN.bG,.int .i64 x.fN.ay.aM,.int .i64 x.fN.ay.aw,.int .i64 x.fN.ay.aW,.sl 2 (x.fN.ay.aO.map a9),.int .i64 x.fN.bB.bq,.sl 1 (x.fN.bB.b9.map (aj .u8)),.int .i64 x.fN.bc,.sl 5 (x.fN.bi.map ba),.int .i64 x.fN.bw,.sl 3 (x.kj.map ah)]
def Act.wf(x:Act):Prop:=aC.wf x.fN/\(Jw ai.wf) x.kj/\True
def Ds(u:Nat)(p0:List Int):Option Bool :=
  some (decide (((p0.length:Int)) > 1048576))
def t6(u:Nat)(p0:List Int)(x9:Int):Option aH :=
  some ((aH.mk p0 0 x9))
def qf(u:Nat)(IG:(List Int)->Int->Int->Option aH)(p0:List Int)(x3 x4:Int)(x7:Bool):Option aH :=
  bif x7 then ((dG p0 x4).bind λy8=>IG p0 (fK .i64 (bd .i64 (bd .i64 (md .i64 x3 137) (IntKind.wrap .i64 y8)) 11) 1073741823) (bd .i64 x4 1)) else (t6 u p0 x3)
def ja(u iG:Nat)(p0:List Int)(x3 x4:Int):Option aH:=match iG with
  | 0=>none
  | iG+1=>bif decide (x4 < ((p0.length:Int))) then (qf u (λz0 z1 z2=>ja u iG z0 z1 z2) p0 x3 x4 (decide (x4 < 4000))) else (qf u (λz0 z1 z2=>ja u iG z0 z1 z2) p0 x3 x4 false)
def tp(u:Nat)(p0:List Int):Option aH :=
  ja u u p0 (bd .i64 162416 ((p0.length:Int))) 0
def uk(u:Nat)(p0:List Int)(p1:Int):Option Int :=
  bif decide ((bd .i64 3 (Oi .i64 ((p0.length:Int)) 12)) > p1) then (some p1) else (some (bd .i64 3 (Oi .i64 ((p0.length:Int)) 12)))
def oL(u:Nat)(x2:Int)(p0:aH)(x3:Int):Option (Int×aH) :=
  some ((x2,(aH.mk p0.fB x3 (bd .i64 (md .i64 p0.fH 6364136223846793005) 1442695040888963407))))
def kl(u:Nat)(p0:aH):Option (Int×aH) :=
  bif decide (p0.fI < ((p0.fB.length:Int))) then ((dG p0.fB p0.fI).bind λy1=>oL u (fK .i64 (bd .i64 (fK .i64 (MV .i64 (nD .i64 (bd .i64 (md .i64 p0.fH 6364136223846793005) 1442695040888963407) 33) (nD .i64 (bd .i64 (md .i64 p0.fH 6364136223846793005) 1442695040888963407) 47)) 255) (IntKind.wrap .i64 y1)) 255) p0 (bd .i64 p0.fI 1)) else (oL u (fK .i64 (MV .i64 (nD .i64 (bd .i64 (md .i64 p0.fH 6364136223846793005) 1442695040888963407) 33) (nD .i64 (bd .i64 (md .i64 p0.fH 6364136223846793005) 1442695040888963407) 47)) 255) p0 p0.fI)
def be(u:Nat)(p0:aH)(p1:Int):Option (Int×aH) :=
  bif decide (p1<=0) then (some ((0,p0))) else (bif decide (p1<=256) then ((kl u p0).bind λr1=>(dC (!(p1 == 0))).bind λ_=>some ((uG .i64 r1.1 p1,r1.2))) else ((kl u p0).bind λr3=>(kl u r3.2).bind λr4=>(kl u r4.2).bind λr5=>(dC (!(p1 == 0))).bind λ_=>some ((uG .i64 (bd .i64 (bd .i64 (md .i64 r3.1 65536) (md .i64 r4.1 256)) r5.1) p1,r5.2))))
def jk(u:Nat)(p0:aH)(p1:Int):Option (Bool×aH) :=
  (be u p0 p1).bind λr1=>some ((r1.1 == 0,r1.2))
def qK(u:Nat)(x23 x24:List Int)(x25 x26:Int):Option (cX×aH) :=
  some (((cX.mk x23),(aH.mk x24 x25 x26)))
def nI(u:Nat)(Fk:Int->(List Int)->(List Int)->Int->Int->Option (cX×aH))(x6 x19:Int)(x7 x20:List Int)(x21 x22:Int):Option (cX×aH) :=
  (dC (decide ((x7.length+(([x19]:List Int)).length)*8<=140737488355328))).bind λ_=>Fk (bd .i64 x6 1) (x7++(([x19]:List Int))) x20 x21 x22
def fv(u gp:Nat)(x6:Int)(x7 x8:List Int)(x9 x10:Int):Option (cX×aH):=match gp with
  | 0=>none
  | gp+1=>(be u ((aH.mk x8 x9 x10)) 7).bind λr16=>bif decide (x6 < (bd .i64 1 r16.1)) then ((jk u r16.2 2).bind λr17=>bif r17.1 then ((be u r17.2 x6).bind λr18=>nI u (λz0 z1 z2 z3 z4=>fv u gp z0 z1 z2 z3 z4) x6 r18.1 x7 r18.2.fB r18.2.fI r18.2.fH) else (nI u (λz0 z1 z2 z3 z4=>fv u gp z0 z1 z2 z3 z4) x6 (ez .i64 x6 1) x7 r17.2.fB r17.2.fI r17.2.fH)) else (qK u x7 r16.2.fB r16.2.fI r16.2.fH)
def pt(u:Nat)(p0:aH):Option (cX×aH) :=
  fv u u 1 (([-1]:List Int)) p0.fB p0.fI p0.fH
def dE(u:Nat)(p0:aH)(p1:List Int):Option (Int×aH) :=
  (be u p0 ((p1.length:Int))).bind λr1=>(dG p1 r1.1).bind λy2=>some ((y2,r1.2))
def qL(u:Nat)(x18 x19:List Int)(x20 x21:Int):Option ((List Int)×aH) :=
  some ((x18,(aH.mk x19 x20 x21)))
def fw(u jP:Nat)(x7:List Int)(x8:Int)(x9:List Int)(x10 x11:Int):Option ((List Int)×aH):=match jP with
  | 0=>none
  | jP+1=>bif decide (x8 > 0) then ((dE u ((aH.mk x9 x10 x11)) (([97,98,99,0,255]:List Int))).bind λr17=>(dC (decide ((x7.length+(([IntKind.wrap .u8 r17.1]:List Int)).length)*1<=140737488355328))).bind λ_=>(λz0 z1 z2 z3 z4=>fw u jP z0 z1 z2 z3 z4) (x7++(([IntKind.wrap .u8 r17.1]:List Int))) (ez .i64 x8 1) r17.2.fB r17.2.fI r17.2.fH) else (qL u x7 x9 x10 x11)
def gI(u:Nat)(p0:aH)(p1:Int):Option ((List Int)×aH) :=
  (be u p0 (bd .i64 p1 1)).bind λr1=>fw u u (([]:List Int)) r1.1 r1.2.fB r1.2.fI r1.2.fH
def lT(u:Nat)(p0:aH):Option ((List Int)×aH) :=
  (gI u p0 16).bind λr1=>some ((r1.1,r1.2))
def co(u:Nat)(x15 x16:List Int)(x17 x18:Int):Option ((List Int)×aH) :=
  some ((x15,(aH.mk x16 x17 x18)))
def m9(u:Nat)(p0:aH)(p1:List Int):Option ((List Int)×aH) :=
  (dC (decide (((([]:List Int)).length+p1.length)*1<=140737488355328))).bind λ_=>(be u p0 6).bind λr2=>bif r2.1 == 0 then (bif decide (((((([]:List Int))++p1).length:Int)) > 0) then ((be u r2.2 ((((([]:List Int))++p1).length:Int))).bind λr3=>(be u r3.2 256).bind λr4=>(dG ((([]:List Int))++p1) r3.1).bind λy5=>co u (((([]:List Int))++p1).set (sY r3.1) (IntKind.wrap .u8 r4.1)) r4.2.fB r4.2.fI r4.2.fH) else (co u ((([]:List Int))++p1) r2.2.fB r2.2.fI r2.2.fH)) else (bif r2.1 == 1 then ((be u r2.2 (bd .i64 ((((([]:List Int))++p1).length:Int)) 1)).bind λr6=>(dC (cO 0 r6.1 ((([]:List Int))++p1).length)).bind λ_=>co u ((((([]:List Int))++p1).take (sY r6.1)).drop (sY 0)) r6.2.fB r6.2.fI r6.2.fH) else (bif r2.1 == 2 then ((dE u r2.2 (([0,1,128,255]:List Int))).bind λr8=>(dC (decide ((((([]:List Int))++p1).length+(([IntKind.wrap .u8 r8.1]:List Int)).length)*1<=140737488355328))).bind λ_=>co u (((([]:List Int))++p1)++(([IntKind.wrap .u8 r8.1]:List Int))) r8.2.fB r8.2.fI r8.2.fH) else (bif r2.1 == 3 then (bif decide (((((([]:List Int))++p1).length:Int)) > 0) then ((be u r2.2 ((((([]:List Int))++p1).length:Int))).bind λr10=>(dG ((([]:List Int))++p1) r10.1).bind λy11=>(be u r10.2 8).bind λr12=>(dC (decide (0<=r12.1))).bind λ_=>(dG ((([]:List Int))++p1) r10.1).bind λy14=>co u (((([]:List Int))++p1).set (sY r10.1) (MV .u8 y11 (jF .u8 1 r12.1))) r12.2.fB r12.2.fI r12.2.fH) else (co u ((([]:List Int))++p1) r2.2.fB r2.2.fI r2.2.fH)) else (co u ((([]:List Int))++p1) r2.2.fB r2.2.fI r2.2.fH))))
def rj(u:Nat)(p0:aH)(p1:List Int):Option ((List Int)×aH) :=
  (be u p0 5).bind λr1=>bif r1.1 == 0 then ((gI u r1.2 16).bind λr2=>some ((r2.1,r2.2))) else (bif r1.1 == 1 then ((dC (decide (((([]:List Int)).length+p1.length)*1<=140737488355328))).bind λ_=>some (((([]:List Int))++p1,r1.2))) else (bif r1.1 == 2 then ((be u r1.2 (bd .i64 ((p1.length:Int)) 1)).bind λr4=>(dC (cO r4.1 ((p1.length:Int)) p1.length)).bind λ_=>(dC (decide (((([120]:List Int)).length+((p1.take (sY ((p1.length:Int)))).drop (sY r4.1)).length)*1<=140737488355328))).bind λ_=>(dC (cO 0 r4.1 p1.length)).bind λ_=>(dC (decide ((((([120]:List Int))++((p1.take (sY ((p1.length:Int)))).drop (sY r4.1))).length+((p1.take (sY r4.1)).drop (sY 0)).length)*1<=140737488355328))).bind λ_=>some ((((([120]:List Int))++((p1.take (sY ((p1.length:Int)))).drop (sY r4.1)))++((p1.take (sY r4.1)).drop (sY 0)),r4.2))) else (bif r1.1 == 3 then (some ((([]:List Int),r1.2))) else ((gI u r1.2 3).bind λr9=>(m9 u r9.2 p1).bind λr10=>(dC (decide ((r9.1.length+r10.1.length)*1<=140737488355328))).bind λ_=>some ((r9.1++r10.1,r10.2))))))
def pu(u:Nat)(p0:aH):Option (ig×aH) :=
  (be u p0 5).bind λr1=>(dE u r1.2 (([1,2,3,8,40]:List Int))).bind λr2=>(be u r2.2 3).bind λr3=>(be u r3.2 3).bind λr4=>some (((ig.mk (bd .i64 2 r1.1) r2.1 (bd .i64 1 r3.1) (bd .i64 2 r4.1)),r4.2))
def bM(u:Nat)(p0 p1 p2:Int):Option Bool :=
  bif decide (p0>=p1) then (some (decide (p0<=p2))) else (some false)
def ul(u:Nat)(p0:ig):Option Bool :=
  (bM u p0.aw 2 6).bind λr1=>bif r1 then ((bM u p0.aT 1 40).bind λr2=>bif r2 then ((bM u p0.aF 1 5).bind λr3=>bif r3 then ((bM u p0.aP 2 8).bind λr4=>some r4) else (some false)) else (some false)) else (some false)
def vW(u:Nat)  : Option Bool :=
  some true
def jl(u kW:Nat)(x5:Int)(p0:cX):Option Bool:=match kW with
  | 0=>none
  | kW+1=>bif decide (x5 < ((p0.ca.length:Int))) then ((dG p0.ca x5).bind λy7=>(bM u y7 0 (ez .i64 x5 1)).bind λr8=>bif !r8 then (some false) else ((λz0 z1=>jl u kW z0 z1) (bd .i64 x5 1) p0)) else (vW u)
def rV(u:Nat)(x3:Bool)(p0:cX):Option Bool :=
  bif x3 then (some false) else (jl u u 1 p0)
def oM(u:Nat)(p0:cX):Option Bool :=
  (bM u ((p0.ca.length:Int)) 1 7).bind λr1=>bif !r1 then (rV u true p0) else ((dG p0.ca 0).bind λy2=>rV u (y2 != (-1)) p0)
def yf(u:Nat)(p0:cX)(s:Unit):Option Bool:=(vW u)
def tq(u:Nat)(p0:cX)(y7:Int)(i_:Nat)(s:Unit)(k_:Unit->Option Bool):Option Bool:=(bM u y7 0 (ez .i64 (i_:Int) 1)).bind λr8=>bif !r8 then (some false) else ((λz0 z1=>k_ ()) (bd .i64 (i_:Int) 1) p0)
theorem Ro(u:Nat)(p0:cX)(s:Unit)(k:Nat)(hn:p0.ca.length<=9223372036854775807)(hk:p0.ca.length < k):jl u k 0 p0=Pu.cA (yf u p0) (tq u p0) p0.ca 0 s:=Pu.eG (λ(k:Nat) (s:Unit) (i:Int)=>jl u k i p0) hn (λ_ _ _=>rfl) s hk
def lU(u:Nat)(p0 p1:Int):Option Bool :=
  (bM u p0 2 6).bind λr1=>bif r1 then ((bM u p1 0 (md .i64 p0 40)).bind λr2=>some r2) else (some false)
def uL(u:Nat)(p0:List aY)(p1:Int):Option Bool :=
  some (((p0.length:Int)) == p1)
def lE(u jO:Nat)(p0:List aY)(p1 x2:Int):Option Bool:=match jO with
  | 0=>none
  | jO+1=>bif decide (x2 < ((p0.length:Int))) then ((dG p0 x2).bind λy4=>bif decide (((y4.fB.length:Int)) > 240) then (some false) else ((λz0 z1 z2=>lE u jO z0 z1 z2) p0 p1 (bd .i64 x2 1))) else (uL u p0 p1)
def rX(u:Nat)(p0:List aY)(p1:Int):Option Bool :=
  lE u u p0 p1 0
def Dt(u:Nat)(p0:List aY)(p1:Int)(s:Unit):Option Bool:=(uL u p0 p1)
def wW(u:Nat)(p0:List aY)(p1:Int)(y4:aY)(i_:Nat)(s:Unit)(k_:Unit->Option Bool):Option Bool:=bif decide (((y4.fB.length:Int)) > 240) then (some false) else ((λz0 z1 z2=>k_ ()) p0 p1 (bd .i64 (i_:Int) 1))
theorem Du(u:Nat)(p0:List aY)(p1:Int)(s:Unit)(k:Nat)(hn:p0.length<=9223372036854775807)(hk:p0.length < k):lE u k p0 p1 0=Pu.cA (Dt u p0 p1) (wW u p0 p1) p0 0 s:=Pu.eG (λ(k:Nat) (s:Unit) (i:Int)=>lE u k p0 p1 i) hn (λ_ _ _=>rfl) s hk
def lV(u:Nat)(x8:List aY):Option ((List aY)) :=
  some x8
def eu(u eh:Nat)(p0 x3:List aY)(x4:Int):Option ((List aY)):=match eh with
  | 0=>none
  | eh+1=>bif decide (x4 < ((p0.length:Int))) then ((dG p0 x4).bind λy7=>(dC (decide (((([]:List Int)).length+y7.fB.length)*1<=140737488355328))).bind λ_=>(dC (decide ((x3.length+([(aY.mk ((([]:List Int))++y7.fB))]).length)*24<=140737488355328))).bind λ_=>(λz0 z1 z2=>eu u eh z0 z1 z2) p0 (x3++([(aY.mk ((([]:List Int))++y7.fB))])) (bd .i64 x4 1)) else (lV u x3)
def gy(u:Nat)(p0:List aY):Option ((List aY)) :=
  eu u u p0 (([]:List aY)) 0
def BY(u:Nat)(p0:List aY)(s:(List aY)):Option ((List aY)):=(lV u s)
def vd(u:Nat)(p0:List aY)(y7:aY)(i_:Nat)(s:(List aY))(k_:((List aY))->Option ((List aY))):Option ((List aY)):=(dC (decide (((([]:List Int)).length+y7.fB.length)*1<=140737488355328))).bind λ_=>(dC (decide ((s.length+([(aY.mk ((([]:List Int))++y7.fB))]).length)*24<=140737488355328))).bind λ_=>(λz0 z1 z2=>k_ z1) p0 (s++([(aY.mk ((([]:List Int))++y7.fB))])) (bd .i64 (i_:Int) 1)
theorem BZ(u:Nat)(p0:List aY)(s:(List aY))(k:Nat)(hn:p0.length<=9223372036854775807)(hk:p0.length < k):eu u k p0 s 0=Pu.cA (BY u p0) (vd u p0) p0 0 s:=Pu.eG (λ(k:Nat) (s:(List aY)) (i:Int)=>eu u k p0 s i) hn (λ_ _ _=>rfl) s hk
def rY(u:Nat)(p0:Int):Option aC :=
  some ((aC.mk true p0 0 ((al.mk 0 0 0 ([]))) ((bI.mk 0 ([]))) 0 ([]) 0))
def pv(u:Nat)(p1:Int)(x3:Bool)(p0:cX):Option aC :=
  bif x3 then (some ((aC.mk false 0 0 ((al.mk 0 0 0 ([]))) ((bI.mk 0 ([]))) 0 ([]) 0))) else ((dG p0.ca p1).bind λy4=>(rY u y4).bind λr5=>some r5)
def mn(u:Nat)(p0:cX)(p1:Int):Option aC :=
  (oM u p0).bind λr1=>bif !r1 then (pv u p1 true p0) else ((bM u p1 1 (ez .i64 ((p0.ca.length:Int)) 1)).bind λr2=>pv u p1 (!r2) p0)
def qM(u:Nat)(p0 p1:Int)(x3:Bool):Option Int :=
  bif x3 then (some 0) else ((dC (!(p1 == 0))).bind λ_=>some (Oi .i64 (ez .i64 (bd .i64 p0 p1) 1) p1))
def rZ(u:Nat)(p0 p1:Int):Option Int :=
  (bM u p0 0 1000000000000).bind λr1=>bif !r1 then (qM u p0 p1 true) else ((bM u p1 1 1000000000000).bind λr2=>qM u p0 p1 (!r2))
def lW(u:Nat)(p0 p1:Int):Option Int :=
  (lU u p0 p1).bind λr1=>bif !r1 then (some 0) else ((rZ u p1 p0).bind λr2=>some r2)
def rk(u:Nat)(p0 p1:Int):Option Int :=
  bif decide (p1 < p0) then (some p1) else (some p0)
def fm(u:Nat)(p0 p1 p2:Int):Option (Int×Int) :=
  (lW u p0 p1).bind λr1=>(bM u p2 0 (ez .i64 r1 1)).bind λr2=>bif !r2 then (some ((0,0))) else ((rk u p0 (ez .i64 p1 (md .i64 p2 p0))).bind λr3=>some ((md .i64 p2 p0,r3)))
def jZ(u:Nat)(p0:List Int)(p1 p2:Int):Option ((List Int)×Bool) :=
  (fm u p1 ((p0.length:Int)) p2).bind λr1=>bif r1.2 == 0 then (some ((([]:List Int),false))) else ((dC (cO r1.1 (bd .i64 r1.1 r1.2) p0.length)).bind λ_=>(dC (decide (((([]:List Int)).length+((p0.take (sY (bd .i64 r1.1 r1.2))).drop (sY r1.1)).length)*1<=140737488355328))).bind λ_=>some (((([]:List Int))++((p0.take (sY (bd .i64 r1.1 r1.2))).drop (sY r1.1)),true)))
def oN(u:Nat)(x11 x12:Int):Option Int :=
  some (bd .i64 x11 (md .i64 251 x12))
def mC(u kX:Nat)(p0:List Int)(x4 x5 x6:Int):Option Int:=match kX with
  | 0=>none
  | kX+1=>bif decide (x6 < ((p0.length:Int))) then ((dG p0 x6).bind λy10=>(λz0 z1 z2 z3=>mC u kX z0 z1 z2 z3) p0 (uG .i64 (bd .i64 x4 (IntKind.wrap .i64 y10)) 251) (uG .i64 (bd .i64 x5 (uG .i64 (bd .i64 x4 (IntKind.wrap .i64 y10)) 251)) 251) (bd .i64 x6 1)) else (oN u x4 x5)
def na(u:Nat)(p0:List Int):Option Int :=
  mC u u p0 0 0 0
def yh(u:Nat)(p0:List Int)(s:Int×Int):Option Int:=(oN u s.1 s.2)
def tr(u:Nat)(p0:List Int)(y10:Int)(i_:Nat)(s:Int×Int)(k_:(Int×Int)->Option Int):Option Int:=(λz0 z1 z2 z3=>k_ (z1,z2)) p0 (uG .i64 (bd .i64 s.1 (IntKind.wrap .i64 y10)) 251) (uG .i64 (bd .i64 s.2 (uG .i64 (bd .i64 s.1 (IntKind.wrap .i64 y10)) 251)) 251) (bd .i64 (i_:Int) 1)
theorem Fm(u:Nat)(p0:List Int)(s:Int×Int)(k:Nat)(hn:p0.length<=9223372036854775807)(hk:p0.length < k):mC u k p0 s.1 s.2 0=Pu.cA (yh u p0) (tr u p0) p0 0 s:=Pu.eG (λ(k:Nat) (s:Int×Int) (i:Int)=>mC u k p0 s.1 s.2 i) hn (λ_ _ _=>rfl) s hk
def qg(u:Nat)(p0:List Int)(x8:Int):Option cS :=
  (na u p0).bind λr9=>some ((cS.mk r9 x8))
def n7(u lR:Nat)(p0:List Int)(x3 x4:Int):Option cS:=match lR with
  | 0=>none
  | lR+1=>bif decide (x4 < ((p0.length:Int))) then ((dG p0 x4).bind λy7=>(λz0 z1 z2=>n7 u lR z0 z1 z2) p0 (bd .i64 (md .i64 256 x3) (IntKind.wrap .i64 y7)) (bd .i64 x4 1)) else (qg u p0 x3)
def gT(u:Nat)(p0:List Int):Option cS :=
  bif decide (((p0.length:Int)) > 6) then (some ((cS.mk 0 0))) else (n7 u u p0 1 0)
def zZ(u:Nat)(p0:List Int)(s:Int):Option cS:=(qg u p0 s)
def uM(u:Nat)(p0:List Int)(y7:Int)(i_:Nat)(s:Int)(k_:Int->Option cS):Option cS:=(λz0 z1 z2=>k_ z1) p0 (bd .i64 (md .i64 256 s) (IntKind.wrap .i64 y7)) (bd .i64 (i_:Int) 1)
theorem Hz(u:Nat)(p0:List Int)(s:Int)(k:Nat)(hn:p0.length<=9223372036854775807)(hk:p0.length < k):n7 u k p0 s 0=Pu.cA (zZ u p0) (uM u p0) p0 0 s:=Pu.eG (λ(k:Nat) (s i:Int)=>n7 u k p0 s i) hn (λ_ _ _=>rfl) s hk
def se(u:Nat)(x10:List cS):Option ((List cS)) :=
  some x10
def jm(u fX:Nat)(p0:List Int)(p1:Int)(x3:List cS)(x4:Int):Option ((List cS)):=match fX with
  | 0=>none
  | fX+1=>(lW u p1 ((p0.length:Int))).bind λr7=>bif decide (x4 < r7) then ((jZ u p0 p1 x4).bind λr8=>(gT u r8.1).bind λr9=>(dC (decide ((x3.length+([r9]).length)*16<=140737488355328))).bind λ_=>(λz0 z1 z2 z3=>jm u fX z0 z1 z2 z3) p0 p1 (x3++([r9])) (bd .i64 x4 1)) else (se u x3)
def nc(u:Nat)(p0:List Int)(p1:Int):Option ((List cS)) :=
  jm u u p0 p1 (([]:List cS)) 0
def t7(u:Nat)(p0:Int)(p1:List Int)(p2:Int)(x3:Bool):Option al :=
  bif x3 then (some ((al.mk 0 0 0 ([])))) else ((nc u p1 p2).bind λr4=>some ((al.mk p0 p2 ((p1.length:Int)) r4)))
def tu(u:Nat)(p0:Int)(p1:List Int)(p2:Int):Option al :=
  (bM u p0 1 1000000).bind λr1=>bif !r1 then (t7 u p0 p1 p2 true) else ((lU u p2 ((p1.length:Int))).bind λr2=>t7 u p0 p1 p2 (!r2))
def tv(u:Nat)(p0:World):Option al :=
  (tu u 1 p0.bK p0.fC.aw).bind λr1=>some r1
def uN(u:Nat)(x8:List Int):Option ((List Int)×Bool) :=
  some ((x8,true))
def lF(u jL:Nat)(x4:Int)(x5:List Int):Option ((List Int)×Bool):=match jL with
  | 0=>none
  | jL+1=>bif decide (x4 > 1) then (bif decide (x4 < 256) then (some ((([]:List Int),false))) else ((dC (decide (((([IntKind.wrap .u8 (fK .i64 x4 255)]:List Int)).length+x5.length)*1<=140737488355328))).bind λ_=>(λz0 z1=>lF u jL z0 z1) (nD .i64 x4 8) ((([IntKind.wrap .u8 (fK .i64 x4 255)]:List Int))++x5))) else (uN u x5)
def np(u:Nat)(p0:Int):Option ((List Int)×Bool) :=
  (bM u p0 1 562949953421311).bind λr1=>bif !r1 then (some ((([]:List Int),false))) else (lF u u p0 (([]:List Int)))
def xH(u:Nat)  : Option Bool :=
  some true
def km(u:Nat)(IF:Int->al->Option Bool)(x6:Int)(x13:Bool)(p0:al):Option Bool :=
  bif x13 then (some false) else (IF (bd .i64 x6 1) p0)
def jb(u gP:Nat)(x6:Int)(p0:al):Option Bool:=match gP with
  | 0=>none
  | gP+1=>bif decide (x6 < ((p0.aO.length:Int))) then ((dG p0.aO x6).bind λy8=>(np u y8.fS).bind λr9=>(fm u p0.aw p0.aW x6).bind λr10=>bif !r9.2 then (km u (λz0 z1=>jb u gP z0 z1) x6 true p0) else (bif ((r9.1.length:Int)) != r10.2 then (km u (λz0 z1=>jb u gP z0 z1) x6 true p0) else ((gT u r9.1).bind λr11=>(dG p0.aO x6).bind λy12=>km u (λz0 z1=>jb u gP z0 z1) x6 (!([r11.fW,r11.fS] == [y12.fW,y12.fS])) p0))) else (xH u)
def qh(u:Nat)(x4:Bool)(p0:al):Option Bool :=
  bif x4 then (some false) else (jb u u 0 p0)
def ii(u:Nat)(p0:al):Option Bool :=
  bif p0.aM == 0 then (bif p0.aw == 0 then (bif p0.aW == 0 then (some (((p0.aO.length:Int)) == 0)) else (some false)) else (some false)) else ((bM u p0.aM 1 1000000).bind λr1=>bif !r1 then (qh u true p0) else ((lU u p0.aw p0.aW).bind λr2=>bif !r2 then (qh u true p0) else ((lW u p0.aw p0.aW).bind λr3=>qh u (((p0.aO.length:Int)) != r3) p0)))
def Aa(u:Nat)(p0:al)(s:Unit):Option Bool:=(xH u)
def uO(u:Nat)(p0:al)(y8:cS)(i_:Nat)(s:Unit)(k_:Unit->Option Bool):Option Bool:=(np u y8.fS).bind λr9=>(fm u p0.aw p0.aW (i_:Int)).bind λr10=>bif !r9.2 then (km u (λz0 z1=>k_ ()) (i_:Int) true p0) else (bif ((r9.1.length:Int)) != r10.2 then (km u (λz0 z1=>k_ ()) (i_:Int) true p0) else ((gT u r9.1).bind λr11=>(dG p0.aO (i_:Int)).bind λy12=>km u (λz0 z1=>k_ ()) (i_:Int) (!([r11.fW,r11.fS] == [y12.fW,y12.fS])) p0))
theorem HA(u:Nat)(p0:al)(s:Unit)(k:Nat)(hn:p0.aO.length<=9223372036854775807)(hk:p0.aO.length < k):jb u k 0 p0=Pu.cA (Aa u p0) (uO u p0) p0.aO 0 s:=Pu.eG (λ(k:Nat) (s:Unit) (i:Int)=>jb u k i p0) hn (λ_ _ _=>rfl) s hk
def rm(u:Nat)  : Option Bool :=
  some true
def iN(u ia:Nat)(p0 p1:List cS)(x2:Int):Option Bool:=match ia with
  | 0=>none
  | ia+1=>bif decide (x2 < ((p0.length:Int))) then ((dG p0 x2).bind λy4=>(dG p1 x2).bind λy5=>bif !([y4.fW,y4.fS] == [y5.fW,y5.fS]) then (some false) else ((λz0 z1 z2=>iN u ia z0 z1 z2) p0 p1 (bd .i64 x2 1))) else (rm u)
def lG(u:Nat)(p0 p1:List cS):Option Bool :=
  bif ((p0.length:Int)) != ((p1.length:Int)) then (some false) else (iN u u p0 p1 0)
def AI(u:Nat)(p0 p1:List cS)(s:Unit):Option Bool:=(rm u)
def um(u:Nat)(p0 p1:List cS)(y4:cS)(i_:Nat)(s:Unit)(k_:Unit->Option Bool):Option Bool:=(dG p1 (i_:Int)).bind λy5=>bif !([y4.fW,y4.fS] == [y5.fW,y5.fS]) then (some false) else ((λz0 z1 z2=>k_ ()) p0 p1 (bd .i64 (i_:Int) 1))
theorem AJ(u:Nat)(p0 p1:List cS)(s:Unit)(k:Nat)(hn:p0.length<=9223372036854775807)(hk:p0.length < k):iN u k p0 p1 0=Pu.cA (AI u p0 p1) (um u p0 p1) p0 0 s:=Pu.eG (λ(k:Nat) (s:Unit) (i:Int)=>iN u k p0 p1 i) hn (λ_ _ _=>rfl) s hk
def tw(u:Nat)(p0:al)(p1:List Int):Option Bool :=
  bif ((p1.length:Int)) == p0.aW then ((nc u p1 p0.aw).bind λr1=>(lG u r1 p0.aO).bind λr2=>some r2) else (some false)
def lX(u:Nat)(p0:al):Option al :=
  (dC (decide (((([]:List cS)).length+p0.aO.length)*16<=140737488355328))).bind λ_=>some ((al.mk p0.aM p0.aw p0.aW ((([]:List cS))++p0.aO)))
def qi(u:Nat)(p0:al):Option bI :=
  (ii u p0).bind λr1=>bif !r1 then (some ((bI.mk 0 ([])))) else ((dC (decide (0<=p0.aW) && (p0.aW == 0 || p0.aW == p0.aW))).bind λ_=>(dC (decide (sY p0.aW*1<=140737488355328))).bind λ_=>some ((bI.mk 0 (zQk (sY p0.aW) (0:Int)))))
def vJ(u:Nat)(p0:Int):Option Bool :=
  (bM u p0 0 63000).bind λr1=>some r1
def nJ(u:Nat)(p0:Int):Option (Int×Int) :=
  (vJ u p0).bind λr1=>bif !r1 then (some ((0,0))) else (some ((uG .i64 p0 251,Oi .i64 p0 251)))
def tx(u:Nat)(p0 p1:Int):Option Int :=
  (bM u p1 1 1000000000000).bind λr1=>bif !r1 then (some 0) else ((dC (!(p1 == 0))).bind λ_=>(dC (!(p1 == 0))).bind λ_=>some (uG .i64 (bd .i64 (uG .i64 p0 p1) p1) p1))
def pz(u:Nat)(p0 p1:Int)(p2 p3:Int)(x5:Bool):Option Int :=
  bif x5 then (some p0) else ((nJ u p0).bind λr6=>(tx u (ez .i64 r6.2 (md .i64 (uG .i64 p1 251) p2)) 251).bind λr7=>(tx u (bd .i64 (ez .i64 r6.1 p2) p3) 251).bind λr8=>(tx u (bd .i64 r7 r8) 251).bind λr9=>some (bd .i64 r8 (md .i64 251 r9)))
def vK(u:Nat)(p0 p1:Int)(p2 p3:Int):Option Int :=
  (vJ u p0).bind λr1=>bif !r1 then (pz u p0 p1 p2 p3 true) else ((bM u p1 1 1000000000000).bind λr2=>bif !r2 then (pz u p0 p1 p2 p3 true) else ((bM u p2 0 255).bind λr3=>bif !r3 then (pz u p0 p1 p2 p3 true) else ((bM u p3 0 255).bind λr4=>pz u p0 p1 p2 p3 (!r4))))
def qN(u:Nat)(x17:List Int):Option ((List Int)) :=
  some x17
def gJ(u jM:Nat)(p0:List Int)(p1:Int)(x8:List Int)(x9 x10:Int):Option ((List Int)):=match jM with
  | 0=>none
  | jM+1=>bif decide (x10 < ((p0.length:Int))) then ((dG p0 (ez .i64 x10 p1)).bind λy14=>(dG p0 x10).bind λy15=>(vK u x9 p1 (IntKind.wrap .i64 y14) (IntKind.wrap .i64 y15)).bind λr16=>(dC (decide ((x8.length+(([r16]:List Int)).length)*8<=140737488355328))).bind λ_=>(λz0 z1 z2 z3 z4=>gJ u jM z0 z1 z2 z3 z4) p0 p1 (x8++(([r16]:List Int))) r16 (bd .i64 x10 1)) else (qN u x8)
def qO(u:Nat)(p0:List Int)(p1:Int)(x1:Bool):Option ((List Int)) :=
  bif x1 then (some (([]:List Int))) else ((dC (cO 0 p1 p0.length)).bind λ_=>(na u ((p0.take (sY p1)).drop (sY 0))).bind λr3=>(dC (decide (((([]:List Int)).length+(([r3]:List Int)).length)*8<=140737488355328))).bind λ_=>gJ u u p0 p1 ((([]:List Int))++(([r3]:List Int))) r3 p1)
def sf(u:Nat)(p0:List Int)(p1:Int):Option ((List Int)) :=
  bif decide (p1 < 1) then (qO u p0 p1 true) else (qO u p0 p1 (decide (p1 > ((p0.length:Int)))))
def Dv(u:Nat)(p0:List Int)(p1:Int)(s:(List Int)×Int):Option ((List Int)):=(qN u s.1)
def Dw(u:Nat)(p0:List Int)(p1:Int)(i_:Nat)(s:(List Int)×Int)(k_:((List Int)×Int)->Option ((List Int))):Option ((List Int)):=(dG p0 (ez .i64 (i_:Int) p1)).bind λy14=>(dG p0 (i_:Int)).bind λy15=>(vK u s.2 p1 (IntKind.wrap .i64 y14) (IntKind.wrap .i64 y15)).bind λr16=>(dC (decide ((s.1.length+(([r16]:List Int)).length)*8<=140737488355328))).bind λ_=>(λz0 z1 z2 z3 z4=>k_ (z2,z3)) p0 p1 (s.1++(([r16]:List Int))) r16 (bd .i64 (i_:Int) 1)
theorem QL(u:Nat)(p0:List Int)(p1:Int)(s:(List Int)×Int)(k:Nat)(hn:(((p0.length:Int)):Int)<=9223372036854775807)(hk:sY (((p0.length:Int))) < k):gJ u k p0 p1 s.1 s.2 0=Pu.lB (Dv u p0 p1) (Dw u p0 p1) (sY (((p0.length:Int)))) 0 s:=Pu.pi (λ(k:Nat) (s:(List Int)×Int) (i:Int)=>gJ u k p0 p1 s.1 s.2 i) hn (λ_ _ _=>rfl) s hk
def qP(u:Nat)  : Option Int :=
  some (-1)
def lH(u:Nat)(Fh:(List Int)->Int->((List Int))->Int->cS->Option Int)(p0:List Int)(p2:Int)(r2:(List Int))(x4:Int)(x9:Bool)(p1:cS):Option Int :=
  bif x9 then (some x4) else (Fh p0 p2 r2 (bd .i64 x4 1) p1)
def eJ(u gm:Nat)(p0:List Int)(p2:Int)(r2:(List Int))(x4:Int)(p1:cS):Option Int:=match gm with
  | 0=>none
  | gm+1=>bif decide (x4 < ((r2.length:Int))) then ((dG r2 x4).bind λy6=>bif y6 == p1.fW then ((dC (cO x4 (bd .i64 x4 p2) p0.length)).bind λ_=>(gT u ((p0.take (sY (bd .i64 x4 p2))).drop (sY x4))).bind λr8=>lH u (λz0 z1 z2 z3 z4=>eJ u gm z0 z1 z2 z3 z4) p0 p2 r2 x4 ([r8.fW,r8.fS] == [p1.fW,p1.fS]) p1) else (lH u (λz0 z1 z2 z3 z4=>eJ u gm z0 z1 z2 z3 z4) p0 p2 r2 x4 false p1)) else (qP u)
def sg(u:Nat)(p0:List Int)(p1:cS)(p2:Int):Option Int :=
  (bM u p2 1 6).bind λr1=>bif !r1 then (some (-1)) else ((sf u p0 p2).bind λr2=>eJ u u p0 p2 r2 0 p1)
def Dx(u:Nat)(p0:List Int)(p2:Int)(r2:(List Int))(p1:cS)(s:Unit):Option Int:=(qP u)
def Dy(u:Nat)(p0:List Int)(p2:Int)(r2:(List Int))(p1:cS)(y6:Int)(i_:Nat)(s:Unit)(k_:Unit->Option Int):Option Int:=bif y6 == p1.fW then ((dC (cO (i_:Int) (bd .i64 (i_:Int) p2) p0.length)).bind λ_=>(gT u ((p0.take (sY (bd .i64 (i_:Int) p2))).drop (sY (i_:Int)))).bind λr8=>lH u (λz0 z1 z2 z3 z4=>k_ ()) p0 p2 r2 (i_:Int) ([r8.fW,r8.fS] == [p1.fW,p1.fS]) p1) else (lH u (λz0 z1 z2 z3 z4=>k_ ()) p0 p2 r2 (i_:Int) false p1)
theorem QM(u:Nat)(p0:List Int)(p2:Int)(r2:(List Int))(p1:cS)(s:Unit)(k:Nat)(hn:r2.length<=9223372036854775807)(hk:r2.length < k):eJ u k p0 p2 r2 0 p1=Pu.cA (Dx u p0 p2 r2 p1) (Dy u p0 p2 r2 p1) r2 0 s:=Pu.eG (λ(k:Nat) (s:Unit) (i:Int)=>eJ u k p0 p2 r2 i p1) hn (λ_ _ _=>rfl) s hk
def qQ(u:Nat)(p0:List Int)(p2:Int)(r1:Int×Int)(x2:Bool)(p1:al):Option Int :=
  bif x2 then (some (-1)) else ((dG p1.aO p2).bind λy3=>(sg u p0 y3 r1.2).bind λr4=>some r4)
def pA(u:Nat)(p0:List Int)(p1:al)(p2:Int):Option Int :=
  (fm u p1.aw p1.aW p2).bind λr1=>bif r1.2 == 0 then (qQ u p0 p2 r1 true p1) else (qQ u p0 p2 r1 (decide (p2>=((p1.aO.length:Int)))) p1)
def ek(u:Nat)(p0:Int):Option Bool :=
  (bM u p0 0 1099511627775).bind λr1=>some r1
def eD(u:Nat)(p0 p1:Int):Option Bool :=
  (ek u p0).bind λr1=>bif r1 then ((bM u p1 0 39).bind λr2=>bif r2 then ((dC (decide (0<=p1))).bind λ_=>some ((fK .i64 (nD .i64 p0 p1) 1) == 1)) else (some false)) else (some false)
def mD(u:Nat)(p0 p1:Int)(x3:Bool):Option Int :=
  bif x3 then (some p0) else ((dC (decide (0<=p1))).bind λ_=>some (xO .i64 p0 (jF .i64 1 p1)))
def ib(u:Nat)(p0 p1:Int):Option Int :=
  (ek u p0).bind λr1=>bif !r1 then (mD u p0 p1 true) else ((bM u p1 0 39).bind λr2=>mD u p0 p1 (!r2))
def t8(u:Nat)(p2:Int)(p1:bI)(x15:List Int):Option (Bool×bI) :=
  (ib u p1.bq p2).bind λr16=>some ((true,(bI.mk r16 x15)))
def n8(u lS:Nat)(p2:Int)(p3:List Int)(r6:Int×Int)(x9:Int)(p1:bI)(x10:List Int):Option (Bool×bI):=match lS with
  | 0=>none
  | lS+1=>bif decide (x9 < ((p3.length:Int))) then ((dG p3 x9).bind λy13=>(dG x10 (bd .i64 r6.1 x9)).bind λy14=>(λz0 z1 z2 z3 z4 z5=>n8 u lS z0 z1 z2 z3 z4 z5) p2 p3 r6 (bd .i64 x9 1) p1 (x10.set (sY (bd .i64 r6.1 x9)) y13)) else (t8 u p2 p1 x10)
def n9(u:Nat)(p2:Int)(p3:List Int)(x5:Bool)(p0:al)(p1:bI):Option (Bool×bI) :=
  bif x5 then (some ((false,p1))) else ((fm u p0.aw p0.aW p2).bind λr6=>n8 u u p2 p3 r6 0 p1 p1.b9)
def rn(u:Nat)(p0:al)(p1:bI)(p2:Int)(p3:List Int):Option (Bool×bI) :=
  (bM u p2 0 (ez .i64 ((p0.aO.length:Int)) 1)).bind λr1=>bif !r1 then (n9 u p2 p3 true p0 p1) else ((eD u p1.bq p2).bind λr2=>bif r2 then (n9 u p2 p3 true p0 p1) else ((gT u p3).bind λr3=>(dG p0.aO p2).bind λy4=>bif !([r3.fW,r3.fS] == [y4.fW,y4.fS]) then (n9 u p2 p3 true p0 p1) else (n9 u p2 p3 (decide (((p3.length:Int)) > 6)) p0 p1)))
def uP(u:Nat)(p2:Int)(p3:List Int)(r6:Int×Int)(p1:bI)(s:(List Int)):Option (Bool×bI):=(t8 u p2 p1 s)
def uQ(u:Nat)(p2:Int)(p3:List Int)(r6:Int×Int)(p1:bI)(y13:Int)(i_:Nat)(s:(List Int))(k_:((List Int))->Option (Bool×bI)):Option (Bool×bI):=(dG s (bd .i64 r6.1 (i_:Int))).bind λy14=>(λz0 z1 z2 z3 z4 z5=>k_ z5) p2 p3 r6 (bd .i64 (i_:Int) 1) p1 (s.set (sY (bd .i64 r6.1 (i_:Int))) y13)
theorem HB(u:Nat)(p2:Int)(p3:List Int)(r6:Int×Int)(p1:bI)(s:(List Int))(k:Nat)(hn:p3.length<=9223372036854775807)(hk:p3.length < k):n8 u k p2 p3 r6 0 p1 s=Pu.cA (uP u p2 p3 r6 p1) (uQ u p2 p3 r6 p1) p3 0 s:=Pu.eG (λ(k:Nat) (s:(List Int)) (i:Int)=>n8 u k p2 p3 r6 i p1 s) hn (λ_ _ _=>rfl) s hk
def si(u:Nat)(x18:Int)(x19:List Int):Option bI :=
  some ((bI.mk x18 x19))
def jG(u:Nat)(B6:(List Int)->Int->al->Int->(List Int)->Option bI)(p1:List Int)(x6:Int)(p0:al)(x16:Int)(x17:List Int):Option bI :=
  B6 p1 (bd .i64 x6 1) p0 x16 x17
def f7(u eT:Nat)(p1:List Int)(x6:Int)(p0:al)(x7:Int)(x8:List Int):Option bI:=match eT with
  | 0=>none
  | eT+1=>bif decide (x6 < ((p0.aO.length:Int))) then ((pA u p1 p0 x6).bind λr12=>(fm u p0.aw p0.aW x6).bind λr13=>bif decide (r12>=0) then ((dC (cO r12 (bd .i64 r12 r13.2) p1.length)).bind λ_=>(rn u p0 ((bI.mk x7 x8)) x6 ((p1.take (sY (bd .i64 r12 r13.2))).drop (sY r12))).bind λr15=>jG u (λz0 z1 z2 z3 z4=>f7 u eT z0 z1 z2 z3 z4) p1 x6 p0 r15.2.bq r15.2.b9) else (jG u (λz0 z1 z2 z3 z4=>f7 u eT z0 z1 z2 z3 z4) p1 x6 p0 x7 x8)) else (si u x7 x8)
def mE(u:Nat)(p0:al)(p1:List Int):Option bI :=
  (qi u p0).bind λr1=>(ii u p0).bind λr2=>bif !r2 then (some r1) else (f7 u u p1 0 p0 r1.bq r1.b9)
def ve(u:Nat)(p1:List Int)(p0:al)(s:Int×(List Int)):Option bI:=(si u s.1 s.2)
def p7(u:Nat)(p1:List Int)(p0:al)(i_:Nat)(s:Int×(List Int))(k_:(Int×(List Int))->Option bI):Option bI:=(pA u p1 p0 (i_:Int)).bind λr12=>(fm u p0.aw p0.aW (i_:Int)).bind λr13=>bif decide (r12>=0) then ((dC (cO r12 (bd .i64 r12 r13.2) p1.length)).bind λ_=>(rn u p0 ((bI.mk s.1 s.2)) (i_:Int) ((p1.take (sY (bd .i64 r12 r13.2))).drop (sY r12))).bind λr15=>jG u (λz0 z1 z2 z3 z4=>k_ (z3,z4)) p1 (i_:Int) p0 r15.2.bq r15.2.b9) else (jG u (λz0 z1 z2 z3 z4=>k_ (z3,z4)) p1 (i_:Int) p0 s.1 s.2)
theorem B0(u:Nat)(p1:List Int)(p0:al)(s:Int×(List Int))(k:Nat)(hn:(((p0.aO.length:Int)):Int)<=9223372036854775807)(hk:sY (((p0.aO.length:Int))) < k):f7 u k p1 0 p0 s.1 s.2=Pu.lB (ve u p1 p0) (p7 u p1 p0) (sY (((p0.aO.length:Int)))) 0 s:=Pu.pi (λ(k:Nat) (s:Int×(List Int)) (i:Int)=>f7 u k p1 i p0 s.1 s.2) hn (λ_ _ _=>rfl) s hk
def mF(u:Nat)(p1:List Int)(x3:Bool)(p0:al):Option aC :=
  bif x3 then (some ((aC.mk false 0 0 ((al.mk 0 0 0 ([]))) ((bI.mk 0 ([]))) 0 ([]) 0))) else ((lX u p0).bind λr4=>(mE u p0 p1).bind λr5=>some ((aC.mk true (-1) 0 r4 r5 6 ([]) 0)))
def oa(u:Nat)(p0:al)(p1:List Int):Option aC :=
  bif p0.aM == 0 then (mF u p1 true p0) else ((ii u p0).bind λr1=>bif !r1 then (mF u p1 true p0) else ((tw u p0 p1).bind λr2=>mF u p1 (!r2) p0))
def nK(u:Nat)(p0:Int)(p1:List Int)(x2:Bool):Option am :=
  bif x2 then (some ((am.mk ([]) ([]) ((cT.mk 0 0 0)) ([])))) else ((dC (decide (((([]:List Int)).length+p1.length)*1<=140737488355328))).bind λ_=>some ((am.mk ((([]:List Int))++p1) ([]) ((cT.mk p0 0 ((p1.length:Int)))) ([]))))
def lY(u:Nat)(p0:Int)(p1:List Int):Option am :=
  (bM u p0 0 1000000).bind λr1=>bif !r1 then (nK u p0 p1 true) else (nK u p0 p1 (decide (((p1.length:Int)) > 240)))
def pB(u:Nat)(p0:ig)(p1:cX)(p2:List Int)(r8:(List aY))(x36:List aC)(x37:List am):Option World :=
  some ((World.mk p0 ((cX.mk ((([]:List Int))++p1.ca))) ((([]:List Int))++p2) r8 x36 x37 ([]) ([]) 0))
def iO(u:Nat)(Dp:(List Int)->(List aY)->Int->ig->cX->((List aY))->(List aC)->(List am)->Option World)(p2:List Int)(p3:List aY)(x12:Int)(p0:ig)(p1:cX)(r8:(List aY))(x13:List aC)(x14:List am)(x21:Bool)(x22 x23:Int)(x24 x25 x26:Int)(x27:List cS)(x28:Int)(x29:List Int)(x30:Int)(x31:List bS)(x32:Int):Option World :=
  (dC (decide ((x13.length+([(aC.mk x21 x22 x23 ((al.mk x24 x25 x26 x27)) ((bI.mk x28 x29)) x30 x31 x32)]).length)*144<=140737488355328))).bind λ_=>(dG p3 x12).bind λy34=>(lY u 0 y34.fB).bind λr35=>(dC (decide ((x14.length+([r35]).length)*96<=140737488355328))).bind λ_=>Dp p2 p3 (bd .i64 x12 1) p0 p1 r8 (x13++([(aC.mk x21 x22 x23 ((al.mk x24 x25 x26 x27)) ((bI.mk x28 x29)) x30 x31 x32)])) (x14++([r35]))
def dI(u fu:Nat)(p2:List Int)(p3:List aY)(x12:Int)(p0:ig)(p1:cX)(r8:(List aY))(x13:List aC)(x14:List am):Option World:=match fu with
  | 0=>none
  | fu+1=>bif decide (x12 < ((p1.ca.length:Int))) then ((mn u p1 x12).bind λr18=>bif x12 == 0 then ((tv u ((World.mk p0 ((cX.mk ((([]:List Int))++p1.ca))) ((([]:List Int))++p2) r8 x13 x14 ([]) ([]) 0))).bind λr19=>(oa u r19 p2).bind λr20=>iO u (λz0 z1 z2 z3 z4 z5 z6 z7=>dI u fu z0 z1 z2 z3 z4 z5 z6 z7) p2 p3 x12 p0 p1 r8 x13 x14 r20.fL r20.bR r20.bG r20.ay.aM r20.ay.aw r20.ay.aW r20.ay.aO r20.bB.bq r20.bB.b9 r20.bc r20.bi r20.bw) else (iO u (λz0 z1 z2 z3 z4 z5 z6 z7=>dI u fu z0 z1 z2 z3 z4 z5 z6 z7) p2 p3 x12 p0 p1 r8 x13 x14 r18.fL r18.bR r18.bG r18.ay.aM r18.ay.aw r18.ay.aW r18.ay.aO r18.bB.bq r18.bB.b9 r18.bc r18.bi r18.bw)) else (pB u p0 p1 p2 r8 x13 x14)
def kF(u:Nat)(p2:List Int)(p3:List aY)(x5:Bool)(p0:ig)(p1:cX):Option World :=
  bif x5 then (some ((World.mk ((ig.mk 0 0 0 0)) ((cX.mk ([]))) ([]) ([]) ([]) ([]) ([]) ([]) 0))) else ((dC (decide (((([]:List Int)).length+p1.ca.length)*8<=140737488355328))).bind λ_=>(dC (decide (((([]:List Int)).length+p2.length)*1<=140737488355328))).bind λ_=>(gy u p3).bind λr8=>dI u u p2 p3 0 p0 p1 r8 ([]) ([]))
def qj(u:Nat)(p0:ig)(p1:cX)(p2:List Int)(p3:List aY):Option World :=
  (ul u p0).bind λr1=>bif !r1 then (kF u p2 p3 true p0 p1) else ((oM u p1).bind λr2=>bif !r2 then (kF u p2 p3 true p0 p1) else ((lU u p0.aw ((p2.length:Int))).bind λr3=>bif !r3 then (kF u p2 p3 true p0 p1) else ((rX u p3 ((p1.ca.length:Int))).bind λr4=>kF u p2 p3 (!r4) p0 p1)))
def Cw(u:Nat)(p2:List Int)(p3:List aY)(p0:ig)(p1:cX)(r8:(List aY))(s:(List aC)×(List am)):Option World:=(pB u p0 p1 p2 r8 s.1 s.2)
def Cx(u:Nat)(p2:List Int)(p3:List aY)(p0:ig)(p1:cX)(r8:(List aY))(i_:Nat)(s:(List aC)×(List am))(k_:((List aC)×(List am))->Option World):Option World:=(mn u p1 (i_:Int)).bind λr18=>bif (i_:Int) == 0 then ((tv u ((World.mk p0 ((cX.mk ((([]:List Int))++p1.ca))) ((([]:List Int))++p2) r8 s.1 s.2 ([]) ([]) 0))).bind λr19=>(oa u r19 p2).bind λr20=>iO u (λz0 z1 z2 z3 z4 z5 z6 z7=>k_ (z6,z7)) p2 p3 (i_:Int) p0 p1 r8 s.1 s.2 r20.fL r20.bR r20.bG r20.ay.aM r20.ay.aw r20.ay.aW r20.ay.aO r20.bB.bq r20.bB.b9 r20.bc r20.bi r20.bw) else (iO u (λz0 z1 z2 z3 z4 z5 z6 z7=>k_ (z6,z7)) p2 p3 (i_:Int) p0 p1 r8 s.1 s.2 r18.fL r18.bR r18.bG r18.ay.aM r18.ay.aw r18.ay.aW r18.ay.aO r18.bB.bq r18.bB.b9 r18.bc r18.bi r18.bw)
theorem PB(u:Nat)(p2:List Int)(p3:List aY)(p0:ig)(p1:cX)(r8:(List aY))(s:(List aC)×(List am))(k:Nat)(hn:(((p1.ca.length:Int)):Int)<=9223372036854775807)(hk:sY (((p1.ca.length:Int))) < k):dI u k p2 p3 0 p0 p1 r8 s.1 s.2=Pu.lB (Cw u p2 p3 p0 p1 r8) (Cx u p2 p3 p0 p1 r8) (sY (((p1.ca.length:Int)))) 0 s:=Pu.pi (λ(k:Nat) (s:(List aC)×(List am)) (i:Int)=>dI u k p2 p3 i p0 p1 r8 s.1 s.2) hn (λ_ _ _=>rfl) s hk
def sj(u:Nat)(r2:(List Int)×aH)(x19:List aY)(r1:cX×aH)(x20:List Int)(x21 x22:Int):Option (World×aH) :=
  (pu u ((aH.mk x20 x21 x22))).bind λr23=>(qj u r23.1 r1.1 r2.1 x19).bind λr24=>some ((r24,r23.2))
def ij(u kZ:Nat)(r2:(List Int)×aH)(x8:List aY)(x9:Int)(r1:cX×aH)(x10:List Int)(x11 x12:Int):Option (World×aH):=match kZ with
  | 0=>none
  | kZ+1=>bif decide (x9 < ((r1.1.ca.length:Int))) then ((rj u ((aH.mk x10 x11 x12)) r2.1).bind λr18=>(dC (decide ((x8.length+([(aY.mk r18.1)]).length)*24<=140737488355328))).bind λ_=>(λz0 z1 z2 z3 z4 z5 z6=>ij u kZ z0 z1 z2 z3 z4 z5 z6) r2 (x8++([(aY.mk r18.1)])) (bd .i64 x9 1) r1 r18.2.fB r18.2.fI r18.2.fH) else (sj u r2 x8 r1 x10 x11 x12)
def un(u:Nat)(p0:aH):Option (World×aH) :=
  (pt u p0).bind λr1=>(lT u r1.2).bind λr2=>ij u u r2 (([]:List aY)) 0 r1 r2.2.fB r2.2.fI r2.2.fH
def Fn(u:Nat)(r2:(List Int)×aH)(r1:cX×aH)(s:(List aY)×(List Int)×Int×Int):Option (World×aH):=(sj u r2 s.1 r1 s.2.1 s.2.2.1 s.2.2.2)
def Fo(u:Nat)(r2:(List Int)×aH)(r1:cX×aH)(i_:Nat)(s:(List aY)×(List Int)×Int×Int)(k_:((List aY)×(List Int)×Int×Int)->Option (World×aH)):Option (World×aH):=(rj u ((aH.mk s.2.1 s.2.2.1 s.2.2.2)) r2.1).bind λr18=>(dC (decide ((s.1.length+([(aY.mk r18.1)]).length)*24<=140737488355328))).bind λ_=>(λz0 z1 z2 z3 z4 z5 z6=>k_ (z1,z4,z5,z6)) r2 (s.1++([(aY.mk r18.1)])) (bd .i64 (i_:Int) 1) r1 r18.2.fB r18.2.fI r18.2.fH
theorem Rp(u:Nat)(r2:(List Int)×aH)(r1:cX×aH)(s:(List aY)×(List Int)×Int×Int)(k:Nat)(hn:(((r1.1.ca.length:Int)):Int)<=9223372036854775807)(hk:sY (((r1.1.ca.length:Int))) < k):ij u k r2 s.1 0 r1 s.2.1 s.2.2.1 s.2.2.2=Pu.lB (Fn u r2 r1) (Fo u r2 r1) (sY (((r1.1.ca.length:Int)))) 0 s:=Pu.pi (λ(k:Nat) (s:(List aY)×(List Int)×Int×Int) (i:Int)=>ij u k r2 s.1 i r1 s.2.1 s.2.2.1 s.2.2.2) hn (λ_ _ _=>rfl) s hk
def nd(u:Nat)(p0:bI):Option bI :=
  (dC (decide (((([]:List Int)).length+p0.b9.length)*1<=140737488355328))).bind λ_=>some ((bI.mk p0.bq ((([]:List Int))++p0.b9)))
def dz(u:Nat)(p0:aC):Option aC :=
  (lX u p0.ay).bind λr1=>(nd u p0.bB).bind λr2=>(dC (decide (((([]:List bS)).length+p0.bi.length)*40<=140737488355328))).bind λ_=>some ((aC.mk p0.fL p0.bR p0.bG r1 r2 p0.bc ((([]:List bS))++p0.bi) p0.bw))
def gz(u:Nat)(p0:ct):Option ct :=
  (dC (decide (((([]:List Int)).length+p0.fB.length)*1<=140737488355328))).bind λ_=>some ((ct.mk p0.gq p0.vI ((([]:List Int))++p0.fB) p0.fR))
def sm(u:Nat)(p0:am)(x11:List ct):Option am :=
  some ((am.mk ((([]:List Int))++p0.fA) ((([]:List Int))++p0.fB) p0.fR x11))
def jn(u fY:Nat)(x5:Int)(p0:am)(x6:List ct):Option am:=match fY with
  | 0=>none
  | fY+1=>bif decide (x5 < ((p0.fP.length:Int))) then ((dG p0.fP x5).bind λy9=>(gz u y9).bind λr10=>(dC (decide ((x6.length+([r10]).length)*64<=140737488355328))).bind λ_=>(λz0 z1 z2=>jn u fY z0 z1 z2) (bd .i64 x5 1) p0 (x6++([r10]))) else (sm u p0 x6)
def d9(u:Nat)(p0:am):Option am :=
  (dC (decide (((([]:List Int)).length+p0.fA.length)*1<=140737488355328))).bind λ_=>(dC (decide (((([]:List Int)).length+p0.fB.length)*1<=140737488355328))).bind λ_=>jn u u 0 p0 (([]:List ct))
def Fq(u:Nat)(p0:am)(s:(List ct)):Option am:=(sm u p0 s)
def yi(u:Nat)(p0:am)(y9:ct)(i_:Nat)(s:(List ct))(k_:((List ct))->Option am):Option am:=(gz u y9).bind λr10=>(dC (decide ((s.length+([r10]).length)*64<=140737488355328))).bind λ_=>(λz0 z1 z2=>k_ z2) (bd .i64 (i_:Int) 1) p0 (s++([r10]))
theorem Fs(u:Nat)(p0:am)(s:(List ct))(k:Nat)(hn:p0.fP.length<=9223372036854775807)(hk:p0.fP.length < k):jn u k 0 p0 s=Pu.cA (Fq u p0) (yi u p0) p0.fP 0 s:=Pu.eG (λ(k:Nat) (s:(List ct)) (i:Int)=>jn u k i p0 s) hn (λ_ _ _=>rfl) s hk
def ka(u:Nat)(x10:List ai):Option ((List ai)) :=
  some x10
def dP(u cZ:Nat)(p0 x3:List ai)(x4:Int):Option ((List ai)):=match cZ with
  | 0=>none
  | cZ+1=>bif decide (x4 < ((p0.length:Int))) then ((dG p0 x4).bind λy7=>(dG p0 x4).bind λy8=>(dG p0 x4).bind λy9=>(dC (decide (((([]:List Int)).length+y9.fB.length)*1<=140737488355328))).bind λ_=>(dC (decide ((x3.length+([(ai.mk y7.dt y8.tl ((([]:List Int))++y9.fB))]).length)*40<=140737488355328))).bind λ_=>(λz0 z1 z2=>dP u cZ z0 z1 z2) p0 (x3++([(ai.mk y7.dt y8.tl ((([]:List Int))++y9.fB))])) (bd .i64 x4 1)) else (ka u x3)
def f0(u:Nat)(p0:List ai):Option ((List ai)) :=
  dP u u p0 (([]:List ai)) 0
def xI(u:Nat)(p0:List ai)(s:(List ai)):Option ((List ai)):=(ka u s)
def qk(u:Nat)(p0:List ai)(y7:ai)(i_:Nat)(s:(List ai))(k_:((List ai))->Option ((List ai))):Option ((List ai)):=(dG p0 (i_:Int)).bind λy8=>(dG p0 (i_:Int)).bind λy9=>(dC (decide (((([]:List Int)).length+y9.fB.length)*1<=140737488355328))).bind λ_=>(dC (decide ((s.length+([(ai.mk y7.dt y8.tl ((([]:List Int))++y9.fB))]).length)*40<=140737488355328))).bind λ_=>(λz0 z1 z2=>k_ z1) p0 (s++([(ai.mk y7.dt y8.tl ((([]:List Int))++y9.fB))])) (bd .i64 (i_:Int) 1)
theorem xJ(u:Nat)(p0:List ai)(s:(List ai))(k:Nat)(hn:p0.length<=9223372036854775807)(hk:p0.length < k):dP u k p0 s 0=Pu.cA (xI u p0) (qk u p0) p0 0 s:=Pu.eG (λ(k:Nat) (s:(List ai)) (i:Int)=>dP u k p0 s i) hn (λ_ _ _=>rfl) s hk
def nL(u:Nat)(p0:World)(r3:(List aY))(x12:List aC)(x21:List am):Option World :=
  (f0 u p0.bn).bind λr22=>(dC (decide (((([]:List cH)).length+p0.cN.length)*24<=140737488355328))).bind λ_=>some ((World.mk p0.fC ((cX.mk ((([]:List Int))++p0.fT.ca))) ((([]:List Int))++p0.bK) r3 x12 x21 r22 ((([]:List cH))++p0.cN) p0.bl))
def fy(u eZ:Nat)(x15:Int)(p0:World)(r3:(List aY))(x12:List aC)(x16:List am):Option World:=match eZ with
  | 0=>none
  | eZ+1=>bif decide (x15 < ((p0.fD.length:Int))) then ((dG p0.fD x15).bind λy19=>(d9 u y19).bind λr20=>(dC (decide ((x16.length+([r20]).length)*96<=140737488355328))).bind λ_=>(λz0 z1 z2 z3 z4=>fy u eZ z0 z1 z2 z3 z4) (bd .i64 x15 1) p0 r3 x12 (x16++([r20]))) else (nL u p0 r3 x12 x16)
def nM(u:Nat)(p0:World)(r3:(List aY))(x12:List aC):Option World :=
  fy u u 0 p0 r3 x12 (([]:List am))
def fE(u fa:Nat)(x6:Int)(p0:World)(r3:(List aY))(x7:List aC):Option World:=match fa with
  | 0=>none
  | fa+1=>bif decide (x6 < ((p0.fN.length:Int))) then ((dG p0.fN x6).bind λy10=>(dz u y10).bind λr11=>(dC (decide ((x7.length+([r11]).length)*144<=140737488355328))).bind λ_=>(λz0 z1 z2 z3=>fE u fa z0 z1 z2 z3) (bd .i64 x6 1) p0 r3 (x7++([r11]))) else (nM u p0 r3 x7)
def nq(u:Nat)(p0:World):Option World :=
  (dC (decide (((([]:List Int)).length+p0.fT.ca.length)*8<=140737488355328))).bind λ_=>(dC (decide (((([]:List Int)).length+p0.bK.length)*1<=140737488355328))).bind λ_=>(gy u p0.bA).bind λr3=>fE u u 0 p0 r3 (([]:List aC))
def wX(u:Nat)(p0:World)(r3:(List aY))(x12:List aC)(s:(List am)):Option World:=(nL u p0 r3 x12 s)
def wY(u:Nat)(p0:World)(r3:(List aY))(x12:List aC)(y19:am)(i_:Nat)(s:(List am))(k_:((List am))->Option World):Option World:=(d9 u y19).bind λr20=>(dC (decide ((s.length+([r20]).length)*96<=140737488355328))).bind λ_=>(λz0 z1 z2 z3 z4=>k_ z4) (bd .i64 (i_:Int) 1) p0 r3 x12 (s++([r20]))
theorem Dz(u:Nat)(p0:World)(r3:(List aY))(x12:List aC)(s:(List am))(k:Nat)(hn:p0.fD.length<=9223372036854775807)(hk:p0.fD.length < k):fy u k 0 p0 r3 x12 s=Pu.cA (wX u p0 r3 x12) (wY u p0 r3 x12) p0.fD 0 s:=Pu.eG (λ(k:Nat) (s:(List am)) (i:Int)=>fy u k i p0 r3 x12 s) hn (λ_ _ _=>rfl) s hk
def wZ(u:Nat)(p0:World)(r3:(List aY))(s:(List aC)):Option World:=(nM u p0 r3 s)
def w4(u:Nat)(p0:World)(r3:(List aY))(y10:aC)(i_:Nat)(s:(List aC))(k_:((List aC))->Option World):Option World:=(dz u y10).bind λr11=>(dC (decide ((s.length+([r11]).length)*144<=140737488355328))).bind λ_=>(λz0 z1 z2 z3=>k_ z3) (bd .i64 (i_:Int) 1) p0 r3 (s++([r11]))
theorem DA(u:Nat)(p0:World)(r3:(List aY))(s:(List aC))(k:Nat)(hn:p0.fN.length<=9223372036854775807)(hk:p0.fN.length < k):fE u k 0 p0 r3 s=Pu.cA (wZ u p0 r3) (w4 u p0 r3) p0.fN 0 s:=Pu.eG (λ(k:Nat) (s:(List aC)) (i:Int)=>fE u k i p0 r3 s) hn (λ_ _ _=>rfl) s hk
def oO(u:Nat)(p0:aH):Option (al×(List Int)×aH) :=
  (lT u p0).bind λr1=>(be u r1.2 5).bind λr2=>(be u r2.2 5).bind λr3=>(tu u (bd .i64 1 r2.1) r1.1 (bd .i64 2 r3.1)).bind λr4=>some ((r4,r1.1,r3.2))
def vX(u:Nat)(p0:aH):Option (Int×aH) :=
  (jk u p0 3).bind λr1=>bif r1.1 then ((dE u r1.2 (([0,1,3,1099511627775,549755813888]:List Int))).bind λr2=>some ((r2.1,r2.2))) else ((be u r1.2 65536).bind λr3=>(be u r3.2 20).bind λr4=>(dC (decide (0<=r4.1))).bind λ_=>some ((jF .i64 r3.1 r4.1,r4.2)))
def sn(u:Nat)(p0 p1 p2:Int):Option fc :=
  some ((fc.mk 2 p0 ((al.mk 0 0 0 ([]))) p1 p2 0 ([])))
def lZ(u:Nat)(p0 p1:Int)(p2:List Int):Option fc :=
  (dC (decide (((([]:List Int)).length+p2.length)*1<=140737488355328))).bind λ_=>some ((fc.mk 3 p0 ((al.mk 0 0 0 ([]))) 0 0 p1 ((([]:List Int))++p2)))
def so(u:Nat)(p0:aH):Option (fc×aH) :=
  (be u p0 4).bind λr1=>bif r1.1 == 0 then ((oO u r1.2).bind λr2=>some (((fc.mk 1 0 r2.1 0 0 0 ([])),r2.2.2))) else (bif r1.1 == 1 then ((vX u r1.2).bind λr3=>(be u r3.2 3).bind λr4=>(be u r4.2 64).bind λr5=>(sn u r4.1 r3.1 r5.1).bind λr6=>some ((r6,r5.2))) else (bif r1.1 == 2 then ((gI u r1.2 5).bind λr7=>(dC (decide (((([112]:List Int)).length+r7.1.length)*1<=140737488355328))).bind λ_=>(be u r7.2 3).bind λr9=>(be u r9.2 9).bind λr10=>(lZ u (bd .i64 1 r9.1) r10.1 ((([112]:List Int))++r7.1)).bind λr11=>some ((r11,r10.2))) else ((be u r1.2 3).bind λr12=>some (((fc.mk 4 r12.1 ((al.mk 0 0 0 ([]))) 0 0 0 ([])),r12.2)))))
def pC(u:Nat)(p0 p1:al):Option Bool :=
  bif p0.aM == p1.aM then (bif p0.aw == p1.aw then (bif p0.aW == p1.aW then ((lG u p0.aO p1.aO).bind λr1=>some r1) else (some false)) else (some false)) else (some false)
def oc(u:Nat)(r1 x2:Bool)(p0:fc):Option Bool :=
  bif p0.br == 1 then (bif p0.aM == 0 then (bif p0.ay.aM != 0 then ((ii u p0.ay).bind λr3=>bif r3 then (some x2) else (some false)) else (some false)) else (some false)) else (bif p0.br == 2 then ((bM u p0.aM 0 1000000).bind λr4=>bif r4 then (bif r1 then ((ek u p0.cn).bind λr5=>bif r5 then ((ek u p0.ci).bind λr6=>bif r6 then (bif p0.fI == 0 then (some (((p0.fB.length:Int)) == 0)) else (some false)) else (some false)) else (some false)) else (some false)) else (some false)) else (bif p0.br == 3 then ((bM u p0.aM 1 1000000).bind λr7=>bif r7 then (bif r1 then (bif p0.cn == 0 then (bif p0.ci == 0 then ((bM u p0.fI 0 39).bind λr8=>bif r8 then ((bM u ((p0.fB.length:Int)) 1 6).bind λr9=>some r9) else (some false)) else (some false)) else (some false)) else (some false)) else (some false)) else (bif p0.br == 4 then ((bM u p0.aM 0 1000000).bind λr10=>bif r10 then (bif r1 then (some x2) else (some false)) else (some false)) else (some false))))
def tz(u:Nat)(p0:fc):Option Bool :=
  (pC u p0.ay ((al.mk 0 0 0 ([])))).bind λr1=>bif p0.cn == 0 then (bif p0.ci == 0 then (bif p0.fI == 0 then (oc u r1 (((p0.fB.length:Int)) == 0) p0) else (oc u r1 false p0)) else (oc u r1 false p0)) else (oc u r1 false p0)
def sq(u:Nat)(x9:Int)(x10:List Int):Option ((List Int)) :=
  (dC (decide ((x10.length+(([IntKind.wrap .u8 x9]:List Int)).length)*1<=140737488355328))).bind λ_=>some (x10++(([IntKind.wrap .u8 x9]:List Int)))
def k8(u kU:Nat)(x5:Int)(x6:List Int):Option ((List Int)):=match kU with
  | 0=>none
  | kU+1=>bif decide (x5 > 127) then ((dC (decide ((x6.length+(([IntKind.wrap .u8 (xO .i64 (fK .i64 x5 127) 128)]:List Int)).length)*1<=140737488355328))).bind λ_=>(λz0 z1=>k8 u kU z0 z1) (nD .i64 x5 7) (x6++(([IntKind.wrap .u8 (xO .i64 (fK .i64 x5 127) 128)]:List Int)))) else (sq u x5 x6)
def ed(u:Nat)(p0:List Int)(p1:Int):Option ((List Int)) :=
  (dC (decide (((([]:List Int)).length+p0.length)*1<=140737488355328))).bind λ_=>(bM u p1 0 1000000000000).bind λr2=>bif !r2 then (some ((([]:List Int))++p0)) else (k8 u u p1 ((([]:List Int))++p0))
def pD(u:Nat)(x7:List Int)(x8:Int):Option ((List Int)) :=
  (dC (decide ((x7.length+(([IntKind.wrap .u8 x8]:List Int)).length)*1<=140737488355328))).bind λ_=>some (x7++(([IntKind.wrap .u8 x8]:List Int)))
def iP(u i8:Nat)(x3:List Int)(x4:Int):Option ((List Int)):=match i8 with
  | 0=>none
  | i8+1=>bif decide (x4 > 127) then ((dC (decide ((x3.length+(([IntKind.wrap .u8 (xO .i64 (fK .i64 x4 127) 128)]:List Int)).length)*1<=140737488355328))).bind λ_=>(λz0 z1=>iP u i8 z0 z1) (x3++(([IntKind.wrap .u8 (xO .i64 (fK .i64 x4 127) 128)]:List Int))) (nD .i64 x4 7)) else (pD u x3 x4)
def ql(u:Nat)(p0:List Int)(p1:Int):Option ((List Int)) :=
  iP u u p0 p1
def vY(u:Nat)(x14:List Int):Option ((List Int)) :=
  some x14
def mG(u kT:Nat)(x8:List Int)(x9:Int)(p1:al):Option ((List Int)):=match kT with
  | 0=>none
  | kT+1=>bif decide (x9 < ((p1.aO.length:Int))) then ((dG p1.aO x9).bind λy12=>(ql u x8 y12.fS).bind λr13=>(λz0 z1 z2=>mG u kT z0 z1 z2) r13 (bd .i64 x9 1) p1) else (vY u x8)
def uo(u:Nat)(p0:List Int)(p1:al):Option ((List Int)) :=
  (dC (decide (((([]:List Int)).length+p0.length)*1<=140737488355328))).bind λ_=>(ii u p1).bind λr2=>bif !r2 then (some ((([]:List Int))++p0)) else ((ed u ((([]:List Int))++p0) p1.aM).bind λr3=>(ed u r3 p1.aw).bind λr4=>(ed u r4 p1.aW).bind λr5=>mG u u r5 0 p1)
def yj(u:Nat)(p1:al)(s:(List Int)):Option ((List Int)):=(vY u s)
def tA(u:Nat)(p1:al)(y12:cS)(i_:Nat)(s:(List Int))(k_:((List Int))->Option ((List Int))):Option ((List Int)):=(ql u s y12.fS).bind λr13=>(λz0 z1 z2=>k_ z0) r13 (bd .i64 (i_:Int) 1) p1
theorem Ft(u:Nat)(p1:al)(s:(List Int))(k:Nat)(hn:p1.aO.length<=9223372036854775807)(hk:p1.aO.length < k):mG u k s 0 p1=Pu.cA (yj u p1) (tA u p1) p1.aO 0 s:=Pu.eG (λ(k:Nat) (s:(List Int)) (i:Int)=>mG u k s i p1) hn (λ_ _ _=>rfl) s hk
def su(u:Nat)(p0:Int):Option (Int×Int) :=
  some ((fK .i64 p0 1048575,nD .i64 p0 20))
def vq(u:Nat)(p0 p1:List Int):Option ((List Int)) :=
  (ed u p0 ((p1.length:Int))).bind λr1=>(dC (decide ((r1.length+p1.length)*1<=140737488355328))).bind λ_=>some (r1++p1)
def jo(u:Nat)(x15:List Int):Option ((List Int)) :=
  (na u x15).bind λr16=>(ed u x15 r16).bind λr17=>some r17
def ng(u:Nat)(p0:fc):Option ((List Int)) :=
  (tz u p0).bind λr1=>bif !r1 then (some (([]:List Int))) else ((ed u (([]:List Int)) p0.br).bind λr2=>bif p0.br == 1 then ((uo u r2 p0.ay).bind λr3=>jo u r3) else (bif p0.br == 2 then ((su u p0.cn).bind λr4=>(ed u r2 p0.aM).bind λr5=>(ed u r5 r4.1).bind λr6=>(ed u r6 r4.2).bind λr7=>(su u p0.ci).bind λr8=>(ed u r7 r8.1).bind λr9=>(ed u r9 r8.2).bind λr10=>jo u r10) else (bif p0.br == 3 then ((ed u r2 p0.aM).bind λr11=>(ed u r11 p0.fI).bind λr12=>(vq u r12 p0.fB).bind λr13=>jo u r13) else ((ed u r2 p0.aM).bind λr14=>jo u r14))))
def sv(u:Nat)  : Option (Int×Int×Bool) :=
  some ((0,0,false))
def oP(u:Nat)(m8:(List Int)->Int->Int->Int->Option (Int×Int×Bool))(p0:List Int)(p1 x3:Int)(y8 x4:Int)(x10:Bool):Option (Int×Int×Bool) :=
  bif x10 then (some ((0,0,false))) else (some ((xO .i64 x3 (jF .i64 (fK .i64 (IntKind.wrap .i64 y8) 127) (md .i64 7 x4)),bd .i64 (bd .i64 p1 x4) 1,true)))
def k9(u:Nat)(m8:(List Int)->Int->Int->Int->Option (Int×Int×Bool))(p0:List Int)(p1 x3 x4:Int)(x7:Bool):Option (Int×Int×Bool) :=
  bif x7 then (some ((0,0,false))) else ((dG p0 (bd .i64 p1 x4)).bind λy8=>(dC (decide (0<=(md .i64 7 x4)))).bind λ_=>bif decide ((IntKind.wrap .i64 y8) < 128) then (bif (IntKind.wrap .i64 y8) == 0 then (bif decide (x4 > 0) then (oP u m8 p0 p1 x3 y8 x4 true) else (oP u m8 p0 p1 x3 y8 x4 (decide ((xO .i64 x3 (jF .i64 (fK .i64 (IntKind.wrap .i64 y8) 127) (md .i64 7 x4))) > 1000000000000)))) else (oP u m8 p0 p1 x3 y8 x4 (decide ((xO .i64 x3 (jF .i64 (fK .i64 (IntKind.wrap .i64 y8) 127) (md .i64 7 x4))) > 1000000000000)))) else (m8 p0 p1 (xO .i64 x3 (jF .i64 (fK .i64 (IntKind.wrap .i64 y8) 127) (md .i64 7 x4))) (bd .i64 x4 1)))
def dQ(u fV:Nat)(p0:List Int)(p1 x3 x4:Int):Option (Int×Int×Bool):=match fV with
  | 0=>none
  | fV+1=>bif decide (x4 < 6) then (bif decide (p1 < 0) then (k9 u (λz0 z1 z2 z3=>dQ u fV z0 z1 z2 z3) p0 p1 x3 x4 true) else (k9 u (λz0 z1 z2 z3=>dQ u fV z0 z1 z2 z3) p0 p1 x3 x4 (decide (p1>=(ez .i64 ((p0.length:Int)) x4))))) else (sv u)
def ga(u:Nat)(p0:List Int)(p1:Int):Option (Int×Int×Bool) :=
  dQ u u p0 p1 0 0
def Fu(u:Nat)(p0:List Int)(p1 s:Int):Option (Int×Int×Bool):=(sv u)
def Fv(u:Nat)(p0:List Int)(p1:Int)(i_:Nat)(s:Int)(k_:Int->Option (Int×Int×Bool)):Option (Int×Int×Bool):=bif decide (p1 < 0) then (k9 u (λz0 z1 z2 z3=>k_ z2) p0 p1 s (i_:Int) true) else (k9 u (λz0 z1 z2 z3=>k_ z2) p0 p1 s (i_:Int) (decide (p1>=(ez .i64 ((p0.length:Int)) (i_:Int)))))
theorem Rq(u:Nat)(p0:List Int)(p1 s:Int)(k:Nat)(hn:(6:Int)<=9223372036854775807)(hk:sY (6) < k):dQ u k p0 p1 s 0=Pu.lB (Fu u p0 p1) (Fv u p0 p1) (sY (6)) 0 s:=Pu.pi (λ(k:Nat) (s i:Int)=>dQ u k p0 p1 s i) hn (λ_ _ _=>rfl) s hk
def pE(u:Nat)  : Option (Int×Int×Bool) :=
  some ((0,0,false))
def fO(u i7:Nat)(p0:List Int)(p1 x3 x4:Int):Option (Int×Int×Bool):=match i7 with
  | 0=>none
  | i7+1=>bif decide (x4 < 8) then (bif decide (p1>=(ez .i64 ((p0.length:Int)) x4)) then (some ((0,0,false))) else ((dG p0 (bd .i64 p1 x4)).bind λy7=>(dC (decide (0<=(md .i64 7 x4)))).bind λ_=>bif decide ((IntKind.wrap .i64 y7) < 128) then (bif decide ((IntKind.wrap .i64 y7) > 0) then (some ((xO .i64 x3 (jF .i64 (fK .i64 (IntKind.wrap .i64 y7) 127) (md .i64 7 x4)),bd .i64 (bd .i64 p1 x4) 1,true))) else (some ((xO .i64 x3 (jF .i64 (fK .i64 (IntKind.wrap .i64 y7) 127) (md .i64 7 x4)),bd .i64 (bd .i64 p1 x4) 1,x4 == 0)))) else ((λz0 z1 z2 z3=>fO u i7 z0 z1 z2 z3) p0 p1 (xO .i64 x3 (jF .i64 (fK .i64 (IntKind.wrap .i64 y7) 127) (md .i64 7 x4))) (bd .i64 x4 1)))) else (pE u)
def qm(u:Nat)(p0:List Int)(p1:Int):Option (Int×Int×Bool) :=
  fO u u p0 p1 0 0
def Cy(u:Nat)(p0:List Int)(p1 s:Int):Option (Int×Int×Bool):=(pE u)
def Cz(u:Nat)(p0:List Int)(p1:Int)(i_:Nat)(s:Int)(k_:Int->Option (Int×Int×Bool)):Option (Int×Int×Bool):=bif decide (p1>=(ez .i64 ((p0.length:Int)) (i_:Int))) then (some ((0,0,false))) else ((dG p0 (bd .i64 p1 (i_:Int))).bind λy7=>(dC (decide (0<=(md .i64 7 (i_:Int))))).bind λ_=>bif decide ((IntKind.wrap .i64 y7) < 128) then (bif decide ((IntKind.wrap .i64 y7) > 0) then (some ((xO .i64 s (jF .i64 (fK .i64 (IntKind.wrap .i64 y7) 127) (md .i64 7 (i_:Int))),bd .i64 (bd .i64 p1 (i_:Int)) 1,true))) else (some ((xO .i64 s (jF .i64 (fK .i64 (IntKind.wrap .i64 y7) 127) (md .i64 7 (i_:Int))),bd .i64 (bd .i64 p1 (i_:Int)) 1,(i_:Int) == 0)))) else ((λz0 z1 z2 z3=>k_ z2) p0 p1 (xO .i64 s (jF .i64 (fK .i64 (IntKind.wrap .i64 y7) 127) (md .i64 7 (i_:Int)))) (bd .i64 (i_:Int) 1)))
theorem PC(u:Nat)(p0:List Int)(p1 s:Int)(k:Nat)(hn:(8:Int)<=9223372036854775807)(hk:sY (8) < k):fO u k p0 p1 s 0=Pu.lB (Cy u p0 p1) (Cz u p0 p1) (sY (8)) 0 s:=Pu.pi (λ(k:Nat) (s i:Int)=>fO u k p0 p1 s i) hn (λ_ _ _=>rfl) s hk
def lc(u:Nat)(x19:Int)(r1 r2 r3:Int×Int×Bool)(x20:List cS):Option (al×Int×Bool) :=
  (ii u ((al.mk r1.1 r2.1 r3.1 x20))).bind λr21=>bif !r21 then (some (((al.mk 0 0 0 ([])),0,false))) else (some (((al.mk r1.1 r2.1 r3.1 x20),x19,true)))
def ik(u:Nat)(GZ:(List Int)->(Int×Int×Bool)->(Int×Int×Bool)->(Int×Int×Bool)->Int->Int->(List cS)->Option (al×Int×Bool))(p0:List Int)(r1 r2 r3:Int×Int×Bool)(x8 x9:Int)(x15:Bool)(x10:List cS):Option (al×Int×Bool) :=
  bif x15 then ((qm u p0 x8).bind λr16=>bif !r16.2.2 then (some (((al.mk 0 0 0 ([])),0,false))) else ((np u r16.1).bind λr17=>(gT u r17.1).bind λr18=>(dC (decide ((x10.length+([(cS.mk r18.fW r16.1)]).length)*16<=140737488355328))).bind λ_=>GZ p0 r1 r2 r3 r16.2.1 (bd .i64 x9 1) (x10++([(cS.mk r18.fW r16.1)])))) else (lc u x8 r1 r2 r3 x10)
def c8(u dM:Nat)(p0:List Int)(r1 r2 r3:Int×Int×Bool)(x8 x9:Int)(x10:List cS):Option (al×Int×Bool):=match dM with
  | 0=>none
  | dM+1=>(lW u r2.1 r3.1).bind λr14=>bif decide (x9 < r14) then (ik u (λz0 z1 z2 z3 z4 z5 z6=>c8 u dM z0 z1 z2 z3 z4 z5 z6) p0 r1 r2 r3 x8 x9 (decide (r1.1 > 0)) x10) else (ik u (λz0 z1 z2 z3 z4 z5 z6=>c8 u dM z0 z1 z2 z3 z4 z5 z6) p0 r1 r2 r3 x8 x9 false x10)
def mH(u:Nat)(p0:List Int)(r1 r2 r3:Int×Int×Bool)(x4:Bool):Option (al×Int×Bool) :=
  bif x4 then (some (((al.mk 0 0 0 ([])),0,false))) else (c8 u u p0 r1 r2 r3 r3.2.1 0 ([]))
def oQ(u:Nat)(p0:List Int)(p1:Int):Option (al×Int×Bool) :=
  (ga u p0 p1).bind λr1=>(ga u p0 r1.2.1).bind λr2=>(ga u p0 r2.2.1).bind λr3=>bif !r1.2.2 then (mH u p0 r1 r2 r3 true) else (bif !r2.2.2 then (mH u p0 r1 r2 r3 true) else (mH u p0 r1 r2 r3 (!r3.2.2)))
def lI(u:Nat)(p0:List Int)(r1:Int×Int×Bool)(x2:Bool):Option ((List Int)×Int×Bool) :=
  bif x2 then (some ((([]:List Int),0,false))) else ((dC (cO r1.2.1 (bd .i64 r1.2.1 r1.1) p0.length)).bind λ_=>(dC (decide (((([]:List Int)).length+((p0.take (sY (bd .i64 r1.2.1 r1.1))).drop (sY r1.2.1)).length)*1<=140737488355328))).bind λ_=>some (((([]:List Int))++((p0.take (sY (bd .i64 r1.2.1 r1.1))).drop (sY r1.2.1)),bd .i64 r1.2.1 r1.1,true)))
def nr(u:Nat)(p0:List Int)(p1 p2:Int):Option ((List Int)×Int×Bool) :=
  (ga u p0 p1).bind λr1=>bif !r1.2.2 then (lI u p0 r1 true) else (bif decide (r1.1 > p2) then (lI u p0 r1 true) else (lI u p0 r1 (decide (r1.1 > (ez .i64 ((p0.length:Int)) r1.2.1)))))
def nN(u:Nat)(x20 p2:Int)(r2:Int×Int×Bool)(x21 x22:Int):Option (fc×Int×Bool) :=
  some (((fc.mk p2 r2.1 ((al.mk 0 0 0 ([]))) x21 x22 0 ([])),x20,true))
def nO(u:Nat)(x14:Int)(x15:List Int)(p2:Int)(r2:Int×Int×Bool):Option (fc×Int×Bool) :=
  (dG x15 0).bind λy16=>(dG x15 1).bind λy17=>(dG x15 2).bind λy18=>(dG x15 3).bind λy19=>nN u x14 p2 r2 (bd .i64 y16 (jF .i64 y17 20)) (bd .i64 y18 (jF .i64 y19 20))
def jQ(u:Nat)(Fj:(List Int)->Int->(List Int)->Int->Int->(Int×Int×Bool)->Option (fc×Int×Bool))(p0:List Int)(x6:Int)(x7:List Int)(x8:Int)(r12:Int×Int×Bool)(x13:Bool)(p2:Int)(r2:Int×Int×Bool):Option (fc×Int×Bool) :=
  bif x13 then (some (((fc.mk p2 r2.1 ((al.mk 0 0 0 ([]))) 0 0 0 ([])),0,false))) else ((dC (decide ((x7.length+(([r12.1]:List Int)).length)*8<=140737488355328))).bind λ_=>Fj p0 r12.2.1 (x7++(([r12.1]:List Int))) (bd .i64 x8 1) p2 r2)
def cC(u dx:Nat)(p0:List Int)(x6:Int)(x7:List Int)(x8 p2:Int)(r2:Int×Int×Bool):Option (fc×Int×Bool):=match dx with
  | 0=>none
  | dx+1=>bif decide (x8 < 4) then ((ga u p0 x6).bind λr12=>bif !r12.2.2 then (jQ u (λz0 z1 z2 z3 z4 z5=>cC u dx z0 z1 z2 z3 z4 z5) p0 x6 x7 x8 r12 true p2 r2) else (jQ u (λz0 z1 z2 z3 z4 z5=>cC u dx z0 z1 z2 z3 z4 z5) p0 x6 x7 x8 r12 (decide (r12.1>=1048576)) p2 r2)) else (nO u x6 x7 p2 r2)
def eE(u:Nat)(p0:List Int)(p1 p2:Int):Option (fc×Int×Bool) :=
  bif p2 == 1 then ((oQ u p0 p1).bind λr1=>some (((fc.mk p2 0 r1.1 0 0 0 ([])),r1.2.1,r1.2.2))) else ((ga u p0 p1).bind λr2=>bif !r2.2.2 then (some (((fc.mk p2 r2.1 ((al.mk 0 0 0 ([]))) 0 0 0 ([])),0,false))) else (bif p2 == 2 then (cC u u p0 r2.2.1 (([]:List Int)) 0 p2 r2) else (bif p2 == 3 then ((ga u p0 r2.2.1).bind λr13=>(nr u p0 r13.2.1 6).bind λr14=>bif r13.2.2 then (some (((fc.mk p2 r2.1 ((al.mk 0 0 0 ([]))) 0 0 r13.1 r14.1),r14.2.1,r14.2.2))) else (some (((fc.mk p2 r2.1 ((al.mk 0 0 0 ([]))) 0 0 r13.1 r14.1),r14.2.1,false)))) else (nN u r2.2.1 p2 r2 0 0))))
def DC(u:Nat)(p0:List Int)(p2:Int)(r2:Int×Int×Bool)(s:Int×(List Int)):Option (fc×Int×Bool):=(nO u s.1 s.2 p2 r2)
def DD(u:Nat)(p0:List Int)(p2:Int)(r2:Int×Int×Bool)(i_:Nat)(s:Int×(List Int))(k_:(Int×(List Int))->Option (fc×Int×Bool)):Option (fc×Int×Bool):=(ga u p0 s.1).bind λr12=>bif !r12.2.2 then (jQ u (λz0 z1 z2 z3 z4 z5=>k_ (z1,z2)) p0 s.1 s.2 (i_:Int) r12 true p2 r2) else (jQ u (λz0 z1 z2 z3 z4 z5=>k_ (z1,z2)) p0 s.1 s.2 (i_:Int) r12 (decide (r12.1>=1048576)) p2 r2)
theorem QN(u:Nat)(p0:List Int)(p2:Int)(r2:Int×Int×Bool)(s:Int×(List Int))(k:Nat)(hn:(4:Int)<=9223372036854775807)(hk:sY (4) < k):cC u k p0 s.1 s.2 0 p2 r2=Pu.lB (DC u p0 p2 r2) (DD u p0 p2 r2) (sY (4)) 0 s:=Pu.pi (λ(k:Nat) (s:Int×(List Int)) (i:Int)=>cC u k p0 s.1 s.2 i p2 r2) hn (λ_ _ _=>rfl) s hk
def mI(u:Nat)(x9:Bool)(r3:fc×Int×Bool):Option (fc×Bool) :=
  bif x9 then (some (((fc.mk 0 0 ((al.mk 0 0 0 ([]))) 0 0 0 ([])),false))) else (some ((r3.1,true)))
def oS(u:Nat)(p0:List Int)(r3:fc×Int×Bool)(x5:Bool):Option (fc×Bool) :=
  bif x5 then (some (((fc.mk 0 0 ((al.mk 0 0 0 ([]))) 0 0 0 ([])),false))) else ((ga u p0 r3.2.1).bind λr6=>bif !r6.2.2 then (mI u true r3) else (bif r6.2.1 != ((p0.length:Int)) then (mI u true r3) else ((dC (cO 0 r3.2.1 p0.length)).bind λ_=>(na u ((p0.take (sY r3.2.1)).drop (sY 0))).bind λr8=>mI u (r6.1 != r8) r3)))
def oT(u:Nat)(p0:List Int)(r1:Int×Int×Bool)(x2:Bool):Option (fc×Bool) :=
  bif x2 then (some (((fc.mk 0 0 ((al.mk 0 0 0 ([]))) 0 0 0 ([])),false))) else ((eE u p0 r1.2.1 r1.1).bind λr3=>bif !r3.2.2 then (oS u p0 r3 true) else ((tz u r3.1).bind λr4=>oS u p0 r3 (!r4)))
def kn(u:Nat)(p0:List Int):Option (fc×Bool) :=
  (ga u p0 0).bind λr1=>bif !r1.2.2 then (oT u p0 r1 true) else (oT u p0 r1 (decide (((p0.length:Int)) > 400)))
def mJ(u:Nat)(p0 p1:List Int):Option Bool :=
  some ((strOfNums p0).toList == (strOfNums p1).toList)
def pF(u:Nat)  : Option Bool :=
  some false
def fQ(u eI:Nat)(x4:Int)(p0:World)(p1:cu):Option Bool:=match eI with
  | 0=>none
  | eI+1=>bif decide (x4 < ((p0.bn.length:Int))) then ((dG p0.bn x4).bind λy6=>(mJ u y6.fB p1.fP.fB).bind λr7=>bif r7 then (some true) else ((λz0 z1 z2=>fQ u eI z0 z1 z2) (bd .i64 x4 1) p0 p1)) else (pF u)
def iQ(u:Nat)(x2:Bool)(p0:World)(p1:cu):Option Bool :=
  bif x2 then (some true) else (fQ u u 0 p0 p1)
def kt(u:Nat)(p0:World)(p1:cu):Option Bool :=
  bif p1.br != 7 then (some true) else ((kn u p1.fP.fB).bind λr1=>bif !r1.2 then (iQ u true p0 p1) else (bif r1.1.br == 4 then (iQ u true p0 p1) else (iQ u (r1.1.br == 3) p0 p1)))
def vZ(u:Nat)(p0:World)(p1:cu)(s:Unit):Option Bool:=(pF u)
def ro(u:Nat)(p0:World)(p1:cu)(y6:ai)(i_:Nat)(s:Unit)(k_:Unit->Option Bool):Option Bool:=(mJ u y6.fB p1.fP.fB).bind λr7=>bif r7 then (some true) else ((λz0 z1 z2=>k_ ()) (bd .i64 (i_:Int) 1) p0 p1)
theorem CA(u:Nat)(p0:World)(p1:cu)(s:Unit)(k:Nat)(hn:p0.bn.length<=9223372036854775807)(hk:p0.bn.length < k):fQ u k 0 p0 p1=Pu.cA (vZ u p0 p1) (ro u p0 p1) p0.bn 0 s:=Pu.eG (λ(k:Nat) (s:Unit) (i:Int)=>fQ u k i p0 p1) hn (λ_ _ _=>rfl) s hk
def qR(u:Nat)(x17 x18:List Int)(x19 x20:Int):Option ((List Int)×aH) :=
  some ((x17,(aH.mk x18 x19 x20)))
def gK(u jN:Nat)(p1:Int)(x6:List Int)(x7:Int)(x8:List Int)(x9 x10:Int):Option ((List Int)×aH):=match jN with
  | 0=>none
  | jN+1=>bif decide (x7 < p1) then ((kl u ((aH.mk x8 x9 x10))).bind λr16=>(dC (decide ((x6.length+(([IntKind.wrap .u8 r16.1]:List Int)).length)*1<=140737488355328))).bind λ_=>(λz0 z1 z2 z3 z4 z5=>gK u jN z0 z1 z2 z3 z4 z5) p1 (x6++(([IntKind.wrap .u8 r16.1]:List Int))) (bd .i64 x7 1) r16.2.fB r16.2.fI r16.2.fH) else (qR u x6 x8 x9 x10)
def vt(u:Nat)(p0:aH)(p1:Int):Option ((List Int)×aH) :=
  gK u u p1 (([]:List Int)) 0 p0.fB p0.fI p0.fH
def DE(u:Nat)(p1:Int)(s:(List Int)×(List Int)×Int×Int):Option ((List Int)×aH):=(qR u s.1 s.2.1 s.2.2.1 s.2.2.2)
def DF(u:Nat)(p1:Int)(i_:Nat)(s:(List Int)×(List Int)×Int×Int)(k_:((List Int)×(List Int)×Int×Int)->Option ((List Int)×aH)):Option ((List Int)×aH):=(kl u ((aH.mk s.2.1 s.2.2.1 s.2.2.2))).bind λr16=>(dC (decide ((s.1.length+(([IntKind.wrap .u8 r16.1]:List Int)).length)*1<=140737488355328))).bind λ_=>(λz0 z1 z2 z3 z4 z5=>k_ (z1,z3,z4,z5)) p1 (s.1++(([IntKind.wrap .u8 r16.1]:List Int))) (bd .i64 (i_:Int) 1) r16.2.fB r16.2.fI r16.2.fH
theorem QO(u:Nat)(p1:Int)(s:(List Int)×(List Int)×Int×Int)(k:Nat)(hn:(p1:Int)<=9223372036854775807)(hk:sY (p1) < k):gK u k p1 s.1 0 s.2.1 s.2.2.1 s.2.2.2=Pu.lB (DE u p1) (DF u p1) (sY (p1)) 0 s:=Pu.pi (λ(k:Nat) (s:(List Int)×(List Int)×Int×Int) (i:Int)=>gK u k p1 s.1 i s.2.1 s.2.2.1 s.2.2.2) hn (λ_ _ _=>rfl) s hk
def mK(u:Nat)(x20:List Int)(x21 x22:Int)(r1 r2:Int×aH)(x24:List Int):Option (cu×aH) :=
  some (((cu.mk 7 0 0 ((ai.mk r1.1 r2.1 x24))),(aH.mk x20 x21 x22)))
def kG(u:Nat)(r1 r2:Int×aH)(x19:List Int)(p1:World)(x20:List Int)(x21 x22:Int):Option (cu×aH) :=
  (kt u p1 ((cu.mk 7 0 0 ((ai.mk r1.1 r2.1 x19))))).bind λr23=>bif !r23 then (mK u x20 x21 x22 r1 r2 (([]:List Int))) else (mK u x20 x21 x22 r1 r2 x19)
def kH(u:Nat)(r1 r2:Int×aH)(x13:List Int)(p1:World)(x14:List Int)(x15 x16:Int):Option (cu×aH) :=
  (kt u p1 ((cu.mk 7 0 0 ((ai.mk r1.1 r2.1 x13))))).bind λr17=>bif !r17 then ((vt u ((aH.mk x14 x15 x16)) 3).bind λr18=>kG u r1 r2 r18.1 p1 r18.2.fB r18.2.fI r18.2.fH) else (kG u r1 r2 x13 p1 x14 x15 x16)
def kI(u:Nat)(x6:Bool)(r1 r2:Int×aH)(r4:(List Int))(p1:World)(x7:List Int)(x8 x9:Int):Option (cu×aH) :=
  bif x6 then ((be u ((aH.mk x7 x8 x9)) ((p1.bn.length:Int))).bind λr10=>(dG p1.bn r10.1).bind λy11=>(m9 u r10.2 y11.fB).bind λr12=>kH u r1 r2 r12.1 p1 r12.2.fB r12.2.fI r12.2.fH) else (kH u r1 r2 r4 p1 x7 x8 x9)
def mp(u:Nat)(p0:aH)(p1:World):Option (cu×aH) :=
  (be u p0 ((p1.fN.length:Int))).bind λr1=>(be u r1.2 ((p1.fN.length:Int))).bind λr2=>(so u r2.2).bind λr3=>(ng u r3.1).bind λr4=>bif decide (((p1.bn.length:Int)) > 0) then ((jk u r3.2 2).bind λr5=>kI u r5.1 r1 r2 r4 p1 r5.2.fB r5.2.fI r5.2.fH) else (kI u false r1 r2 r4 p1 r3.2.fB r3.2.fI r3.2.fH)
def lJ(u:Nat)(r1:Int×aH)(x6:Bool)(p1:World)(x7:List Int)(x8 x9:Int):Option (cu×aH) :=
  bif x6 then ((rk u ((p1.bn.length:Int)) 4).bind λr10=>(be u ((aH.mk x7 x8 x9)) r10).bind λr11=>(be u r11.2 12).bind λr12=>bif r12.1 == 0 then (some (((cu.mk 3 r11.1 0 ((ai.mk 0 0 ([])))),r12.2))) else (bif r12.1 == 1 then (some (((cu.mk 4 r11.1 0 ((ai.mk 0 0 ([])))),r12.2))) else (some (((cu.mk 2 r11.1 0 ((ai.mk 0 0 ([])))),r12.2))))) else (some (((cu.mk 1 r1.1 0 ((ai.mk 0 0 ([])))),(aH.mk x7 x8 x9))))
def nt(u:Nat)(p0:aH)(p1:World):Option (cu×aH) :=
  (be u p0 ((p1.fN.length:Int))).bind λr1=>(be u r1.2 24).bind λr2=>bif r2.1 == 0 then ((dE u r2.2 (([0,0,1,5,1099511627775,21]:List Int))).bind λr3=>some (((cu.mk 5 r1.1 r3.1 ((ai.mk 0 0 ([])))),r3.2))) else (bif r2.1 == 1 then (some (((cu.mk 6 r1.1 0 ((ai.mk 0 0 ([])))),r2.2))) else (bif r2.1 == 2 then ((mp u r2.2 p1).bind λr4=>some ((r4.1,r4.2))) else (bif decide (((p1.bn.length:Int)) > 0) then ((jk u r2.2 3).bind λr5=>lJ u r1 (!r5.1) p1 r5.2.fB r5.2.fI r5.2.fH) else (lJ u r1 false p1 r2.2.fB r2.2.fI r2.2.fH))))
def wa(u:Nat)(x9:List bS):Option ((List bS)) :=
  some x9
def mL(u:Nat)(GX:(List bS)->Int->(List bS)->Int->Option ((List bS)))(p0:List bS)(p1:Int)(x8:List bS)(x4:Int):Option ((List bS)) :=
  GX p0 p1 x8 (bd .i64 x4 1)
def jp(u hH:Nat)(p0:List bS)(p1:Int)(x3:List bS)(x4:Int):Option ((List bS)):=match hH with
  | 0=>none
  | hH+1=>bif decide (x4 < ((p0.length:Int))) then ((dG p0 x4).bind λy7=>bif decide (y7.wT>=p1) then (mL u (λz0 z1 z2 z3=>jp u hH z0 z1 z2 z3) p0 p1 x3 x4) else ((dC (decide ((x3.length+([(bS.mk y7.oK y7.cn y7.ci (bd .i64 y7.wT 1) 0)]).length)*40<=140737488355328))).bind λ_=>mL u (λz0 z1 z2 z3=>jp u hH z0 z1 z2 z3) p0 p1 (x3++([(bS.mk y7.oK y7.cn y7.ci (bd .i64 y7.wT 1) 0)])) x4)) else (wa u x3)
def uq(u:Nat)(p0:List bS)(p1:Int):Option ((List bS)) :=
  jp u u p0 p1 (([]:List bS)) 0
def Fw(u:Nat)(p0:List bS)(p1:Int)(s:(List bS)):Option ((List bS)):=(wa u s)
def yk(u:Nat)(p0:List bS)(p1:Int)(y7:bS)(i_:Nat)(s:(List bS))(k_:((List bS))->Option ((List bS))):Option ((List bS)):=bif decide (y7.wT>=p1) then (mL u (λz0 z1 z2 z3=>k_ z2) p0 p1 s (i_:Int)) else ((dC (decide ((s.length+([(bS.mk y7.oK y7.cn y7.ci (bd .i64 y7.wT 1) 0)]).length)*40<=140737488355328))).bind λ_=>mL u (λz0 z1 z2 z3=>k_ z2) p0 p1 (s++([(bS.mk y7.oK y7.cn y7.ci (bd .i64 y7.wT 1) 0)])) (i_:Int))
theorem Fx(u:Nat)(p0:List bS)(p1:Int)(s:(List bS))(k:Nat)(hn:p0.length<=9223372036854775807)(hk:p0.length < k):jp u k p0 p1 s 0=Pu.cA (Fw u p0 p1) (yk u p0 p1) p0 0 s:=Pu.eG (λ(k:Nat) (s:(List bS)) (i:Int)=>jp u k p0 p1 s i) hn (λ_ _ _=>rfl) s hk
def sA(u:Nat)(x11:List Int):Option ((List Int)) :=
  some x11
def oU(u:Nat)(G0:Int->(List Int)->cX->Option ((List Int)))(x3:Int)(x4:List Int)(x8:Bool)(p0:cX):Option ((List Int)) :=
  bif x8 then ((dC (decide ((x4.length+(([x3]:List Int)).length)*8<=140737488355328))).bind λ_=>(dG p0.ca x3).bind λy10=>G0 y10 (x4++(([x3]:List Int))) p0) else (sA u x4)
def il(u hP:Nat)(x3:Int)(x4:List Int)(p0:cX):Option ((List Int)):=match hP with
  | 0=>none
  | hP+1=>(bM u x3 0 (ez .i64 ((p0.ca.length:Int)) 1)).bind λr7=>bif r7 then (oU u (λz0 z1 z2=>il u hP z0 z1 z2) x3 x4 (decide (((x4.length:Int)) < ((p0.ca.length:Int)))) p0) else (oU u (λz0 z1 z2=>il u hP z0 z1 z2) x3 x4 false p0)
def ur(u:Nat)(p0:cX)(p1:Int):Option ((List Int)) :=
  il u u p1 (([]:List Int)) p0
def wb(u:Nat)  : Option Bool :=
  some false
def mM(u kY:Nat)(p0:List Int)(p1 x2:Int):Option Bool:=match kY with
  | 0=>none
  | kY+1=>bif decide (x2 < ((p0.length:Int))) then ((dG p0 x2).bind λy4=>bif y4 == p1 then (some true) else ((λz0 z1 z2=>mM u kY z0 z1 z2) p0 p1 (bd .i64 x2 1))) else (wb u)
def ut(u:Nat)(p0:List Int)(p1:Int):Option Bool :=
  mM u u p0 p1 0
def yn(u:Nat)(p0:List Int)(p1:Int)(s:Unit):Option Bool:=(wb u)
def tB(u:Nat)(p0:List Int)(p1 y4:Int)(i_:Nat)(s:Unit)(k_:Unit->Option Bool):Option Bool:=bif y4 == p1 then (some true) else ((λz0 z1 z2=>k_ ()) p0 p1 (bd .i64 (i_:Int) 1))
theorem Fy(u:Nat)(p0:List Int)(p1:Int)(s:Unit)(k:Nat)(hn:p0.length<=9223372036854775807)(hk:p0.length < k):mM u k p0 p1 0=Pu.cA (yn u p0 p1) (tB u p0 p1) p0 0 s:=Pu.eG (λ(k:Nat) (s:Unit) (i:Int)=>mM u k p0 p1 i) hn (λ_ _ _=>rfl) s hk
def qn(u:Nat)(p0:cX)(p1 p2:Int):Option Bool :=
  bif p1 != p2 then ((ur u p0 p2).bind λr1=>(ut u r1 p1).bind λr2=>some r2) else (some false)
def pG(u:Nat)(p1 p2:Int)(x5:Bool)(p0:cX):Option Int :=
  bif x5 then ((dG p0.ca p1).bind λy6=>some y6) else ((dG p0.ca p2).bind λy7=>some y7)
def pH(u:Nat)(p1 p2:Int)(x3:Bool)(p0:cX):Option Int :=
  bif x3 then (some (-1)) else (bif decide (p2<=0) then (pG u p1 p2 true p0) else ((qn u p0 p2 p1).bind λr4=>pG u p1 p2 (!r4) p0))
def qo(u:Nat)(p0:cX)(p1 p2:Int):Option Int :=
  (oM u p0).bind λr1=>bif !r1 then (pH u p1 p2 true p0) else ((bM u p1 1 (ez .i64 ((p0.ca.length:Int)) 1)).bind λr2=>pH u p1 p2 (!r2) p0)
def pI(u:Nat)(p0:Int):Option Int :=
  (bM u p0 0 40).bind λr1=>bif !r1 then (some 0) else ((dC (decide (0<=p0))).bind λ_=>some (ez .i64 (jF .i64 1 p0) 1))
def od(u:Nat)(p0:al):Option Int :=
  (pI u ((p0.aO.length:Int))).bind λr1=>some r1
def qS(u:Nat)(p0 p1:Int)(x3:Bool):Option Int :=
  bif x3 then (some 0) else (some (zF .i64 p0 p1))
def pJ(u:Nat)(p0 p1:Int):Option Int :=
  (ek u p0).bind λr1=>bif !r1 then (qS u p0 p1 true) else ((ek u p1).bind λr2=>qS u p0 p1 (!r2))
def wc(u:Nat)  : Option Bool :=
  some true
def mN(u k6:Nat)(p0:List Int)(x2:Int):Option Bool:=match k6 with
  | 0=>none
  | k6+1=>bif decide (x2 < ((p0.length:Int))) then ((dG p0 x2).bind λy4=>bif y4 != 0 then (some false) else ((λz0 z1=>mN u k6 z0 z1) p0 (bd .i64 x2 1))) else (wc u)
def nh(u:Nat)(p0:List Int):Option Bool :=
  mN u u p0 0
def Fz(u:Nat)(p0:List Int)(s:Unit):Option Bool:=(wc u)
def yo(u:Nat)(p0:List Int)(y4:Int)(i_:Nat)(s:Unit)(k_:Unit->Option Bool):Option Bool:=bif y4 != 0 then (some false) else ((λz0 z1=>k_ ()) p0 (bd .i64 (i_:Int) 1))
theorem FA(u:Nat)(p0:List Int)(s:Unit)(k:Nat)(hn:p0.length<=9223372036854775807)(hk:p0.length < k):mN u k p0 0=Pu.cA (Fz u p0) (yo u p0) p0 0 s:=Pu.eG (λ(k:Nat) (s:Unit) (i:Int)=>mN u k p0 i) hn (λ_ _ _=>rfl) s hk
def uR(u:Nat)  : Option Bool :=
  some true
def ei(u:Nat)(Fg:Int->al->bI->Option Bool)(x7:Int)(x18:Bool)(p0:al)(p1:bI):Option Bool :=
  bif x18 then (some false) else (Fg (bd .i64 x7 1) p0 p1)
def eK(u dS:Nat)(x7:Int)(p0:al)(p1:bI):Option Bool:=match dS with
  | 0=>none
  | dS+1=>bif decide (x7 < ((p0.aO.length:Int))) then ((fm u p0.aw p0.aW x7).bind λr9=>(dC (cO r9.1 (bd .i64 r9.1 r9.2) p1.b9.length)).bind λ_=>(eD u p1.bq x7).bind λr11=>bif r11 then ((gT u ((p1.b9.take (sY (bd .i64 r9.1 r9.2))).drop (sY r9.1))).bind λr12=>(dG p0.aO x7).bind λy13=>bif !([r12.fW,r12.fS] == [y13.fW,y13.fS]) then (ei u (λz0 z1 z2=>eK u dS z0 z1 z2) x7 true p0 p1) else ((eD u p1.bq x7).bind λr14=>bif !r14 then ((nh u ((p1.b9.take (sY (bd .i64 r9.1 r9.2))).drop (sY r9.1))).bind λr15=>ei u (λz0 z1 z2=>eK u dS z0 z1 z2) x7 (!r15) p0 p1) else (ei u (λz0 z1 z2=>eK u dS z0 z1 z2) x7 false p0 p1))) else ((eD u p1.bq x7).bind λr16=>bif !r16 then ((nh u ((p1.b9.take (sY (bd .i64 r9.1 r9.2))).drop (sY r9.1))).bind λr17=>ei u (λz0 z1 z2=>eK u dS z0 z1 z2) x7 (!r17) p0 p1) else (ei u (λz0 z1 z2=>eK u dS z0 z1 z2) x7 false p0 p1))) else (uR u)
def lK(u:Nat)(x5:Bool)(p0:al)(p1:bI):Option Bool :=
  bif x5 then (some false) else (eK u u 0 p0 p1)
def nu(u:Nat)(p0:al)(p1:bI):Option Bool :=
  (ii u p0).bind λr1=>bif !r1 then (lK u true p0 p1) else ((ek u p1.bq).bind λr2=>bif !r2 then (lK u true p0 p1) else ((od u p0).bind λr3=>(pJ u p1.bq r3).bind λr4=>bif r4 != 0 then (lK u true p0 p1) else (lK u (((p1.b9.length:Int)) != p0.aW) p0 p1)))
def DG(u:Nat)(p0:al)(p1:bI)(s:Unit):Option Bool:=(uR u)
def w5(u:Nat)(p0:al)(p1:bI)(i_:Nat)(s:Unit)(k_:Unit->Option Bool):Option Bool:=(fm u p0.aw p0.aW (i_:Int)).bind λr9=>(dC (cO r9.1 (bd .i64 r9.1 r9.2) p1.b9.length)).bind λ_=>(eD u p1.bq (i_:Int)).bind λr11=>bif r11 then ((gT u ((p1.b9.take (sY (bd .i64 r9.1 r9.2))).drop (sY r9.1))).bind λr12=>(dG p0.aO (i_:Int)).bind λy13=>bif !([r12.fW,r12.fS] == [y13.fW,y13.fS]) then (ei u (λz0 z1 z2=>k_ ()) (i_:Int) true p0 p1) else ((eD u p1.bq (i_:Int)).bind λr14=>bif !r14 then ((nh u ((p1.b9.take (sY (bd .i64 r9.1 r9.2))).drop (sY r9.1))).bind λr15=>ei u (λz0 z1 z2=>k_ ()) (i_:Int) (!r15) p0 p1) else (ei u (λz0 z1 z2=>k_ ()) (i_:Int) false p0 p1))) else ((eD u p1.bq (i_:Int)).bind λr16=>bif !r16 then ((nh u ((p1.b9.take (sY (bd .i64 r9.1 r9.2))).drop (sY r9.1))).bind λr17=>ei u (λz0 z1 z2=>k_ ()) (i_:Int) (!r17) p0 p1) else (ei u (λz0 z1 z2=>k_ ()) (i_:Int) false p0 p1))
theorem DH(u:Nat)(p0:al)(p1:bI)(s:Unit)(k:Nat)(hn:(((p0.aO.length:Int)):Int)<=9223372036854775807)(hk:sY (((p0.aO.length:Int))) < k):eK u k 0 p0 p1=Pu.lB (DG u p0 p1) (w5 u p0 p1) (sY (((p0.aO.length:Int)))) 0 s:=Pu.pi (λ(k:Nat) (s:Unit) (i:Int)=>eK u k i p0 p1) hn (λ_ _ _=>rfl) s hk
def pK(u:Nat)(p0:al)(p1:bI):Option Int :=
  (od u p0).bind λr1=>(pJ u r1 p1.bq).bind λr2=>some r2
def we(u:Nat)(p0:al)(p1:bI):Option Bool :=
  bif p0.aM != 0 then ((nu u p0 p1).bind λr1=>bif r1 then ((pK u p0 p1).bind λr2=>some (r2 == 0)) else (some false)) else (some false)
def oe(u:Nat)(p0:cT):Option Bool :=
  (bM u p0.aM 0 1000000).bind λr1=>bif r1 then ((bM u p0.bQ 0 1).bind λr2=>bif r2 then ((bM u p0.aW 0 240).bind λr3=>some r3) else (some false)) else (some false)
def rD(u:Nat)(p0:am)(p1:Int):Option ((List Int)) :=
  bif p1 == 1 then (some p0.fB) else (some p0.fA)
def rq(u:Nat)(p0:ct):Option Bool :=
  bif p0.gq == 2 then (bif p0.vI == 0 then (bif ((p0.fB.length:Int)) == 0 then ((oe u p0.fR).bind λr1=>some r1) else (some false)) else (some false)) else ((bM u p0.gq 0 1).bind λr2=>bif r2 then ((bM u p0.vI 0 240).bind λr3=>bif r3 then (bif decide (((p0.fB.length:Int))<=(ez .i64 240 p0.vI)) then (some ([p0.fR.aM,p0.fR.bQ,p0.fR.aW] == [0,0,0])) else (some false)) else (some false)) else (some false))
def wg(u:Nat)  : Option Bool :=
  some true
def lf(u kS:Nat)(x5:Int)(p0:am):Option Bool:=match kS with
  | 0=>none
  | kS+1=>bif decide (x5 < ((p0.fP.length:Int))) then ((dG p0.fP x5).bind λy7=>(rq u y7).bind λr8=>bif !r8 then (some false) else ((λz0 z1=>lf u kS z0 z1) (bd .i64 x5 1) p0)) else (wg u)
def lg(u:Nat)(x3:Bool)(p0:am):Option Bool :=
  bif x3 then (some false) else (lf u u 0 p0)
def ku(u:Nat)(p0:am):Option Bool :=
  bif decide (((p0.fA.length:Int)) > 240) then (lg u true p0) else (bif decide (((p0.fB.length:Int)) > 240) then (lg u true p0) else ((oe u p0.fR).bind λr1=>bif !r1 then (lg u true p0) else ((rD u p0 p0.fR.bQ).bind λr2=>bif decide (p0.fR.aW > ((r2.length:Int))) then (lg u true p0) else (lg u (decide (((p0.fP.length:Int)) > 200)) p0))))
def yp(u:Nat)(p0:am)(s:Unit):Option Bool:=(wg u)
def tD(u:Nat)(p0:am)(y7:ct)(i_:Nat)(s:Unit)(k_:Unit->Option Bool):Option Bool:=(rq u y7).bind λr8=>bif !r8 then (some false) else ((λz0 z1=>k_ ()) (bd .i64 (i_:Int) 1) p0)
theorem FB(u:Nat)(p0:am)(s:Unit)(k:Nat)(hn:p0.fP.length<=9223372036854775807)(hk:p0.fP.length < k):lf u k 0 p0=Pu.cA (yp u p0) (tD u p0) p0.fP 0 s:=Pu.eG (λ(k:Nat) (s:Unit) (i:Int)=>lf u k i p0) hn (λ_ _ _=>rfl) s hk
def wh(u:Nat)(p0:am):Option Int :=
  some (ez .i64 1 p0.fR.bQ)
def nv(u:Nat)(p0:am)(p1:ct):Option (am×Bool) :=
  (d9 u p0).bind λr1=>(gz u p1).bind λr2=>(dC (decide ((r1.fP.length+([r2]).length)*64<=140737488355328))).bind λ_=>(ku u ((am.mk r1.fA r1.fB r1.fR (r1.fP++([r2]))))).bind λr4=>bif !r4 then ((d9 u p0).bind λr5=>some ((r5,false))) else (some (((am.mk r1.fA r1.fB r1.fR (r1.fP++([r2]))),true)))
def qp(u:Nat)(p0:am)(p1 p2:Int)(p3:List Int):Option (am×Bool) :=
  (bM u p1 0 1).bind λr1=>bif !r1 then ((d9 u p0).bind λr2=>some ((r2,false))) else ((nv u p0 ((ct.mk p1 p2 p3 ((cT.mk 0 0 0))))).bind λr3=>some ((r3.1,r3.2)))
def yq(u:Nat)(x32 x33:List Int)(x34 x35 x36:Int)(x37:List ct):Option (am×Bool) :=
  some (((am.mk x32 x33 ((cT.mk x34 x35 x36)) x37),true))
def iR(u i6:Nat)(p1:List Int)(p2 x12:Int)(x13 x14:List Int)(x15 x16 x17:Int)(x18:List ct)(p0:am):Option (am×Bool):=match i6 with
  | 0=>none
  | i6+1=>(lW u p2 ((p1.length:Int))).bind λr26=>bif decide (x12 < r26) then ((fm u p2 ((p1.length:Int)) x12).bind λr27=>(jZ u p1 p2 x12).bind λr28=>(wh u p0).bind λr29=>(qp u ((am.mk x13 x14 ((cT.mk x15 x16 x17)) x18)) r29 r27.1 r28.1).bind λr30=>bif !r30.2 then ((d9 u p0).bind λr31=>some ((r31,false))) else ((λz0 z1 z2 z3 z4 z5 z6 z7 z8 z9=>iR u i6 z0 z1 z2 z3 z4 z5 z6 z7 z8 z9) p1 p2 (bd .i64 x12 1) r30.1.fA r30.1.fB r30.1.fR.aM r30.1.fR.bQ r30.1.fR.aW r30.1.fP p0)) else (yq u x13 x14 x15 x16 x17 x18)
def mO(u:Nat)(p1:List Int)(p2:Int)(x4:Bool)(r1 p0:am):Option (am×Bool) :=
  bif x4 then (some ((r1,false))) else (iR u u p1 p2 0 r1.fA r1.fB r1.fR.aM r1.fR.bQ r1.fR.aW r1.fP p0)
def qq(u:Nat)(p0:am)(p1:List Int)(p2:Int):Option (am×Bool) :=
  (d9 u p0).bind λr1=>(ku u p0).bind λr2=>bif !r2 then (mO u p1 p2 true r1 p0) else (bif decide (((p0.fP.length:Int)) > 0) then (mO u p1 p2 true r1 p0) else ((lU u p2 ((p1.length:Int))).bind λr3=>mO u p1 p2 (!r3) r1 p0))
def qr(u:Nat)(x14:List Int):Option ((List Int)) :=
  some x14
def kv(u gQ:Nat)(p1:Int)(p2 x8:List Int)(x9:Int):Option ((List Int)):=match gQ with
  | 0=>none
  | gQ+1=>bif decide (x9 < ((p2.length:Int))) then ((dG p2 x9).bind λy12=>(dG x8 (bd .i64 p1 x9)).bind λy13=>(λz0 z1 z2 z3=>kv u gQ z0 z1 z2 z3) p1 p2 (x8.set (sY (bd .i64 p1 x9)) y12) (bd .i64 x9 1)) else (qr u x8)
def qs(u:Nat)(p1:Int)(p2 x5:List Int):Option ((List Int)) :=
  kv u u p1 p2 x5 0
def mq(u gR:Nat)(p1:Int)(p2 x3:List Int):Option ((List Int)):=match gR with
  | 0=>none
  | gR+1=>bif decide (((x3.length:Int)) < (bd .i64 p1 ((p2.length:Int)))) then ((dC (decide ((x3.length+(([0]:List Int)).length)*1<=140737488355328))).bind λ_=>(λz0 z1 z2=>mq u gR z0 z1 z2) p1 p2 (x3++(([0]:List Int)))) else (qs u p1 p2 x3)
def oV(u:Nat)(p0:List Int)(p1:Int)(p2:List Int):Option ((List Int)) :=
  (dC (decide (((([]:List Int)).length+p0.length)*1<=140737488355328))).bind λ_=>mq u u p1 p2 ((([]:List Int))++p0)
def uS(u:Nat)(p1:Int)(p2:List Int)(s:(List Int)):Option ((List Int)):=(qr u s)
def uT(u:Nat)(p1:Int)(p2:List Int)(y12:Int)(i_:Nat)(s:(List Int))(k_:((List Int))->Option ((List Int))):Option ((List Int)):=(dG s (bd .i64 p1 (i_:Int))).bind λy13=>(λz0 z1 z2 z3=>k_ z2) p1 p2 (s.set (sY (bd .i64 p1 (i_:Int))) y12) (bd .i64 (i_:Int) 1)
theorem HC(u:Nat)(p1:Int)(p2:List Int)(s:(List Int))(k:Nat)(hn:p2.length<=9223372036854775807)(hk:p2.length < k):kv u k p1 p2 s 0=Pu.cA (uS u p1 p2) (uT u p1 p2) p2 0 s:=Pu.eG (λ(k:Nat) (s:(List Int)) (i:Int)=>kv u k p1 p2 s i) hn (λ_ _ _=>rfl) s hk
def mP(u:Nat)(x5 x6:List Int)(x7 x8 x9:Int)(r1:am):Option am :=
  some ((am.mk x5 x6 ((cT.mk x7 x8 x9)) r1.fP))
def jq(u:Nat)(p0:am)(p1:ct):Option am :=
  (d9 u p0).bind λr1=>(rq u p1).bind λr2=>bif !r2 then (mP u r1.fA r1.fB r1.fR.aM r1.fR.bQ r1.fR.aW r1) else (bif p1.gq == 0 then ((oV u p0.fA p1.vI p1.fB).bind λr3=>mP u r3 r1.fB r1.fR.aM r1.fR.bQ r1.fR.aW r1) else (bif p1.gq == 1 then ((oV u p0.fB p1.vI p1.fB).bind λr4=>mP u r1.fA r4 r1.fR.aM r1.fR.bQ r1.fR.aW r1) else (mP u r1.fA r1.fB p1.fR.aM p1.fR.bQ p1.fR.aW r1)))
def vu(u:Nat)(x26 x27:List Int)(x28 x29 x30:Int)(x31:List ct):Option am :=
  some ((am.mk x26 x27 ((cT.mk x28 x29 x30)) (([]:List ct))))
def ma(u iy:Nat)(x10:Int)(p0:am)(x11 x12:List Int)(x13 x14 x15:Int)(x16:List ct):Option am:=match iy with
  | 0=>none
  | iy+1=>bif decide (x10 < ((p0.fP.length:Int))) then ((dG p0.fP x10).bind λy24=>(jq u ((am.mk x11 x12 ((cT.mk x13 x14 x15)) x16)) y24).bind λr25=>(λz0 z1 z2 z3 z4 z5 z6 z7=>ma u iy z0 z1 z2 z3 z4 z5 z6 z7) (bd .i64 x10 1) p0 r25.fA r25.fB r25.fR.aM r25.fR.bQ r25.fR.aW r25.fP) else (vu u x11 x12 x13 x14 x15 x16)
def pL(u:Nat)(p0:am):Option am :=
  (d9 u p0).bind λr1=>(ku u p0).bind λr2=>bif !r2 then (some r1) else (ma u u 0 p0 r1.fA r1.fB r1.fR.aM r1.fR.bQ r1.fR.aW r1.fP)
def wi(u:Nat)(p0:am)(s:(List Int)×(List Int)×Int×Int×Int×(List ct)):Option am:=(vu u s.1 s.2.1 s.2.2.1 s.2.2.2.1 s.2.2.2.2.1 s.2.2.2.2.2)
def wj(u:Nat)(p0:am)(y24:ct)(i_:Nat)(s:(List Int)×(List Int)×Int×Int×Int×(List ct))(k_:((List Int)×(List Int)×Int×Int×Int×(List ct))->Option am):Option am:=(jq u ((am.mk s.1 s.2.1 ((cT.mk s.2.2.1 s.2.2.2.1 s.2.2.2.2.1)) s.2.2.2.2.2)) y24).bind λr25=>(λz0 z1 z2 z3 z4 z5 z6 z7=>k_ (z2,z3,z4,z5,z6,z7)) (bd .i64 (i_:Int) 1) p0 r25.fA r25.fB r25.fR.aM r25.fR.bQ r25.fR.aW r25.fP
theorem I3(u:Nat)(p0:am)(s:(List Int)×(List Int)×Int×Int×Int×(List ct))(k:Nat)(hn:p0.fP.length<=9223372036854775807)(hk:p0.fP.length < k):ma u k 0 p0 s.1 s.2.1 s.2.2.1 s.2.2.2.1 s.2.2.2.2.1 s.2.2.2.2.2=Pu.cA (wi u p0) (wj u p0) p0.fP 0 s:=Pu.eG (λ(k:Nat) (s:(List Int)×(List Int)×Int×Int×Int×(List ct)) (i:Int)=>ma u k i p0 s.1 s.2.1 s.2.2.1 s.2.2.2.1 s.2.2.2.2.1 s.2.2.2.2.2) hn (λ_ _ _=>rfl) s hk
def oX(u:Nat)(p0:am)(p1:cT):Option (am×Bool) :=
  (nv u p0 ((ct.mk 2 0 ([]) p1))).bind λr1=>some ((r1.1,r1.2))
def iS(u:Nat)(p3:Int)(p0:am):Option (am×Int) :=
  (d9 u p0).bind λr7=>some ((r7,p3))
def nP(u:Nat)(p0:am)(p1:al)(p2:bI)(p3:Int):Option (am×Int) :=
  bif p3 == 1 then ((we u p1 p2).bind λr1=>bif r1 then ((qq u p0 p2.b9 p1.aw).bind λr2=>bif r2.2 then (some ((r2.1,2))) else (iS u p3 p0)) else (iS u p3 p0)) else (bif p3 == 2 then ((pL u p0).bind λr3=>some ((r3,3))) else (bif p3 == 3 then ((wh u p0).bind λr4=>(oX u p0 ((cT.mk p1.aM r4 p1.aW))).bind λr5=>bif r5.2 then (some ((r5.1,4))) else (iS u p3 p0)) else (bif p3 == 4 then ((pL u p0).bind λr6=>some ((r6,5))) else (iS u p3 p0))))
def uv(u:Nat)(p0:aC):Option Int :=
  bif p0.bc == 0 then (some 0) else ((pK u p0.ay p0.bB).bind λr1=>some r1)
def qT(u:Nat)(x14:Int):Option Int :=
  some x14
def qU(u:Nat)(oF:Int->Int->Int->Int->Option Int)(p0 x12:Int)(x13 x6:Int):Option Int :=
  oF p0 x12 x13 (bd .i64 x6 1)
def nQ(u:Nat)(oF:Int->Int->Int->Int->Option Int)(p0 x4:Int)(x5 x6:Int)(x10:Bool):Option Int :=
  bif x10 then ((eD u p0 x6).bind λr11=>bif r11 then ((dC (decide (0<=x6))).bind λ_=>qU u oF p0 (ez .i64 x4 1) (xO .i64 x5 (jF .i64 1 x6)) x6) else (qU u oF p0 x4 x5 x6)) else (qT u x5)
def fF(u eX:Nat)(p0 x4:Int)(x5 x6:Int):Option Int:=match eX with
  | 0=>none
  | eX+1=>bif decide (x6 < 40) then (nQ u (λz0 z1 z2 z3=>fF u eX z0 z1 z2 z3) p0 x4 x5 x6 (decide (x4 > 0))) else (nQ u (λz0 z1 z2 z3=>fF u eX z0 z1 z2 z3) p0 x4 x5 x6 false)
def sB(u:Nat)(p0 p1:Int):Option Int :=
  fF u u p0 p1 0 0
def uw(u:Nat)(p0:aC)(p1:Int):Option Int :=
  (uv u p0).bind λr1=>(sB u r1 p1).bind λr2=>some r2
def wl(u:Nat)(x11:Int):Option Int :=
  some x11
def mQ(u:Nat)(GY:(List bS)->Int->Int->Option Int)(p0:List bS)(x10 x4:Int):Option Int :=
  GY p0 x10 (bd .i64 x4 1)
def jr(u hJ:Nat)(p0:List bS)(x3 x4:Int):Option Int:=match hJ with
  | 0=>none
  | hJ+1=>bif decide (x4 < ((p0.length:Int))) then ((dG p0 x4).bind λy7=>(ek u y7.ci).bind λr8=>bif r8 then ((dG p0 x4).bind λy9=>mQ u (λz0 z1 z2=>jr u hJ z0 z1 z2) p0 (xO .i64 x3 y9.ci) x4) else (mQ u (λz0 z1 z2=>jr u hJ z0 z1 z2) p0 x3 x4)) else (wl u x3)
def ux(u:Nat)(p0:List bS):Option Int :=
  jr u u p0 0 0
def yr(u:Nat)(p0:List bS)(s:Int):Option Int:=(wl u s)
def tE(u:Nat)(p0:List bS)(y7:bS)(i_:Nat)(s:Int)(k_:Int->Option Int):Option Int:=(ek u y7.ci).bind λr8=>bif r8 then ((dG p0 (i_:Int)).bind λy9=>mQ u (λz0 z1 z2=>k_ z1) p0 (xO .i64 s y9.ci) (i_:Int)) else (mQ u (λz0 z1 z2=>k_ z1) p0 s (i_:Int))
theorem FC(u:Nat)(p0:List bS)(s:Int)(k:Nat)(hn:p0.length<=9223372036854775807)(hk:p0.length < k):jr u k p0 s 0=Pu.cA (yr u p0) (tE u p0) p0 0 s:=Pu.eG (λ(k:Nat) (s i:Int)=>jr u k p0 s i) hn (λ_ _ _=>rfl) s hk
def qV(u:Nat)(x3:Int):Option Int :=
  some x3
def sC(u:Nat)(p0:aC)(p1:Int):Option Int :=
  (ux u p0.bi).bind λr1=>bif p0.bc == 5 then ((ib u r1 p1).bind λr2=>qV u r2) else (qV u r1)
def eS(u:Nat)(p0 p1:Int)(p2:fc):Option ai :=
  (ng u p2).bind λr1=>some ((ai.mk p0 p1 r1))
def sD(u:Nat)(p2:Int)(p1:ig)(p4:am)(r1:aC)(x5 x6:Int)(r3:(List bS))(r2:am):Option Fl :=
  (nP u p4 r1.ay r1.bB r1.bc).bind λr7=>(uw u ((aC.mk r1.fL x5 x6 r1.ay r1.bB r7.2 r3 r1.bw)) p1.aT).bind λr8=>(sC u ((aC.mk r1.fL x5 x6 r1.ay r1.bB r7.2 r3 r1.bw)) p2).bind λr9=>(sn u r1.ay.aM r8 r9).bind λr10=>(eS u p2 x5 r10).bind λr11=>(dC (decide (((([]:List ai)).length+([r11]).length)*40<=140737488355328))).bind λ_=>some ((Fl.mk ((aC.mk r1.fL x5 x6 r1.ay r1.bB r7.2 r3 r1.bw)) r7.1 ((([]:List ai))++([r11]))))
def yu(u:Nat)(p0:cX)(p1:ig)(p2:Int)(p3:aC)(p4:am):Option Fl :=
  (dz u p3).bind λr1=>(d9 u p4).bind λr2=>bif !p3.fL then (some ((Fl.mk r1 r2 (([]:List ai))))) else ((uq u p3.bi p1.aP).bind λr3=>bif p2 == 0 then (some ((Fl.mk ((aC.mk r1.fL r1.bR r1.bG r1.ay r1.bB r1.bc r3 r1.bw)) r2 (([]:List ai))))) else (bif decide (r1.bG>=p1.aF) then ((qo u p0 p2 p3.bR).bind λr4=>sD u p2 p1 p4 r1 r4 0 r3 r2) else (sD u p2 p1 p4 r1 r1.bR (bd .i64 r1.bG 1) r3 r2)))
def fG(u:Nat)(oH:(List ai)->Int->World->(List ai)->(List cH)->Int->Option World)(p1:List ai)(x5:Int)(p0:World)(x23:List ai)(x24:List cH)(x25:Int):Option World :=
  oH p1 (bd .i64 x5 1) p0 x23 x24 x25
def eL(u:Nat)(oH:(List ai)->Int->World->(List ai)->(List cH)->Int->Option World)(p1:List ai)(x5:Int)(x20:Bool)(p0:World)(x6:List ai)(y13 y14 y15:ai)(x7:List cH)(x8:Int)(r19:fc×Bool):Option World :=
  bif x20 then ((dG p1 x5).bind λy21=>(dG p1 x5).bind λy22=>(dC (decide ((x7.length+([(cH.mk y21.dt y22.tl r19.1.fI)]).length)*24<=140737488355328))).bind λ_=>fG u oH p1 x5 p0 (x6++([(ai.mk y13.dt y14.tl ((([]:List Int))++y15.fB))])) (x7++([(cH.mk y21.dt y22.tl r19.1.fI)])) x8) else (fG u oH p1 x5 p0 (x6++([(ai.mk y13.dt y14.tl ((([]:List Int))++y15.fB))])) x7 x8)
def cf(u cE:Nat)(p1:List ai)(x5:Int)(p0:World)(x6:List ai)(x7:List cH)(x8:Int):Option World:=match cE with
  | 0=>none
  | cE+1=>bif decide (x5 < ((p1.length:Int))) then (bif decide (((x6.length:Int))>=400) then (fG u (λz0 z1 z2 z3 z4 z5=>cf u cE z0 z1 z2 z3 z4 z5) p1 x5 p0 x6 x7 (bd .i64 x8 1)) else ((dG p1 x5).bind λy13=>(dG p1 x5).bind λy14=>(dG p1 x5).bind λy15=>(dC (decide (((([]:List Int)).length+y15.fB.length)*1<=140737488355328))).bind λ_=>(dC (decide ((x6.length+([(ai.mk y13.dt y14.tl ((([]:List Int))++y15.fB))]).length)*40<=140737488355328))).bind λ_=>(dG p1 x5).bind λy18=>(kn u y18.fB).bind λr19=>bif r19.2 then (bif r19.1.br == 3 then (eL u (λz0 z1 z2 z3 z4 z5=>cf u cE z0 z1 z2 z3 z4 z5) p1 x5 (decide (((x7.length:Int)) < 3000)) p0 x6 y13 y14 y15 x7 x8 r19) else (eL u (λz0 z1 z2 z3 z4 z5=>cf u cE z0 z1 z2 z3 z4 z5) p1 x5 false p0 x6 y13 y14 y15 x7 x8 r19)) else (eL u (λz0 z1 z2 z3 z4 z5=>cf u cE z0 z1 z2 z3 z4 z5) p1 x5 false p0 x6 y13 y14 y15 x7 x8 r19))) else (some ((World.mk p0.fC p0.fT p0.bK p0.bA p0.fN p0.fD x6 x7 x8)))
def mb(u:Nat)(p0:World)(p1:List ai):Option World :=
  cf u u p1 0 p0 p0.bn p0.cN p0.bl
def DI(u:Nat)(p1:List ai)(p0:World)(s:(List ai)×(List cH)×Int):Option World:=(some ((World.mk p0.fC p0.fT p0.bK p0.bA p0.fN p0.fD s.1 s.2.1 s.2.2)))
def DJ(u:Nat)(p1:List ai)(p0:World)(i_:Nat)(s:(List ai)×(List cH)×Int)(k_:((List ai)×(List cH)×Int)->Option World):Option World:=bif decide (((s.1.length:Int))>=400) then (fG u (λz0 z1 z2 z3 z4 z5=>k_ (z3,z4,z5)) p1 (i_:Int) p0 s.1 s.2.1 (bd .i64 s.2.2 1)) else ((dG p1 (i_:Int)).bind λy13=>(dG p1 (i_:Int)).bind λy14=>(dG p1 (i_:Int)).bind λy15=>(dC (decide (((([]:List Int)).length+y15.fB.length)*1<=140737488355328))).bind λ_=>(dC (decide ((s.1.length+([(ai.mk y13.dt y14.tl ((([]:List Int))++y15.fB))]).length)*40<=140737488355328))).bind λ_=>(dG p1 (i_:Int)).bind λy18=>(kn u y18.fB).bind λr19=>bif r19.2 then (bif r19.1.br == 3 then (eL u (λz0 z1 z2 z3 z4 z5=>k_ (z3,z4,z5)) p1 (i_:Int) (decide (((s.2.1.length:Int)) < 3000)) p0 s.1 y13 y14 y15 s.2.1 s.2.2 r19) else (eL u (λz0 z1 z2 z3 z4 z5=>k_ (z3,z4,z5)) p1 (i_:Int) false p0 s.1 y13 y14 y15 s.2.1 s.2.2 r19)) else (eL u (λz0 z1 z2 z3 z4 z5=>k_ (z3,z4,z5)) p1 (i_:Int) false p0 s.1 y13 y14 y15 s.2.1 s.2.2 r19))
theorem QP(u:Nat)(p1:List ai)(p0:World)(s:(List ai)×(List cH)×Int)(k:Nat)(hn:(((p1.length:Int)):Int)<=9223372036854775807)(hk:sY (((p1.length:Int))) < k):cf u k p1 0 p0 s.1 s.2.1 s.2.2=Pu.lB (DI u p1 p0) (DJ u p1 p0) (sY (((p1.length:Int)))) 0 s:=Pu.pi (λ(k:Nat) (s:(List ai)×(List cH)×Int) (i:Int)=>cf u k p1 i p0 s.1 s.2.1 s.2.2) hn (λ_ _ _=>rfl) s hk
def kc(u:Nat)(p0:World)(p1:Int):Option World :=
  (dG p0.fN p1).bind λy1=>(dG p0.fD p1).bind λy2=>(yu u p0.fT p0.fC p1 y1 y2).bind λr3=>(dG p0.fN p1).bind λy4=>(dG p0.fD p1).bind λy5=>(mb u ((World.mk p0.fC p0.fT p0.bK p0.bA (p0.fN.set (sY p1) r3.fN) (p0.fD.set (sY p1) r3.fD) p0.bn p0.cN p0.bl)) r3.kj).bind λr6=>some r6
def kd(u:Nat)(p0:aC):Option aC :=
  (dz u p0).bind λr1=>some ((aC.mk r1.fL r1.bR r1.bG r1.ay r1.bB r1.bc r1.bi (bd .i64 r1.bw 1)))
def xK(u:Nat)  : Option Int :=
  some (-1)
def og(u lQ:Nat)(p0:List bS)(p1 x2:Int):Option Int:=match lQ with
  | 0=>none
  | lQ+1=>bif decide (x2 < ((p0.length:Int))) then ((dG p0 x2).bind λy4=>bif y4.oK == p1 then (some x2) else ((λz0 z1 z2=>og u lQ z0 z1 z2) p0 p1 (bd .i64 x2 1))) else (xK u)
def rr(u:Nat)(p0:List bS)(p1:Int):Option Int :=
  og u u p0 p1 0
def HD(u:Nat)(p0:List bS)(p1:Int)(s:Unit):Option Int:=(xK u)
def HE(u:Nat)(p0:List bS)(p1:Int)(y4:bS)(i_:Nat)(s:Unit)(k_:Unit->Option Int):Option Int:=bif y4.oK == p1 then (some (i_:Int)) else ((λz0 z1 z2=>k_ ()) p0 p1 (bd .i64 (i_:Int) 1))
theorem HF(u:Nat)(p0:List bS)(p1:Int)(s:Unit)(k:Nat)(hn:p0.length<=9223372036854775807)(hk:p0.length < k):og u k p0 p1 0=Pu.cA (HD u p0 p1) (HE u p0 p1) p0 0 s:=Pu.eG (λ(k:Nat) (s:Unit) (i:Int)=>og u k p0 p1 i) hn (λ_ _ _=>rfl) s hk
def vw(u:Nat)(p1 p2 p3:Int)(p0:List bS)(x12:Int):Option ((List bS)) :=
  (dC (cO 0 x12 ((([]:List bS))++p0).length)).bind λ_=>(dC (decide (((([]:List bS)).length+((((([]:List bS))++p0).take (sY x12)).drop (sY 0)).length)*40<=140737488355328))).bind λ_=>(dC (decide ((((([]:List bS))++((((([]:List bS))++p0).take (sY x12)).drop (sY 0))).length+([(bS.mk p1 p2 p3 0 0)]).length)*40<=140737488355328))).bind λ_=>(dC (cO x12 ((((([]:List bS))++p0).length:Int)) ((([]:List bS))++p0).length)).bind λ_=>(dC (decide (((((([]:List bS))++((((([]:List bS))++p0).take (sY x12)).drop (sY 0)))++([(bS.mk p1 p2 p3 0 0)])).length+((((([]:List bS))++p0).take (sY ((((([]:List bS))++p0).length:Int)))).drop (sY x12)).length)*40<=140737488355328))).bind λ_=>some ((((([]:List bS))++((((([]:List bS))++p0).take (sY x12)).drop (sY 0)))++([(bS.mk p1 p2 p3 0 0)]))++((((([]:List bS))++p0).take (sY ((((([]:List bS))++p0).length:Int)))).drop (sY x12)))
def sE(u:Nat)(K8:Int->Int->Int->(List bS)->Int->Option ((List bS)))(p1 p2 p3:Int)(p0:List bS)(x8:Int)(x11:Bool):Option ((List bS)) :=
  bif x11 then (K8 p1 p2 p3 p0 (bd .i64 x8 1)) else (vw u p1 p2 p3 p0 x8)
def ke(u jE:Nat)(p1 p2 p3:Int)(p0:List bS)(x8:Int):Option ((List bS)):=match jE with
  | 0=>none
  | jE+1=>bif decide (x8 < ((((([]:List bS))++p0).length:Int))) then ((dG ((([]:List bS))++p0) x8).bind λy10=>sE u (λz0 z1 z2 z3 z4=>ke u jE z0 z1 z2 z3 z4) p1 p2 p3 p0 x8 (decide (y10.oK<=p1))) else (sE u (λz0 z1 z2 z3 z4=>ke u jE z0 z1 z2 z3 z4) p1 p2 p3 p0 x8 false)
def sF(u:Nat)(p0:List bS)(p1 p2 p3:Int)(x5:Bool):Option ((List bS)) :=
  bif x5 then (some ((([]:List bS))++p0)) else ((rr u p0 p1).bind λr6=>bif decide (r6 < 0) then (ke u u p1 p2 p3 p0 0) else ((dG ((([]:List bS))++p0) r6).bind λy11=>(dG ((([]:List bS))++p0) r6).bind λy12=>some (((([]:List bS))++p0).set (sY r6) ((bS.mk y11.oK p2 (xO .i64 y11.ci p3) 0 y11.oI)))))
def yv(u:Nat)(p0:List bS)(p1 p2 p3:Int):Option ((List bS)) :=
  (dC (decide (((([]:List bS)).length+p0.length)*40<=140737488355328))).bind λ_=>(bM u p1 0 6).bind λr2=>bif !r2 then (sF u p0 p1 p2 p3 true) else ((ek u p2).bind λr3=>bif !r3 then (sF u p0 p1 p2 p3 true) else ((ek u p3).bind λr4=>sF u p0 p1 p2 p3 (!r4)))
def rE(u:Nat)(p0:aC):Option Int :=
  some p0.bB.bq
def mR(u:Nat)(p0:List bS)(p2 r1:Int)(x7:Bool):Option Int :=
  bif x7 then (some 0) else ((dG p0 r1).bind λy8=>(dG p0 r1).bind λy9=>some (zF .i64 (fK .i64 y8.cn p2) y9.oI))
def rF(u:Nat)(p0:List bS)(p1 p2:Int):Option Int :=
  (rr u p0 p1).bind λr1=>bif decide (r1 < 0) then (mR u p0 p2 r1 true) else ((ek u p2).bind λr2=>bif !r2 then (mR u p0 p2 r1 true) else ((dG p0 r1).bind λy3=>(ek u y3.cn).bind λr4=>bif !r4 then (mR u p0 p2 r1 true) else ((dG p0 r1).bind λy5=>(ek u y5.oI).bind λr6=>mR u p0 p2 r1 (!r6))))
def qW(u:Nat)(x9:List Int):Option ((List Int)) :=
  some x9
def jR(u:Nat)(Fi:Int->(List Int)->Int->Option ((List Int)))(p0:Int)(x8:List Int)(x4:Int):Option ((List Int)) :=
  Fi p0 x8 (bd .i64 x4 1)
def iC(u gn:Nat)(p0:Int)(x3:List Int)(x4:Int):Option ((List Int)):=match gn with
  | 0=>none
  | gn+1=>bif decide (x4 < 40) then ((eD u p0 x4).bind λr7=>bif r7 then ((dC (decide ((x3.length+(([x4]:List Int)).length)*8<=140737488355328))).bind λ_=>jR u (λz0 z1 z2=>iC u gn z0 z1 z2) p0 (x3++(([x4]:List Int))) x4) else (jR u (λz0 z1 z2=>iC u gn z0 z1 z2) p0 x3 x4)) else (qW u x3)
def sG(u:Nat)(p0:Int):Option ((List Int)) :=
  iC u u p0 (([]:List Int)) 0
def w6(u:Nat)(p0:Int)(s:(List Int)):Option ((List Int)):=(qW u s)
def w7(u:Nat)(p0:Int)(i_:Nat)(s:(List Int))(k_:((List Int))->Option ((List Int))):Option ((List Int)):=(eD u p0 (i_:Int)).bind λr7=>bif r7 then ((dC (decide ((s.length+(([(i_:Int)]:List Int)).length)*8<=140737488355328))).bind λ_=>jR u (λz0 z1 z2=>k_ z1) p0 (s++(([(i_:Int)]:List Int))) (i_:Int)) else (jR u (λz0 z1 z2=>k_ z1) p0 s (i_:Int))
theorem DK(u:Nat)(p0:Int)(s:(List Int))(k:Nat)(hn:(40:Int)<=9223372036854775807)(hk:sY (40) < k):iC u k p0 s 0=Pu.lB (w6 u p0) (w7 u p0) (sY (40)) 0 s:=Pu.pi (λ(k:Nat) (s:(List Int)) (i:Int)=>iC u k p0 s i) hn (λ_ _ _=>rfl) s hk
def qX(u:Nat)(p2:Int)(x3:Bool)(p0:al)(p1:bI):Option ((List Int)×Bool) :=
  bif x3 then (some ((([]:List Int),false))) else ((fm u p0.aw p0.aW p2).bind λr4=>(dC (cO r4.1 (bd .i64 r4.1 r4.2) p1.b9.length)).bind λ_=>(dC (decide (((([]:List Int)).length+((p1.b9.take (sY (bd .i64 r4.1 r4.2))).drop (sY r4.1)).length)*1<=140737488355328))).bind λ_=>some (((([]:List Int))++((p1.b9.take (sY (bd .i64 r4.1 r4.2))).drop (sY r4.1)),true)))
def nw(u:Nat)(p0:al)(p1:bI)(p2:Int):Option ((List Int)×Bool) :=
  (nu u p0 p1).bind λr1=>bif !r1 then (qX u p2 true p0 p1) else ((eD u p1.bq p2).bind λr2=>qX u p2 (!r2) p0 p1)
def mS(u:Nat)(p2:Int)(p0:List bS)(r2:Int)(x6:Bool):Option ((List bS)) :=
  bif x6 then (some ((([]:List bS))++p0)) else ((dG ((([]:List bS))++p0) r2).bind λy7=>(dG ((([]:List bS))++p0) r2).bind λy8=>some (((([]:List bS))++p0).set (sY r2) ((bS.mk y7.oK y7.cn y7.ci y7.wT (xO .i64 y7.oI p2)))))
def oh(u:Nat)(p0:List bS)(p1 p2:Int):Option ((List bS)) :=
  (dC (decide (((([]:List bS)).length+p0.length)*40<=140737488355328))).bind λ_=>(rr u p0 p1).bind λr2=>bif decide (r2 < 0) then (mS u p2 p0 r2 true) else ((ek u p2).bind λr3=>bif !r3 then (mS u p2 p0 r2 true) else ((dG p0 r2).bind λy4=>(ek u y4.oI).bind λr5=>mS u p2 p0 r2 (!r5)))
def oB(u:Nat)(p2 r3:Int)(p0 r1:aC)(x17:List ai):Option Act :=
  (oh u p0.bi p2 r3).bind λr18=>some ((Act.mk ((aC.mk r1.fL r1.bR r1.bG r1.ay r1.bB r1.bc r18 r1.bw)) x17))
def jH(u:Nat)(B7:Int->Int->Int->((List Int))->Int->aC->aC->(List ai)->Option Act)(p1 p2 r3:Int)(r4:(List Int))(x7:Int)(p0 r1:aC)(x16:List ai):Option Act :=
  B7 p1 p2 r3 r4 (bd .i64 x7 1) p0 r1 x16
def gc(u eU:Nat)(p1 p2 r3:Int)(r4:(List Int))(x7:Int)(p0 r1:aC)(x8:List ai):Option Act:=match eU with
  | 0=>none
  | eU+1=>bif decide (x7 < ((r4.length:Int))) then ((dG r4 x7).bind λy11=>(nw u p0.ay p0.bB y11).bind λr12=>bif r12.2 then ((dG r4 x7).bind λy13=>(lZ u p0.ay.aM y13 r12.1).bind λr14=>(eS u p1 p2 r14).bind λr15=>(dC (decide ((x8.length+([r15]).length)*40<=140737488355328))).bind λ_=>jH u (λz0 z1 z2 z3 z4 z5 z6 z7=>gc u eU z0 z1 z2 z3 z4 z5 z6 z7) p1 p2 r3 r4 x7 p0 r1 (x8++([r15]))) else (jH u (λz0 z1 z2 z3 z4 z5 z6 z7=>gc u eU z0 z1 z2 z3 z4 z5 z6 z7) p1 p2 r3 r4 x7 p0 r1 x8)) else (oB u p2 r3 p0 r1 x8)
def oY(u:Nat)(p0:aC)(p1 p2:Int):Option Act :=
  (dz u p0).bind λr1=>(rE u p0).bind λr2=>(rF u p0.bi p2 r2).bind λr3=>(sG u r3).bind λr4=>gc u u p1 p2 r3 r4 0 p0 r1 (([]:List ai))
def vg(u:Nat)(p1 p2 r3:Int)(r4:(List Int))(p0 r1:aC)(s:(List ai)):Option Act:=(oB u p2 r3 p0 r1 s)
def vh(u:Nat)(p1 p2 r3:Int)(r4:(List Int))(p0 r1:aC)(y11:Int)(i_:Nat)(s:(List ai))(k_:((List ai))->Option Act):Option Act:=(nw u p0.ay p0.bB y11).bind λr12=>bif r12.2 then ((dG r4 (i_:Int)).bind λy13=>(lZ u p0.ay.aM y13 r12.1).bind λr14=>(eS u p1 p2 r14).bind λr15=>(dC (decide ((s.length+([r15]).length)*40<=140737488355328))).bind λ_=>jH u (λz0 z1 z2 z3 z4 z5 z6 z7=>k_ z7) p1 p2 r3 r4 (i_:Int) p0 r1 (s++([r15]))) else (jH u (λz0 z1 z2 z3 z4 z5 z6 z7=>k_ z7) p1 p2 r3 r4 (i_:Int) p0 r1 s)
theorem B1(u:Nat)(p1 p2 r3:Int)(r4:(List Int))(p0 r1:aC)(s:(List ai))(k:Nat)(hn:r4.length<=9223372036854775807)(hk:r4.length < k):gc u k p1 p2 r3 r4 0 p0 r1 s=Pu.cA (vg u p1 p2 r3 r4 p0 r1) (vh u p1 p2 r3 r4 p0 r1) r4 0 s:=Pu.eG (λ(k:Nat) (s:(List ai)) (i:Int)=>gc u k p1 p2 r3 r4 i p0 r1 s) hn (λ_ _ _=>rfl) s hk
def nx(u:Nat)(r1:aC)(r2:(List bS))(x10:List ai):Option Act :=
  some ((Act.mk ((aC.mk r1.fL r1.bR r1.bG r1.ay r1.bB r1.bc r2 r1.bw)) x10))
def ny(u:Nat)(r1:aC)(r2:(List bS))(r7:Act)(x9:List ai):Option Act :=
  some ((Act.mk r7.fN x9))
def nR(u:Nat)(p0:aC)(p1 p2:Int)(p3:fc):Option Act :=
  (dz u p0).bind λr1=>bif p2 == p1 then (some ((Act.mk r1 (([]:List ai))))) else ((yv u p0.bi p2 p3.cn p3.ci).bind λr2=>bif p0.bc == 0 then ((eS u p1 p2 ((fc.mk 4 0 ((al.mk 0 0 0 ([]))) 0 0 0 ([])))).bind λr3=>(dC (decide (((([]:List ai)).length+([r3]).length)*40<=140737488355328))).bind λ_=>nx u r1 r2 ((([]:List ai))++([r3]))) else (bif p3.aM != p0.ay.aM then ((eS u p1 p2 ((fc.mk 1 0 p0.ay 0 0 0 ([])))).bind λr5=>(dC (decide (((([]:List ai)).length+([r5]).length)*40<=140737488355328))).bind λ_=>nx u r1 r2 ((([]:List ai))++([r5]))) else ((oY u ((aC.mk r1.fL r1.bR r1.bG r1.ay r1.bB r1.bc r2 r1.bw)) p1 p2).bind λr7=>bif ((r7.kj.length:Int)) == 0 then ((eS u p1 p2 ((fc.mk 4 p0.ay.aM ((al.mk 0 0 0 ([]))) 0 0 0 ([])))).bind λr8=>(dC (decide ((r7.kj.length+([r8]).length)*40<=140737488355328))).bind λ_=>ny u r1 r2 r7 (r7.kj++([r8]))) else (ny u r1 r2 r7 r7.kj))))
def pM(u:Nat)(p0:am):Option (Int×(List Int)) :=
  (ku u p0).bind λr1=>bif !r1 then (some ((0,([]:List Int)))) else ((rD u p0 p0.fR.bQ).bind λr2=>(dC (cO 0 p0.fR.aW r2.length)).bind λ_=>(dC (decide (((([]:List Int)).length+((r2.take (sY p0.fR.aW)).drop (sY 0)).length)*1<=140737488355328))).bind λ_=>some ((p0.fR.aM,(([]:List Int))++((r2.take (sY p0.fR.aW)).drop (sY 0)))))
def qY(u:Nat)(r1:aC)(r7:al)(r8:bI)(x11:Int):Option aC :=
  some ((aC.mk r1.fL r1.bR r1.bG r7 r8 x11 r1.bi r1.bw))
def qZ(u:Nat)(x10:Bool)(r1:aC)(r7:al)(r8:bI):Option aC :=
  bif x10 then (qY u r1 r7 r8 5) else (qY u r1 r7 r8 1)
def q5(u:Nat)(x5:Bool)(p1:am)(p2:al)(r1:aC):Option aC :=
  bif x5 then (some r1) else ((pM u p1).bind λr6=>(lX u p2).bind λr7=>(mE u p2 r6.2).bind λr8=>bif r6.1 == p2.aM then ((tw u p2 r6.2).bind λr9=>qZ u r9 r1 r7 r8) else (qZ u false r1 r7 r8))
def sH(u:Nat)(p0:aC)(p1:am)(p2:al):Option aC :=
  (dz u p0).bind λr1=>bif p0.bc != 0 then ((pC u p0.ay p2).bind λr2=>bif !r2 then ((kd u p0).bind λr3=>some r3) else (some r1)) else ((ii u p2).bind λr4=>bif !r4 then (q5 u true p1 p2 r1) else (q5 u (p2.aM == 0) p1 p2 r1))
def pN(u:Nat)(x4:Bool)(x5:Int)(x6:List Int):Option (bI×Bool) :=
  bif x4 then (some (((bI.mk x5 x6),false))) else (some (((bI.mk x5 x6),true)))
def qt(u:Nat)(p0:al)(p1:bI)(p2:Int)(p3:List Int):Option (bI×Bool) :=
  (nd u p1).bind λr1=>(nu u p0 p1).bind λr2=>bif !r2 then (pN u true r1.bq r1.b9) else ((rn u p0 r1 p2 p3).bind λr3=>pN u (!r3.1) r3.2.bq r3.2.b9)
def q6(u:Nat)(r1:aC)(x24:List bS)(x25:List ai):Option Act :=
  some ((Act.mk ((aC.mk r1.fL r1.bR r1.bG r1.ay r1.bB r1.bc x24 r1.bw)) x25))
def q7(u:Nat)(oG:Int->Int->((List Int)×Bool)->Int->aC->aC->(List bS)->(List ai)->Option Act)(p1 p2:Int)(r2:(List Int)×Bool)(x6:Int)(p0 r1:aC)(x22:List bS)(x23:List ai):Option Act :=
  oG p1 p2 r2 (bd .i64 x6 1) p0 r1 x22 x23
def lL(u:Nat)(oG:Int->Int->((List Int)×Bool)->Int->aC->aC->(List bS)->(List ai)->Option Act)(p1 p2:Int)(r2:(List Int)×Bool)(x6:Int)(x12:Bool)(p0 r1:aC)(x7:List bS)(x8:List ai):Option Act :=
  bif x12 then ((dG p0.bi x6).bind λy13=>(rE u p0).bind λr14=>(rF u x7 y13.oK r14).bind λr15=>(eD u r15 p2).bind λr16=>bif r16 then ((lZ u p0.ay.aM p2 r2.1).bind λr17=>(eS u p1 y13.oK r17).bind λr18=>(dC (decide ((x8.length+([r18]).length)*40<=140737488355328))).bind λ_=>(ib u 0 p2).bind λr20=>(oh u x7 y13.oK r20).bind λr21=>q7 u oG p1 p2 r2 x6 p0 r1 r21 (x8++([r18]))) else (q7 u oG p1 p2 r2 x6 p0 r1 x7 x8)) else (q6 u r1 x7 x8)
def eM(u eY:Nat)(p1 p2:Int)(r2:(List Int)×Bool)(x6:Int)(p0 r1:aC)(x7:List bS)(x8:List ai):Option Act:=match eY with
  | 0=>none
  | eY+1=>bif decide (x6 < ((p0.bi.length:Int))) then (lL u (λz0 z1 z2 z3 z4 z5 z6 z7=>eM u eY z0 z1 z2 z3 z4 z5 z6 z7) p1 p2 r2 x6 r2.2 p0 r1 x7 x8) else (lL u (λz0 z1 z2 z3 z4 z5 z6 z7=>eM u eY z0 z1 z2 z3 z4 z5 z6 z7) p1 p2 r2 x6 false p0 r1 x7 x8)
def sI(u:Nat)(p0:aC)(p1 p2:Int):Option Act :=
  (dz u p0).bind λr1=>(nw u p0.ay p0.bB p2).bind λr2=>eM u u p1 p2 r2 0 p0 r1 r1.bi (([]:List ai))
def pO(u:Nat)(p1:Int)(x1:Bool)(p0:aC)(p2:fc):Option Act :=
  bif x1 then ((kd u p0).bind λr2=>some ((Act.mk r2 (([]:List ai))))) else ((eD u p0.bB.bq p2.fI).bind λr3=>bif r3 then ((dz u p0).bind λr4=>some ((Act.mk r4 (([]:List ai))))) else ((qt u p0.ay p0.bB p2.fI p2.fB).bind λr5=>bif !r5.2 then ((kd u p0).bind λr6=>some ((Act.mk r6 (([]:List ai))))) else ((dz u p0).bind λr7=>(sI u ((aC.mk r7.fL r7.bR r7.bG r7.ay r5.1 r7.bc r7.bi r7.bw)) p1 p2.fI).bind λr8=>some r8)))
def qu(u:Nat)(p0:aC)(p1:Int)(p2:fc):Option Act :=
  bif p0.bc == 0 then (pO u p1 true p0 p2) else (pO u p1 (p2.aM != p0.ay.aM) p0 p2)
def mT(u:Nat)(x4:Bool)(x5 x6:Int)(x7 x8 x9:Int)(x10:List cS)(x11:Int)(x12:List Int)(x13:Int)(x14:List bS)(x15:Int):Option Act :=
  some ((Act.mk ((aC.mk x4 x5 x6 ((al.mk x7 x8 x9 x10)) ((bI.mk x11 x12)) x13 x14 x15)) (([]:List ai))))
def qv(u:Nat)(p0:aC)(p1:Int)(p2:am)(p3:fc):Option Act :=
  (dz u p0).bind λr1=>bif p3.br == 1 then ((sH u ((aC.mk r1.fL r1.bR 0 r1.ay r1.bB r1.bc r1.bi r1.bw)) p2 p3.ay).bind λr2=>mT u r2.fL r2.bR r2.bG r2.ay.aM r2.ay.aw r2.ay.aW r2.ay.aO r2.bB.bq r2.bB.b9 r2.bc r2.bi r2.bw) else (bif p3.br == 3 then ((qu u ((aC.mk r1.fL r1.bR 0 r1.ay r1.bB r1.bc r1.bi r1.bw)) p1 p3).bind λr3=>some r3) else (bif p3.br == 2 then (mT u r1.fL r1.bR 0 r1.ay.aM r1.ay.aw r1.ay.aW r1.ay.aO r1.bB.bq r1.bB.b9 r1.bc r1.bi (bd .i64 r1.bw 1)) else (mT u r1.fL r1.bR 0 r1.ay.aM r1.ay.aw r1.ay.aW r1.ay.aO r1.bB.bq r1.bB.b9 r1.bc r1.bi r1.bw)))
def sJ(u:Nat)(p1:Int)(x4:Bool)(p2:aC)(p3:am)(p4:ai)(r2:fc×Bool):Option Act :=
  bif x4 then ((kd u p2).bind λr5=>some ((Act.mk r5 (([]:List ai))))) else (bif r2.1.br == 2 then ((nR u p2 p1 p4.dt r2.1).bind λr6=>some r6) else (bif p4.dt == p2.bR then ((qv u p2 p1 p3 r2.1).bind λr7=>some r7) else ((kd u p2).bind λr8=>some ((Act.mk r8 (([]:List ai)))))))
def yx(u:Nat)(p0:cX)(p1:Int)(p2:aC)(p3:am)(p4:ai):Option Act :=
  bif !p2.fL then ((dz u p2).bind λr1=>some ((Act.mk r1 (([]:List ai))))) else ((kn u p4.fB).bind λr2=>bif !r2.2 then (sJ u p1 true p2 p3 p4 r2) else ((bM u p4.dt 0 (ez .i64 ((p0.ca.length:Int)) 1)).bind λr3=>bif !r3 then (sJ u p1 true p2 p3 p4 r2) else (sJ u p1 (p4.dt == p1) p2 p3 p4 r2)))
def kh(u:Nat)(p0:World)(p1:Int):Option World :=
  (dG p0.bn p1).bind λy1=>(dC (cO 0 p1 p0.bn.length)).bind λ_=>(dC (decide (((([]:List ai)).length+((p0.bn.take (sY p1)).drop (sY 0)).length)*40<=140737488355328))).bind λ_=>(dC (cO (bd .i64 p1 1) ((p0.bn.length:Int)) p0.bn.length)).bind λ_=>(dC (decide ((((([]:List ai))++((p0.bn.take (sY p1)).drop (sY 0))).length+((p0.bn.take (sY ((p0.bn.length:Int)))).drop (sY (bd .i64 p1 1))).length)*40<=140737488355328))).bind λ_=>(dG p0.fN y1.tl).bind λy6=>(dG p0.fD y1.tl).bind λy7=>(yx u p0.fT y1.tl y6 y7 y1).bind λr8=>(dG p0.fN y1.tl).bind λy9=>(mb u ((World.mk p0.fC p0.fT p0.bK p0.bA (p0.fN.set (sY y1.tl) r8.fN) p0.fD (((([]:List ai))++((p0.bn.take (sY p1)).drop (sY 0)))++((p0.bn.take (sY ((p0.bn.length:Int)))).drop (sY (bd .i64 p1 1)))) p0.cN p0.bl)) r8.kj).bind λr10=>some r10
def xL(u:Nat)(p0:aC):Option aC :=
  some ((aC.mk false 0 0 ((al.mk 0 0 0 ([]))) ((bI.mk 0 ([]))) 0 ([]) 0))
def zl(u:Nat)(x33 x34:List Int)(x35 x36 x37:Int)(x38:List ct):Option am :=
  some ((am.mk x33 x34 ((cT.mk x35 x36 x37)) (([]:List ct))))
def pP(u:Nat)(K7:Int->Int->am->(List Int)->(List Int)->Int->Int->Int->(List ct)->Option am)(p1 x10:Int)(p0:am)(x27 x28:List Int)(x29 x30 x31:Int)(x32:List ct):Option am :=
  K7 p1 (bd .i64 x10 1) p0 x27 x28 x29 x30 x31 x32
def mc(u jD:Nat)(p1 x10:Int)(p0:am)(x11 x12:List Int)(x13 x14 x15:Int)(x16:List ct):Option am:=match jD with
  | 0=>none
  | jD+1=>bif decide (x10 < ((p0.fP.length:Int))) then ((eD u p1 x10).bind λr24=>bif r24 then ((dG p0.fP x10).bind λy25=>(jq u ((am.mk x11 x12 ((cT.mk x13 x14 x15)) x16)) y25).bind λr26=>pP u (λz0 z1 z2 z3 z4 z5 z6 z7 z8=>mc u jD z0 z1 z2 z3 z4 z5 z6 z7 z8) p1 x10 p0 r26.fA r26.fB r26.fR.aM r26.fR.bQ r26.fR.aW r26.fP) else (pP u (λz0 z1 z2 z3 z4 z5 z6 z7 z8=>mc u jD z0 z1 z2 z3 z4 z5 z6 z7 z8) p1 x10 p0 x11 x12 x13 x14 x15 x16)) else (zl u x11 x12 x13 x14 x15 x16)
def tF(u:Nat)(p0:am)(p1:Int):Option am :=
  (d9 u p0).bind λr1=>(ku u p0).bind λr2=>bif !r2 then (some r1) else (mc u u p1 0 p0 r1.fA r1.fB r1.fR.aM r1.fR.bQ r1.fR.aW r1.fP)
def AK(u:Nat)(p1:Int)(p0:am)(s:(List Int)×(List Int)×Int×Int×Int×(List ct)):Option am:=(zl u s.1 s.2.1 s.2.2.1 s.2.2.2.1 s.2.2.2.2.1 s.2.2.2.2.2)
def wm(u:Nat)(p1:Int)(p0:am)(i_:Nat)(s:(List Int)×(List Int)×Int×Int×Int×(List ct))(k_:((List Int)×(List Int)×Int×Int×Int×(List ct))->Option am):Option am:=(eD u p1 (i_:Int)).bind λr24=>bif r24 then ((dG p0.fP (i_:Int)).bind λy25=>(jq u ((am.mk s.1 s.2.1 ((cT.mk s.2.2.1 s.2.2.2.1 s.2.2.2.2.1)) s.2.2.2.2.2)) y25).bind λr26=>pP u (λz0 z1 z2 z3 z4 z5 z6 z7 z8=>k_ (z3,z4,z5,z6,z7,z8)) p1 (i_:Int) p0 r26.fA r26.fB r26.fR.aM r26.fR.bQ r26.fR.aW r26.fP) else (pP u (λz0 z1 z2 z3 z4 z5 z6 z7 z8=>k_ (z3,z4,z5,z6,z7,z8)) p1 (i_:Int) p0 s.1 s.2.1 s.2.2.1 s.2.2.2.1 s.2.2.2.2.1 s.2.2.2.2.2)
theorem I4(u:Nat)(p1:Int)(p0:am)(s:(List Int)×(List Int)×Int×Int×Int×(List ct))(k:Nat)(hn:(((p0.fP.length:Int)):Int)<=9223372036854775807)(hk:sY (((p0.fP.length:Int))) < k):mc u k p1 0 p0 s.1 s.2.1 s.2.2.1 s.2.2.2.1 s.2.2.2.2.1 s.2.2.2.2.2=Pu.lB (AK u p1 p0) (wm u p1 p0) (sY (((p0.fP.length:Int)))) 0 s:=Pu.pi (λ(k:Nat) (s:(List Int)×(List Int)×Int×Int×Int×(List ct)) (i:Int)=>mc u k p1 i p0 s.1 s.2.1 s.2.2.1 s.2.2.2.1 s.2.2.2.2.1 s.2.2.2.2.2) hn (λ_ _ _=>rfl) s hk
def yy(u:Nat)(p0:am)(p1:Int):Option am :=
  (tF u p0 p1).bind λr1=>some r1
def ms(u:Nat)(p0:World)(p1:ai):Option Bool :=
  (bM u p1.dt 0 (ez .i64 ((p0.fN.length:Int)) 1)).bind λr1=>bif r1 then ((bM u p1.tl 0 (ez .i64 ((p0.fN.length:Int)) 1)).bind λr2=>some r2) else (some false)
def oj(u:Nat)(r1:Bool)(x4 x5:Int)(x6 x7:Int)(x8 x9:List Int)(x10:List aY)(x11:List aC)(x12:List am)(x13:List ai)(x14:List cH)(x15:Int):Option (Bool×World) :=
  some ((r1,(World.mk ((ig.mk x4 x5 x6 x7)) ((cX.mk x8)) x9 x10 x11 x12 x13 x14 x15)))
def om(u:Nat)(r2:Bool)(x5 x6:Int)(x7 x8:Int)(x9 x10:List Int)(x11:List aY)(x12:List aC)(x13:List am)(x14:List ai)(x15:List cH)(x16:Int):Option (Bool×World) :=
  some ((r2,(World.mk ((ig.mk x5 x6 x7 x8)) ((cX.mk x9)) x10 x11 x12 x13 x14 x15 x16)))
def oo(u:Nat)(r2:Bool)(p0:World)(x5:List ai)(x6:Int):Option (Bool×World) :=
  some ((r2,(World.mk p0.fC p0.fT p0.bK p0.bA p0.fN p0.fD x5 p0.cN x6)))
def kw(u:Nat)(x9:Bool)(p1:cu)(p0:World):Option (Bool×World) :=
  bif x9 then (some ((false,p0))) else ((dG p0.bn p1.fN).bind λy10=>(dC (decide (((([]:List Int)).length+y10.fB.length)*1<=140737488355328))).bind λ_=>(dC (decide ((p0.bn.length+([(ai.mk y10.dt y10.tl ((([]:List Int))++y10.fB))]).length)*40<=140737488355328))).bind λ_=>some ((true,(World.mk p0.fC p0.fT p0.bK p0.bA p0.fN p0.fD (p0.bn++([(ai.mk y10.dt y10.tl ((([]:List Int))++y10.fB))])) p0.cN p0.bl))))
def jc(u:Nat)(x10:Bool)(p1:cu)(p0:World):Option (Bool×World) :=
  bif x10 then (some ((false,p0))) else ((dG p0.fN p1.fN).bind λy11=>(xL u y11).bind λr12=>(dG p0.fN p1.fN).bind λy13=>(dG p0.fD p1.fN).bind λy14=>(yy u y14 p1.fS).bind λr15=>(dG p0.fD p1.fN).bind λy16=>some ((true,(World.mk p0.fC p0.fT p0.bK p0.bA (p0.fN.set (sY p1.fN) r12) (p0.fD.set (sY p1.fN) r15) p0.bn p0.cN p0.bl))))
def jd(u:Nat)(x11:Bool)(p1:cu)(p0:World):Option (Bool×World) :=
  bif x11 then (some ((false,p0))) else ((mn u p0.fT p1.fN).bind λr12=>(dG p0.fN p1.fN).bind λy13=>some ((true,(World.mk p0.fC p0.fT p0.bK p0.bA (p0.fN.set (sY p1.fN) r12) p0.fD p0.bn p0.cN p0.bl))))
def kx(u:Nat)(x12:Bool)(p1:cu)(p0:World):Option (Bool×World) :=
  bif x12 then (some ((false,p0))) else ((dC (decide (((([]:List Int)).length+p1.fP.fB.length)*1<=140737488355328))).bind λ_=>(dC (decide ((p0.bn.length+([(ai.mk p1.fP.dt p1.fP.tl ((([]:List Int))++p1.fP.fB))]).length)*40<=140737488355328))).bind λ_=>some ((true,(World.mk p0.fC p0.fT p0.bK p0.bA p0.fN p0.fD (p0.bn++([(ai.mk p1.fP.dt p1.fP.tl ((([]:List Int))++p1.fP.fB))])) p0.cN p0.bl))))
def nz(u:Nat)(p0:World)(p1:cu):Option (Bool×World) :=
  (bM u p1.fN 0 (ez .i64 ((p0.fN.length:Int)) 1)).bind λr1=>(bM u p1.fN 0 (ez .i64 ((p0.bn.length:Int)) 1)).bind λr2=>bif p1.br == 1 then (bif r1 then ((kc u p0 p1.fN).bind λr3=>oj u r1 r3.fC.aw r3.fC.aT r3.fC.aF r3.fC.aP r3.fT.ca r3.bK r3.bA r3.fN r3.fD r3.bn r3.cN r3.bl) else (oj u r1 p0.fC.aw p0.fC.aT p0.fC.aF p0.fC.aP p0.fT.ca p0.bK p0.bA p0.fN p0.fD p0.bn p0.cN p0.bl)) else (bif p1.br == 2 then (bif r2 then ((kh u p0 p1.fN).bind λr4=>om u r2 r4.fC.aw r4.fC.aT r4.fC.aF r4.fC.aP r4.fT.ca r4.bK r4.bA r4.fN r4.fD r4.bn r4.cN r4.bl) else (om u r2 p0.fC.aw p0.fC.aT p0.fC.aF p0.fC.aP p0.fT.ca p0.bK p0.bA p0.fN p0.fD p0.bn p0.cN p0.bl)) else (bif p1.br == 3 then (bif r2 then ((dC (cO 0 p1.fN p0.bn.length)).bind λ_=>(dC (decide (((([]:List ai)).length+((p0.bn.take (sY p1.fN)).drop (sY 0)).length)*40<=140737488355328))).bind λ_=>(dC (cO (bd .i64 p1.fN 1) ((p0.bn.length:Int)) p0.bn.length)).bind λ_=>(dC (decide ((((([]:List ai))++((p0.bn.take (sY p1.fN)).drop (sY 0))).length+((p0.bn.take (sY ((p0.bn.length:Int)))).drop (sY (bd .i64 p1.fN 1))).length)*40<=140737488355328))).bind λ_=>oo u r2 p0 (((([]:List ai))++((p0.bn.take (sY p1.fN)).drop (sY 0)))++((p0.bn.take (sY ((p0.bn.length:Int)))).drop (sY (bd .i64 p1.fN 1)))) (bd .i64 p0.bl 1)) else (oo u r2 p0 p0.bn p0.bl)) else (bif p1.br == 4 then (bif !r2 then (kw u true p1 p0) else (kw u (decide (((p0.bn.length:Int))>=400)) p1 p0)) else (bif p1.br == 5 then (bif !r1 then (jc u true p1 p0) else (bif p1.fN == 0 then (jc u true p1 p0) else ((dG p0.fN p1.fN).bind λy9=>jc u (!y9.fL) p1 p0))) else (bif p1.br == 6 then (bif !r1 then (jd u true p1 p0) else (bif p1.fN == 0 then (jd u true p1 p0) else ((dG p0.fN p1.fN).bind λy10=>jd u y10.fL p1 p0))) else (bif p1.br == 7 then ((ms u p0 p1.fP).bind λr11=>bif !r11 then (kx u true p1 p0) else (kx u (decide (((p0.bn.length:Int))>=400)) p1 p0)) else (some ((false,p0)))))))))
def oZ(u:Nat)(x59:List cu)(x60:List Int)(x61 x62:Int)(x63 x64:Int)(x65 x66:Int)(x67 x68:List Int)(x69:List aY)(x70:List aC)(x71:List am)(x72:List ai)(x73:List cH)(x74:Int)(r1:World×aH):Option (World×(List cu)×World×aH) :=
  some ((r1.1,x59,(World.mk ((ig.mk x63 x64 x65 x66)) ((cX.mk x67)) x68 x69 x70 x71 x72 x73 x74),(aH.mk x60 x61 x62)))
def gA(u:Nat)(G2:(List cu)->Int->(List Int)->Int->Int->Int->Int->Int->Int->(List Int)->(List Int)->(List aY)->(List aC)->(List am)->(List ai)->(List cH)->Int->(World×aH)->Option (World×(List cu)×World×aH))(x21:List cu)(x22:Int)(x55:Bool)(x23:List Int)(x24 x25:Int)(x26 x27:Int)(x28 x29:Int)(x30 x31:List Int)(x32:List aY)(x33:List aC)(x34:List am)(x35:List ai)(x36:List cH)(x37:Int)(r1:World×aH):Option (World×(List cu)×World×aH) :=
  bif x55 then ((nt u ((aH.mk x23 x24 x25)) ((World.mk ((ig.mk x26 x27 x28 x29)) ((cX.mk x30)) x31 x32 x33 x34 x35 x36 x37))).bind λr56=>(dC (decide ((x21.length+([r56.1]).length)*64<=140737488355328))).bind λ_=>(nz u ((World.mk ((ig.mk x26 x27 x28 x29)) ((cX.mk x30)) x31 x32 x33 x34 x35 x36 x37)) r56.1).bind λr58=>G2 (x21++([r56.1])) (ez .i64 x22 1) r56.2.fB r56.2.fI r56.2.fH r58.2.fC.aw r58.2.fC.aT r58.2.fC.aF r58.2.fC.aP r58.2.fT.ca r58.2.bK r58.2.bA r58.2.fN r58.2.fD r58.2.bn r58.2.cN r58.2.bl r1) else (oZ u x21 x23 x24 x25 x26 x27 x28 x29 x30 x31 x32 x33 x34 x35 x36 x37 r1)
def c9(u dO:Nat)(x21:List cu)(x22:Int)(x23:List Int)(x24 x25:Int)(x26 x27:Int)(x28 x29:Int)(x30 x31:List Int)(x32:List aY)(x33:List aC)(x34:List am)(x35:List ai)(x36:List cH)(x37:Int)(r1:World×aH):Option (World×(List cu)×World×aH):=match dO with
  | 0=>none
  | dO+1=>bif decide (x22 > 0) then (gA u (λz0 z1 z2 z3 z4 z5 z6 z7 z8 z9 z10 z11 z12 z13 z14 z15 z16 z17=>c9 u dO z0 z1 z2 z3 z4 z5 z6 z7 z8 z9 z10 z11 z12 z13 z14 z15 z16 z17) x21 x22 (decide (((x21.length:Int)) < 400)) x23 x24 x25 x26 x27 x28 x29 x30 x31 x32 x33 x34 x35 x36 x37 r1) else (gA u (λz0 z1 z2 z3 z4 z5 z6 z7 z8 z9 z10 z11 z12 z13 z14 z15 z16 z17=>c9 u dO z0 z1 z2 z3 z4 z5 z6 z7 z8 z9 z10 z11 z12 z13 z14 z15 z16 z17) x21 x22 false x23 x24 x25 x26 x27 x28 x29 x30 x31 x32 x33 x34 x35 x36 x37 r1)
def o3(u:Nat)(p0:aH)(p1:Int):Option (World×(List cu)×World×aH) :=
  (un u p0).bind λr1=>(nq u r1.1).bind λr2=>(be u r1.2 p1).bind λr3=>c9 u u (([]:List cu)) (bd .i64 5 r3.1) r3.2.fB r3.2.fI r3.2.fH r2.fC.aw r2.fC.aT r2.fC.aF r2.fC.aP r2.fT.ca r2.bK r2.bA r2.fN r2.fD r2.bn r2.cN r2.bl r1
def je(u:Nat)(p0:aH)(p1:Int):Option (World×aH) :=
  (o3 u p0 p1).bind λr1=>some ((r1.2.2.1,r1.2.2.2))
def o4(u:Nat)(p0:List Int):Option World :=
  (tp u p0).bind λr1=>(uk u p0 120).bind λr2=>(je u r1 (bd .i64 60 r2)).bind λr3=>some r3.1
def mU(u:Nat)(x7 x8:Int)(x9 x10:Int)(x11:List Int)(x12 x13:Int):Option (ig×aH) :=
  some (((ig.mk x7 x8 x9 x10),(aH.mk x11 x12 x13)))
def uy(u:Nat)(p0:aH):Option (ig×aH) :=
  (pu u p0).bind λr1=>(be u r1.2 12).bind λr2=>bif r2.1 == 0 then ((dE u r2.2 (([1,6,7]:List Int))).bind λr3=>mU u r3.1 r1.1.aT r1.1.aF r1.1.aP r3.2.fB r3.2.fI r3.2.fH) else (bif r2.1 == 1 then ((dE u r2.2 (([0,40,41]:List Int))).bind λr4=>mU u r1.1.aw r4.1 r1.1.aF r1.1.aP r4.2.fB r4.2.fI r4.2.fH) else (bif r2.1 == 2 then ((dE u r2.2 (([0,5,6]:List Int))).bind λr5=>mU u r1.1.aw r1.1.aT r5.1 r1.1.aP r5.2.fB r5.2.fI r5.2.fH) else (bif r2.1 == 3 then ((dE u r2.2 (([1,8,9]:List Int))).bind λr6=>mU u r1.1.aw r1.1.aT r1.1.aF r6.1 r6.2.fB r6.2.fI r6.2.fH) else (mU u r1.1.aw r1.1.aT r1.1.aF r1.1.aP r2.2.fB r2.2.fI r2.2.fH))))
def sK(u:Nat)(x6 x7:List Int)(x8 x9:Int):Option (cX×aH) :=
  some (((cX.mk x6),(aH.mk x7 x8 x9)))
def uA(u:Nat)(p0:aH):Option (cX×aH) :=
  (pt u p0).bind λr1=>(be u r1.2 8).bind λr2=>bif r2.1 == 0 then ((be u r2.2 ((r1.1.ca.length:Int))).bind λr3=>(dE u r3.2 (([-1,0,6,-2]:List Int))).bind λr4=>(dG r1.1.ca r3.1).bind λy5=>sK u (r1.1.ca.set (sY r3.1) r4.1) r4.2.fB r4.2.fI r4.2.fH) else (bif r2.1 == 1 then (sK u (([]:List Int)) r2.2.fB r2.2.fI r2.2.fH) else (sK u r1.1.ca r2.2.fB r2.2.fI r2.2.fH))
def qw(u:Nat)(p0:aH):Option (ct×aH) :=
  (jk u p0 4).bind λr1=>bif r1.1 then ((be u r1.2 4).bind λr2=>(be u r2.2 2).bind λr3=>(be u r3.2 6).bind λr4=>some (((ct.mk 2 0 ([]) ((cT.mk r2.1 r3.1 r4.1))),r4.2))) else ((be u r1.2 2).bind λr5=>(be u r5.2 9).bind λr6=>(gI u r6.2 5).bind λr7=>some (((ct.mk r5.1 r6.1 r7.1 ((cT.mk 0 0 0))),r7.2)))
def wn(u:Nat)(x47 x48:List Int)(x49 x50 x51:Int)(x52:List ct)(x53:List Int)(x54 x55:Int):Option (am×aH) :=
  some (((am.mk x47 x48 ((cT.mk x49 x50 x51)) x52),(aH.mk x53 x54 x55)))
def o5(u:Nat)(p6:Int->(List Int)->(List Int)->Int->Int->Int->(List ct)->(List Int)->Int->Int->Option (am×aH))(x15:Int)(x41 x42:List Int)(x43 x44 x45:Int)(x46:List ct)(r38:Bool×aH):Option (am×aH) :=
  p6 (ez .i64 x15 1) x41 x42 x43 x44 x45 x46 r38.2.fB r38.2.fI r38.2.fH
def o6(u:Nat)(p6:Int->(List Int)->(List Int)->Int->Int->Int->(List ct)->(List Int)->Int->Int->Option (am×aH))(x15:Int)(x40:Bool)(r36:am×Bool)(r38:Bool×aH)(r37:am):Option (am×aH) :=
  bif x40 then (o5 u p6 x15 r37.fA r37.fB r37.fR.aM r37.fR.bQ r37.fR.aW r37.fP r38) else (o5 u p6 x15 r36.1.fA r36.1.fB r36.1.fR.aM r36.1.fR.bQ r36.1.fR.aW r36.1.fP r38)
def gB(u fZ:Nat)(x15:Int)(x16 x17:List Int)(x18 x19 x20:Int)(x21:List ct)(x22:List Int)(x23 x24:Int):Option (am×aH):=match fZ with
  | 0=>none
  | fZ+1=>bif decide (x15 > 0) then ((qw u ((aH.mk x22 x23 x24))).bind λr35=>(nv u ((am.mk x16 x17 ((cT.mk x18 x19 x20)) x21)) r35.1).bind λr36=>(pL u r36.1).bind λr37=>(jk u r35.2 5).bind λr38=>bif r38.1 then ((ku u r37).bind λr39=>o6 u (λz0 z1 z2 z3 z4 z5 z6 z7 z8 z9=>gB u fZ z0 z1 z2 z3 z4 z5 z6 z7 z8 z9) x15 r39 r36 r38 r37) else (o6 u (λz0 z1 z2 z3 z4 z5 z6 z7 z8 z9=>gB u fZ z0 z1 z2 z3 z4 z5 z6 z7 z8 z9) x15 false r36 r38 r37)) else (wn u x16 x17 x18 x19 x20 x21 x22 x23 x24)
def uB(u:Nat)(p0:aH):Option (am×aH) :=
  (be u p0 3).bind λr1=>(gI u r1.2 9).bind λr2=>(lY u r1.1 r2.1).bind λr3=>(be u r2.2 5).bind λr4=>gB u u r4.1 r3.fA r3.fB r3.fR.aM r3.fR.bQ r3.fR.aW r3.fP r4.2.fB r4.2.fI r4.2.fH
def mt(u:Nat)(r1:am×aH)(x8 x9 x10:Int)(x11:List ct)(x12:List Int)(x13 x14:Int):Option (am×aH) :=
  some (((am.mk r1.1.fA r1.1.fB ((cT.mk x8 x9 x10)) x11),(aH.mk x12 x13 x14)))
def tG(u:Nat)(p0:aH):Option (am×aH) :=
  (uB u p0).bind λr1=>(be u r1.2 12).bind λr2=>bif r2.1 == 0 then ((dE u r2.2 (([-1,0,240,241]:List Int))).bind λr3=>mt u r1 r1.1.fR.aM r1.1.fR.bQ r3.1 r1.1.fP r3.2.fB r3.2.fI r3.2.fH) else (bif r2.1 == 1 then ((dE u r2.2 (([-1,1,2]:List Int))).bind λr4=>mt u r1 r1.1.fR.aM r4.1 r1.1.fR.aW r1.1.fP r4.2.fB r4.2.fI r4.2.fH) else (bif r2.1 == 2 then ((dE u r2.2 (([-1,1000001]:List Int))).bind λr5=>mt u r1 r5.1 r1.1.fR.bQ r1.1.fR.aW r1.1.fP r5.2.fB r5.2.fI r5.2.fH) else (bif r2.1 == 3 then ((dE u r2.2 (([3,0,2]:List Int))).bind λr6=>(dE u r6.2 (([-1,240,0]:List Int))).bind λr7=>(dC (decide ((r1.1.fP.length+([(ct.mk r6.1 r7.1 (([1]:List Int)) ((cT.mk 0 0 0)))]).length)*64<=140737488355328))).bind λ_=>mt u r1 r1.1.fR.aM r1.1.fR.bQ r1.1.fR.aW (r1.1.fP++([(ct.mk r6.1 r7.1 (([1]:List Int)) ((cT.mk 0 0 0)))])) r7.2.fB r7.2.fI r7.2.fH) else (mt u r1 r1.1.fR.aM r1.1.fR.bQ r1.1.fR.aW r1.1.fP r2.2.fB r2.2.fI r2.2.fH))))
def kA(u:Nat)(x8 x9 x10:Int)(x11:List cS)(x12:List Int)(x13 x14:Int):Option (al×aH) :=
  some (((al.mk x8 x9 x10 x11),(aH.mk x12 x13 x14)))
def tH(u:Nat)(p0:aH):Option (al×aH) :=
  (oO u p0).bind λr1=>(be u r1.2.2 10).bind λr2=>bif r2.1 == 0 then ((dE u r2.2 (([0,-1,1000000,1000001]:List Int))).bind λr3=>kA u r3.1 r1.1.aw r1.1.aW r1.1.aO r3.2.fB r3.2.fI r3.2.fH) else (bif r2.1 == 1 then ((dE u r2.2 (([0,1,7]:List Int))).bind λr4=>kA u r1.1.aM r4.1 r1.1.aW r1.1.aO r4.2.fB r4.2.fI r4.2.fH) else (bif r2.1 == 2 then (kA u r1.1.aM r1.1.aw (bd .i64 r1.1.aW 1) r1.1.aO r2.2.fB r2.2.fI r2.2.fH) else (bif r2.1 == 3 then ((dC (decide ((r1.1.aO.length+([(cS.mk 1 257)]).length)*16<=140737488355328))).bind λ_=>kA u r1.1.aM r1.1.aw r1.1.aW (r1.1.aO++([(cS.mk 1 257)])) r2.2.fB r2.2.fI r2.2.fH) else (bif r2.1 == 4 then (bif decide (((r1.1.aO.length:Int)) > 0) then ((dG r1.1.aO 0).bind λy6=>(dG r1.1.aO 0).bind λy7=>kA u r1.1.aM r1.1.aw r1.1.aW (r1.1.aO.set (sY 0) ((cS.mk (bd .i64 y6.fW 1) y7.fS))) r2.2.fB r2.2.fI r2.2.fH) else (kA u r1.1.aM r1.1.aw r1.1.aW r1.1.aO r2.2.fB r2.2.fI r2.2.fH)) else (kA u r1.1.aM r1.1.aw r1.1.aW r1.1.aO r2.2.fB r2.2.fI r2.2.fH)))))
def dm(u:Nat)(x24:List Int)(x25 x26:Int)(x27 x28:Int)(x29 x30:Int)(x31 x32:List Int)(x33:List aY)(x34:List aC)(x35:List am)(x36:List ai)(r1:World×aH)(x37:Int):Option (World×aH) :=
  some (((World.mk ((ig.mk x27 x28 x29 x30)) ((cX.mk x31)) x32 x33 x34 x35 x36 r1.1.cN x37),(aH.mk x24 x25 x26)))
def rG(u:Nat)(p0:aH)(p1:Int):Option (World×aH) :=
  (je u p0 p1).bind λr1=>(be u r1.2 ((r1.1.fN.length:Int))).bind λr2=>(be u r2.2 40).bind λr3=>bif r3.1 == 0 then ((uy u r3.2).bind λr4=>dm u r4.2.fB r4.2.fI r4.2.fH r4.1.aw r4.1.aT r4.1.aF r4.1.aP r1.1.fT.ca r1.1.bK r1.1.bA r1.1.fN r1.1.fD r1.1.bn r1 r1.1.bl) else (bif r3.1 == 1 then ((uA u r3.2).bind λr5=>dm u r5.2.fB r5.2.fI r5.2.fH r1.1.fC.aw r1.1.fC.aT r1.1.fC.aF r1.1.fC.aP r5.1.ca r1.1.bK r1.1.bA r1.1.fN r1.1.fD r1.1.bn r1 r1.1.bl) else (bif r3.1 == 2 then ((lT u r3.2).bind λr6=>dm u r6.2.fB r6.2.fI r6.2.fH r1.1.fC.aw r1.1.fC.aT r1.1.fC.aF r1.1.fC.aP r1.1.fT.ca r6.1 r1.1.bA r1.1.fN r1.1.fD r1.1.bn r1 r1.1.bl) else (bif r3.1 == 3 then ((be u r3.2 7).bind λr7=>(dG r1.1.fN r2.1).bind λy8=>dm u r7.2.fB r7.2.fI r7.2.fH r1.1.fC.aw r1.1.fC.aT r1.1.fC.aF r1.1.fC.aP r1.1.fT.ca r1.1.bK r1.1.bA (r1.1.fN.set (sY r2.1) ((aC.mk y8.fL y8.bR y8.bG y8.ay y8.bB r7.1 y8.bi y8.bw))) r1.1.fD r1.1.bn r1 r1.1.bl) else (bif r3.1 == 4 then ((be u r3.2 7).bind λr9=>(dG r1.1.fN r2.1).bind λy10=>dm u r9.2.fB r9.2.fI r9.2.fH r1.1.fC.aw r1.1.fC.aT r1.1.fC.aF r1.1.fC.aP r1.1.fT.ca r1.1.bK r1.1.bA (r1.1.fN.set (sY r2.1) ((aC.mk y10.fL (ez .i64 r9.1 1) y10.bG y10.ay y10.bB y10.bc y10.bi y10.bw))) r1.1.fD r1.1.bn r1 r1.1.bl) else (bif r3.1 == 5 then ((tG u r3.2).bind λr11=>(dG r1.1.fD r2.1).bind λy12=>dm u r11.2.fB r11.2.fI r11.2.fH r1.1.fC.aw r1.1.fC.aT r1.1.fC.aF r1.1.fC.aP r1.1.fT.ca r1.1.bK r1.1.bA r1.1.fN (r1.1.fD.set (sY r2.1) r11.1) r1.1.bn r1 r1.1.bl) else (bif r3.1 == 6 then ((tH u r3.2).bind λr13=>(dG r1.1.fN r2.1).bind λy14=>dm u r13.2.fB r13.2.fI r13.2.fH r1.1.fC.aw r1.1.fC.aT r1.1.fC.aF r1.1.fC.aP r1.1.fT.ca r1.1.bK r1.1.bA (r1.1.fN.set (sY r2.1) ((aC.mk y14.fL y14.bR y14.bG r13.1 y14.bB y14.bc y14.bi y14.bw))) r1.1.fD r1.1.bn r1 r1.1.bl) else (bif r3.1 == 7 then ((be u r3.2 9).bind λr15=>(be u r15.2 9).bind λr16=>(dC (decide ((r1.1.bn.length+([(ai.mk (ez .i64 r15.1 1) (ez .i64 r16.1 1) ([]))]).length)*40<=140737488355328))).bind λ_=>dm u r16.2.fB r16.2.fI r16.2.fH r1.1.fC.aw r1.1.fC.aT r1.1.fC.aF r1.1.fC.aP r1.1.fT.ca r1.1.bK r1.1.bA r1.1.fN r1.1.fD (r1.1.bn++([(ai.mk (ez .i64 r15.1 1) (ez .i64 r16.1 1) ([]))])) r1 r1.1.bl) else (bif r3.1 == 8 then (dm u r3.2.fB r3.2.fI r3.2.fH r1.1.fC.aw r1.1.fC.aT r1.1.fC.aF r1.1.fC.aP r1.1.fT.ca r1.1.bK r1.1.bA r1.1.fN r1.1.fD r1.1.bn r1 (-1)) else (bif r3.1 == 9 then ((dC (cO 1 ((r1.1.fD.length:Int)) r1.1.fD.length)).bind λ_=>dm u r3.2.fB r3.2.fI r3.2.fH r1.1.fC.aw r1.1.fC.aT r1.1.fC.aF r1.1.fC.aP r1.1.fT.ca r1.1.bK r1.1.bA r1.1.fN ((r1.1.fD.take (sY ((r1.1.fD.length:Int)))).drop (sY 1)) r1.1.bn r1 r1.1.bl) else (bif r3.1 == 10 then ((dG r1.1.fN r2.1).bind λy19=>(dG r1.1.fN r2.1).bind λy20=>dm u r3.2.fB r3.2.fI r3.2.fH r1.1.fC.aw r1.1.fC.aT r1.1.fC.aF r1.1.fC.aP r1.1.fT.ca r1.1.bK r1.1.bA (r1.1.fN.set (sY r2.1) ((aC.mk (!y19.fL) y20.bR y20.bG y20.ay y20.bB y20.bc y20.bi y20.bw))) r1.1.fD r1.1.bn r1 r1.1.bl) else (bif r3.1 == 11 then ((dG r1.1.bA r2.1).bind λy21=>(dC (decide ((y21.fB.length+(([1]:List Int)).length)*1<=140737488355328))).bind λ_=>(dG r1.1.bA r2.1).bind λy23=>dm u r3.2.fB r3.2.fI r3.2.fH r1.1.fC.aw r1.1.fC.aT r1.1.fC.aF r1.1.fC.aP r1.1.fT.ca r1.1.bK (r1.1.bA.set (sY r2.1) ((aY.mk (y21.fB++(([1]:List Int)))))) r1.1.fN r1.1.fD r1.1.bn r1 r1.1.bl) else (dm u r3.2.fB r3.2.fI r3.2.fH r1.1.fC.aw r1.1.fC.aT r1.1.fC.aF r1.1.fC.aP r1.1.fT.ca r1.1.bK r1.1.bA r1.1.fN r1.1.fD r1.1.bn r1 r1.1.bl))))))))))))
def pQ(u:Nat)(p0:List Int)(p1:Int):Option (aH×World) :=
  (tp u p0).bind λr1=>(rG u r1 p1).bind λr2=>some ((r2.2,r2.1))
def nS(u:Nat)(p0:List Int):Option World :=
  (pQ u p0 100).bind λr1=>some r1.2
def mV(u:Nat)(p0:List Int):Option (World×Int) :=
  (pQ u p0 120).bind λr1=>(be u r1.1 9).bind λr2=>some ((r1.2,ez .i64 r2.1 1))
def js(u:Nat)(p0 p1 p2:Int):Option Bool :=
  bif decide (p0>=p1) then (some (decide (p0<=p2))) else (some false)
def zn(u:Nat)(p0:Int):Option Bool :=
  (js u p0 0 1000000).bind λr1=>some r1
def rH(u:Nat)(p0:Int):Option Bool :=
  bif p0 == 0 then (some true) else (some (p0 == 1))
def oq(u:Nat)(p0:cT):Option Bool :=
  (zn u p0.aM).bind λr1=>bif r1 then ((rH u p0.bQ).bind λr2=>bif r2 then ((js u p0.aW 0 240).bind λr3=>some r3) else (some false)) else (some false)
def gr(u:Nat)(p0:am)(p1:Int):Option ((List Int)) :=
  bif p1 == 0 then (some p0.fA) else (some p0.fB)
def wo(u:Nat)(p0:ct):Option Bool :=
  bif p0.gq == 2 then (bif p0.vI == 0 then (bif ((p0.fB.length:Int)) == 0 then ((oq u p0.fR).bind λr1=>some r1) else (some false)) else (some false)) else ((rH u p0.gq).bind λr2=>bif r2 then (bif [p0.fR.aM,p0.fR.bQ,p0.fR.aW] == [0,0,0] then ((js u p0.vI 0 (ez .i64 240 ((p0.fB.length:Int)))).bind λr3=>some r3) else (some false)) else (some false))
def qx(u:Nat)(p0:ct):Option Bool :=
  (wo u p0).bind λr1=>some (!r1)
def dh(u:Nat)  : Option Int :=
  some (-1)
def bP(u bO:Nat)(p0:List ct)(x2:Int):Option Int:=match bO with
  | 0=>none
  | bO+1=>bif decide (x2 < ((p0.length:Int))) then ((dG p0 x2).bind λy4=>(qx u y4).bind λr5=>bif r5 then (some x2) else ((λz0 z1=>bP u bO z0 z1) p0 (bd .i64 x2 1))) else (dh u)
def cJ(u:Nat)(p0:List ct):Option Int :=
  bP u u p0 0
def jt(u:Nat)(p0:List ct)(s:Unit):Option Int:=(dh u)
def eA(u:Nat)(p0:List ct)(y4:ct)(i_:Nat)(s:Unit)(k_:Unit->Option Int):Option Int:=(qx u y4).bind λr5=>bif r5 then (some (i_:Int)) else ((λz0 z1=>k_ ()) p0 (bd .i64 (i_:Int) 1))
theorem ju(u:Nat)(p0:List ct)(s:Unit)(k:Nat)(hn:p0.length<=9223372036854775807)(hk:p0.length < k):bP u k p0 0=Pu.cA (jt u p0) (eA u p0) p0 0 s:=Pu.eG (λ(k:Nat) (s:Unit) (i:Int)=>bP u k p0 i) hn (λ_ _ _=>rfl) s hk
def b6(u:Nat)(p0:List ct):Option Bool :=
  (cJ u p0).bind λr1=>some (decide (r1>=0))
def mW(u:Nat)(p0:am)(x3:Bool):Option Bool :=
  bif x3 then (some false) else (bif decide (((p0.fP.length:Int))<=200) then ((b6 u p0.fP).bind λr4=>some (!r4)) else (some false))
def rI(u:Nat)(p0:am):Option Bool :=
  bif decide (((p0.fA.length:Int)) > 240) then (mW u p0 true) else (bif decide (((p0.fB.length:Int)) > 240) then (mW u p0 true) else ((oq u p0.fR).bind λr1=>bif !r1 then (mW u p0 true) else ((gr u p0 p0.fR.bQ).bind λr2=>mW u p0 (decide (p0.fR.aW > ((r2.length:Int)))))))
def ni(u:Nat)(p0:List Int):Option ((List Int)) :=
  (dC (decide (0<=((p0.length:Int))) && (0 == 0 || 0 == ((p0.length:Int))))).bind λ_=>(dC (decide (sY ((p0.length:Int))*1<=140737488355328))).bind λ_=>(dC (decide (((zQk (sY 0) (0:Int)).length+p0.length)*1<=140737488355328))).bind λ_=>some ((zQk (sY 0) (0:Int))++p0)
def sL(u:Nat)(p0:am):Option (Int×(List Int)) :=
  (rI u p0).bind λr1=>bif !r1 then (some ((0,[]))) else ((gr u p0 p0.fR.bQ).bind λr2=>(dC (cO 0 p0.fR.aW r2.length)).bind λ_=>(ni u ((r2.take (sY p0.fR.aW)).drop (sY 0))).bind λr4=>some ((p0.fR.aM,r4)))
def AL(u:Nat)(p0 p1:List Int):Option Bool :=
  some ((strOfNums p0).toList == (strOfNums p1).toList)
def sM(u:Nat)(p0 p1:List Int):Option Bool :=
  (AL u p0 p1).bind λr1=>some r1
def o7(u:Nat)(p0:am)(p1:Int)(p2:List Int):Option Bool :=
  (sL u p0).bind λr1=>bif r1.1 == p1 then ((sM u r1.2 p2).bind λr2=>some r2) else (some false)
def q8(u:Nat)(p1:Int)(x3:Bool)(p0:World):Option Int :=
  bif x3 then (some (-1)) else ((dG p0.fD p1).bind λy4=>(dG p0.bA p1).bind λy5=>(o7 u y4 0 y5.fB).bind λr6=>bif r6 then (some 0) else ((dG p0.fD p1).bind λy7=>(o7 u y7 1 p0.bK).bind λr8=>bif r8 then (some 1) else (some (-1))))
def im(u:Nat)(p0:World)(p1:Int):Option Int :=
  (js u p1 0 (ez .i64 ((p0.fD.length:Int)) 1)).bind λr1=>bif !r1 then (q8 u p1 true p0) else ((js u p1 0 (ez .i64 ((p0.bA.length:Int)) 1)).bind λr2=>q8 u p1 (!r2) p0)
def mX(u:Nat)(x9:List Int):Option ((List Int)) :=
  some x9
def jv(u:Nat)(GW:(List Int)->World->Int->Option ((List Int)))(x8:List Int)(p0:World)(x4:Int):Option ((List Int)) :=
  GW x8 p0 (bd .i64 x4 1)
def fo(u dL:Nat)(x3:List Int)(p0:World)(x4:Int):Option ((List Int)):=match dL with
  | 0=>none
  | dL+1=>bif decide (x4 < ((p0.fN.length:Int))) then (bif decide (x4 > 0) then ((im u p0 x4).bind λr7=>(dC (decide ((x3.length+(([r7]:List Int)).length)*8<=140737488355328))).bind λ_=>jv u (λz0 z1 z2=>fo u dL z0 z1 z2) (x3++(([r7]:List Int))) p0 x4) else (jv u (λz0 z1 z2=>fo u dL z0 z1 z2) x3 p0 x4)) else (mX u x3)
def nj(u:Nat)(p0:World):Option ((List Int)) :=
  fo u u (([]:List Int)) p0 0
def iT(u:Nat)(p0:World)(s:(List Int)):Option ((List Int)):=(mX u s)
def gV(u:Nat)(p0:World)(i_:Nat)(s:(List Int))(k_:((List Int))->Option ((List Int))):Option ((List Int)):=bif decide ((i_:Int) > 0) then ((im u p0 (i_:Int)).bind λr7=>(dC (decide ((s.length+(([r7]:List Int)).length)*8<=140737488355328))).bind λ_=>jv u (λz0 z1 z2=>k_ z0) (s++(([r7]:List Int))) p0 (i_:Int)) else (jv u (λz0 z1 z2=>k_ z0) s p0 (i_:Int))
theorem FD(u:Nat)(p0:World)(s:(List Int))(k:Nat)(hn:(((p0.fN.length:Int)):Int)<=9223372036854775807)(hk:sY (((p0.fN.length:Int))) < k):fo u k s p0 0=Pu.lB (iT u p0) (gV u p0) (sY (((p0.fN.length:Int)))) 0 s:=Pu.pi (λ(k:Nat) (s:(List Int)) (i:Int)=>fo u k s p0 i) hn (λ_ _ _=>rfl) s hk
def ot(u:Nat)(p0:am)(p1:List Int)(p2:Int)(p3:List Int):Option Bool :=
  (o7 u p0 0 p1).bind λr1=>bif r1 then (some true) else ((o7 u p0 p2 p3).bind λr2=>some r2)
def sN(u:Nat)(p0:ct):Option ct :=
  (ni u p0.fB).bind λr1=>some ((ct.mk p0.gq p0.vI r1 p0.fR))
def tI(u:Nat)(r1 r2:(List Int))(p0:am)(x11:List ct):Option am :=
  some ((am.mk r1 r2 p0.fR x11))
def kJ(u i2:Nat)(p0:am)(x5:Int)(r1 r2:(List Int))(x6:List ct):Option am:=match i2 with
  | 0=>none
  | i2+1=>bif decide (x5 < ((p0.fP.length:Int))) then ((dG p0.fP x5).bind λy9=>(sN u y9).bind λr10=>(dC (decide ((x6.length+([r10]).length)*64<=140737488355328))).bind λ_=>(λz0 z1 z2 z3 z4=>kJ u i2 z0 z1 z2 z3 z4) p0 (bd .i64 x5 1) r1 r2 (x6++([r10]))) else (tI u r1 r2 p0 x6)
def qy(u:Nat)(p0:am):Option am :=
  (ni u p0.fA).bind λr1=>(ni u p0.fB).bind λr2=>kJ u u p0 0 r1 r2 ([])
def CB(u:Nat)(p0:am)(r1 r2:(List Int))(s:(List ct)):Option am:=(tI u r1 r2 p0 s)
def wq(u:Nat)(p0:am)(r1 r2:(List Int))(y9:ct)(i_:Nat)(s:(List ct))(k_:((List ct))->Option am):Option am:=(sN u y9).bind λr10=>(dC (decide ((s.length+([r10]).length)*64<=140737488355328))).bind λ_=>(λz0 z1 z2 z3 z4=>k_ z4) p0 (bd .i64 (i_:Int) 1) r1 r2 (s++([r10]))
theorem CC(u:Nat)(p0:am)(r1 r2:(List Int))(s:(List ct))(k:Nat)(hn:p0.fP.length<=9223372036854775807)(hk:p0.fP.length < k):kJ u k p0 0 r1 r2 s=Pu.cA (CB u p0 r1 r2) (wq u p0 r1 r2) p0.fP 0 s:=Pu.eG (λ(k:Nat) (s:(List ct)) (i:Int)=>kJ u k p0 i r1 r2 s) hn (λ_ _ _=>rfl) s hk
def ws(u:Nat)(p0:Int):Option Bool :=
  (js u p0 0 1099511627775).bind λr1=>some r1
def sO(u:Nat)(p0:Int):Option Bool :=
  (js u p0 0 39).bind λr1=>some r1
def wt(u:Nat)(p0 p1:Int):Option Bool :=
  (ws u p0).bind λr1=>bif r1 then ((sO u p1).bind λr2=>bif r2 then ((dC (decide (0<=p1))).bind λ_=>some ((fK .i64 (nD .i64 p0 p1) 1) == 1)) else (some false)) else (some false)
def uC(u:Nat)(p0 q0:Int):Option Bool :=
  (wt u q0 p0).bind λr1=>some r1
def q9(u:Nat)(p0:am)(p1:Int):Option (Nat×am) :=
  bif p1 == 0 then (some ((0,p0))) else (some ((1,p0)))
def lx(u:Nat)(p1:ct)(r1:Nat×am)(x5:List Int):Option am :=
  (dC (Ef p1.vI x5.length)).bind λ_=>some ((am.mk r1.2.fA (Ae x5 p1.fB (sY p1.vI)) r1.2.fR r1.2.fP))
def gu(u fh:Nat)(p1:ct)(r1:Nat×am)(x3:List Int):Option am:=match fh with
  | 0=>none
  | fh+1=>bif decide (((x3.length:Int)) < (bd .i64 p1.vI ((p1.fB.length:Int)))) then ((dC (decide ((x3.length+(([0]:List Int)).length)*1<=140737488355328))).bind λ_=>(λz0 z1 z2=>gu u fh z0 z1 z2) p1 r1 (x3++(([0]:List Int)))) else (lx u p1 r1 x3)
def ly(u:Nat)(p1:ct)(x9:List Int)(r1:Nat×am):Option am :=
  (dC (Ef p1.vI x9.length)).bind λ_=>some ((am.mk (Ae x9 p1.fB (sY p1.vI)) r1.2.fB r1.2.fR r1.2.fP))
def gw(u fi:Nat)(p1:ct)(x7:List Int)(r1:Nat×am):Option am:=match fi with
  | 0=>none
  | fi+1=>bif decide (((x7.length:Int)) < (bd .i64 p1.vI ((p1.fB.length:Int)))) then ((dC (decide ((x7.length+(([0]:List Int)).length)*1<=140737488355328))).bind λ_=>(λz0 z1 z2=>gw u fi z0 z1 z2) p1 (x7++(([0]:List Int))) r1) else (ly u p1 x7 r1)
def iU(u:Nat)(p0:am)(p1:ct):Option am :=
  bif p1.gq == 2 then (some ((am.mk p0.fA p0.fB p1.fR p0.fP))) else ((q9 u p0 p1.gq).bind λr1=>bif zWv r1.1 0 then (gw u u p1 r1.2.fA r1) else (bif zWv r1.1 1 then (gu u u p1 r1 r1.2.fB) else none))
def gU(u:Nat)(x33 x34:List Int)(x35 x36 x37:Int)(x38:List ct):Option am :=
  some ((am.mk x33 x34 ((cT.mk x35 x36 x37)) ([])))
def cU(u:Nat)(qd:Int->am->Int->(List Int)->(List Int)->Int->Int->Int->(List ct)->Option am)(p1_0:Int)(p0:am)(x10:Int)(x27 x28:List Int)(x29 x30 x31:Int)(x32:List ct):Option am :=
  qd p1_0 p0 (bd .i64 x10 1) x27 x28 x29 x30 x31 x32
def bZ(u b8:Nat)(p1_0:Int)(p0:am)(x10:Int)(x11 x12:List Int)(x13 x14 x15:Int)(x16:List ct):Option am:=match b8 with
  | 0=>none
  | b8+1=>bif decide (x10 < ((p0.fP.length:Int))) then ((dG p0.fP x10).bind λy24=>(uC u x10 p1_0).bind λr25=>bif r25 then ((iU u ((am.mk x11 x12 ((cT.mk x13 x14 x15)) x16)) y24).bind λr26=>cU u (λz0 z1 z2 z3 z4 z5 z6 z7 z8=>bZ u b8 z0 z1 z2 z3 z4 z5 z6 z7 z8) p1_0 p0 x10 r26.fA r26.fB r26.fR.aM r26.fR.bQ r26.fR.aW r26.fP) else (cU u (λz0 z1 z2 z3 z4 z5 z6 z7 z8=>bZ u b8 z0 z1 z2 z3 z4 z5 z6 z7 z8) p1_0 p0 x10 x11 x12 x13 x14 x15 x16)) else (gU u x11 x12 x13 x14 x15 x16)
def fk(u:Nat)(p0:am)(p1_0:Int):Option am :=
  (qy u p0).bind λr1=>(rI u p0).bind λr2=>bif !r2 then (some r1) else (bZ u u p1_0 p0 0 r1.fA r1.fB r1.fR.aM r1.fR.bQ r1.fR.aW r1.fP)
def jW(u:Nat)(p1_0:Int)(p0:am)(s:(List Int)×(List Int)×Int×Int×Int×(List ct)):Option am:=(gU u s.1 s.2.1 s.2.2.1 s.2.2.2.1 s.2.2.2.2.1 s.2.2.2.2.2)
def f5(u:Nat)(p1_0:Int)(p0:am)(y24:ct)(i_:Nat)(s:(List Int)×(List Int)×Int×Int×Int×(List ct))(k_:((List Int)×(List Int)×Int×Int×Int×(List ct))->Option am):Option am:=(uC u (i_:Int) p1_0).bind λr25=>bif r25 then ((iU u ((am.mk s.1 s.2.1 ((cT.mk s.2.2.1 s.2.2.2.1 s.2.2.2.2.1)) s.2.2.2.2.2)) y24).bind λr26=>cU u (λz0 z1 z2 z3 z4 z5 z6 z7 z8=>k_ (z3,z4,z5,z6,z7,z8)) p1_0 p0 (i_:Int) r26.fA r26.fB r26.fR.aM r26.fR.bQ r26.fR.aW r26.fP) else (cU u (λz0 z1 z2 z3 z4 z5 z6 z7 z8=>k_ (z3,z4,z5,z6,z7,z8)) p1_0 p0 (i_:Int) s.1 s.2.1 s.2.2.1 s.2.2.2.1 s.2.2.2.2.1 s.2.2.2.2.2)
theorem p8(u:Nat)(p1_0:Int)(p0:am)(s:(List Int)×(List Int)×Int×Int×Int×(List ct))(k:Nat)(hn:p0.fP.length<=9223372036854775807)(hk:p0.fP.length < k):bZ u k p1_0 p0 0 s.1 s.2.1 s.2.2.1 s.2.2.2.1 s.2.2.2.2.1 s.2.2.2.2.2=Pu.cA (jW u p1_0 p0) (f5 u p1_0 p0) p0.fP 0 s:=Pu.eG (λ(k:Nat) (s:(List Int)×(List Int)×Int×Int×Int×(List ct)) (i:Int)=>bZ u k p1_0 p0 i s.1 s.2.1 s.2.2.1 s.2.2.2.1 s.2.2.2.2.1 s.2.2.2.2.2) hn (λ_ _ _=>rfl) s hk
def vL(u:Nat)(p0:am)(p1:Int):Option am :=
  (fk u p0 p1).bind λr1=>some r1
def tJ(u:Nat)(x9:List am):Option ((List am)) :=
  some x9
def kK(u i1:Nat)(x4:List am)(p0:am)(x5:Int):Option ((List am)):=match i1 with
  | 0=>none
  | i1+1=>bif decide (x5 < (jF .i64 1 (if ((p0.fP.length:Int)) < 6 then ((p0.fP.length:Int)) else 6))) then ((vL u p0 x5).bind λr8=>(dC (decide ((x4.length+([r8]).length)*96<=140737488355328))).bind λ_=>(λz0 z1 z2=>kK u i1 z0 z1 z2) (x4++([r8])) p0 (bd .i64 x5 1)) else (tJ u x4)
def qz(u:Nat)(p0:am):Option ((List am)) :=
  (dC (decide (0<=(if ((p0.fP.length:Int)) < 6 then ((p0.fP.length:Int)) else 6)))).bind λ_=>kK u u (([]:List am)) p0 0
def CD(u:Nat)(p0:am)(s:(List am)):Option ((List am)):=(tJ u s)
def wu(u:Nat)(p0:am)(i_:Nat)(s:(List am))(k_:((List am))->Option ((List am))):Option ((List am)):=(vL u p0 (i_:Int)).bind λr8=>(dC (decide ((s.length+([r8]).length)*96<=140737488355328))).bind λ_=>(λz0 z1 z2=>k_ z0) (s++([r8])) p0 (bd .i64 (i_:Int) 1)
theorem CE(u:Nat)(p0:am)(s:(List am))(k:Nat)(hn:((jF .i64 1 (if ((p0.fP.length:Int)) < 6 then ((p0.fP.length:Int)) else 6)):Int)<=9223372036854775807)(hk:sY ((jF .i64 1 (if ((p0.fP.length:Int)) < 6 then ((p0.fP.length:Int)) else 6))) < k):kK u k s p0 0=Pu.lB (CD u p0) (wu u p0) (sY ((jF .i64 1 (if ((p0.fP.length:Int)) < 6 then ((p0.fP.length:Int)) else 6)))) 0 s:=Pu.pi (λ(k:Nat) (s:(List am)) (i:Int)=>kK u k s p0 i) hn (λ_ _ _=>rfl) s hk
def nT(u:Nat)(p0:am)(q0:List Int)(q1:Int)(q2:List Int):Option Bool :=
  (ot u p0 q0 q1 q2).bind λr1=>some (!r1)
def cV(u:Nat)  : Option Int :=
  some (-1)
def bH(u bE:Nat)(p0:List am)(p1_0:List Int)(p1_1:Int)(p1_2:List Int)(x2:Int):Option Int:=match bE with
  | 0=>none
  | bE+1=>bif decide (x2 < ((p0.length:Int))) then ((dG p0 x2).bind λy4=>(nT u y4 p1_0 p1_1 p1_2).bind λr5=>bif r5 then (some x2) else ((λz0 z1 z2 z3 z4=>bH u bE z0 z1 z2 z3 z4) p0 p1_0 p1_1 p1_2 (bd .i64 x2 1))) else (cV u)
def cy(u:Nat)(p0:List am)(p1_0:List Int)(p1_1:Int)(p1_2:List Int):Option Int :=
  bH u u p0 p1_0 p1_1 p1_2 0
def iH(u:Nat)(p0:List am)(p1_0:List Int)(p1_1:Int)(p1_2:List Int)(s:Unit):Option Int:=(cV u)
def dY(u:Nat)(p0:List am)(p1_0:List Int)(p1_1:Int)(p1_2:List Int)(y4:am)(i_:Nat)(s:Unit)(k_:Unit->Option Int):Option Int:=(nT u y4 p1_0 p1_1 p1_2).bind λr5=>bif r5 then (some (i_:Int)) else ((λz0 z1 z2 z3 z4=>k_ ()) p0 p1_0 p1_1 p1_2 (bd .i64 (i_:Int) 1))
theorem iI(u:Nat)(p0:List am)(p1_0:List Int)(p1_1:Int)(p1_2:List Int)(s:Unit)(k:Nat)(hn:p0.length<=9223372036854775807)(hk:p0.length < k):bH u k p0 p1_0 p1_1 p1_2 0=Pu.cA (iH u p0 p1_0 p1_1 p1_2) (dY u p0 p1_0 p1_1 p1_2) p0 0 s:=Pu.eG (λ(k:Nat) (s:Unit) (i:Int)=>bH u k p0 p1_0 p1_1 p1_2 i) hn (λ_ _ _=>rfl) s hk
def cj(u:Nat)(p0:List am)(p1_0:List Int)(p1_1:Int)(p1_2:List Int):Option Bool :=
  (cy u p0 p1_0 p1_1 p1_2).bind λr1=>some (decide (r1>=0))
def ou(u:Nat)(p0:am)(p1:List Int)(p2:Int)(p3:List Int):Option Bool :=
  (ot u p0 p1 p2 p3).bind λr1=>bif r1 then ((qz u p0).bind λr2=>(cj u r2 p1 p2 p3).bind λr3=>some (!r3)) else (some false)
def wv(u:Nat)  : Option Bool :=
  some true
def io(u kR:Nat)(x2:Int)(p0:World):Option Bool:=match kR with
  | 0=>none
  | kR+1=>bif decide (x2 < (if ((p0.bA.length:Int)) < ((p0.fD.length:Int)) then ((p0.bA.length:Int)) else ((p0.fD.length:Int)))) then ((dG p0.fD x2).bind λy4=>(dG p0.bA x2).bind λy5=>(ou u y4 y5.fB 1 p0.bK).bind λr6=>bif !r6 then (some false) else ((λz0 z1=>io u kR z0 z1) (bd .i64 x2 1) p0)) else (wv u)
def uD(u:Nat)(p0:World):Option Bool :=
  io u u 1 p0
def FE(u:Nat)(p0:World)(s:Unit):Option Bool:=(wv u)
def FF(u:Nat)(p0:World)(i_:Nat)(s:Unit)(k_:Unit->Option Bool):Option Bool:=(dG p0.fD (i_:Int)).bind λy4=>(dG p0.bA (i_:Int)).bind λy5=>(ou u y4 y5.fB 1 p0.bK).bind λr6=>bif !r6 then (some false) else ((λz0 z1=>k_ ()) (bd .i64 (i_:Int) 1) p0)
theorem Rr(u:Nat)(p0:World)(s:Unit)(k:Nat)(hn:((if ((p0.bA.length:Int)) < ((p0.fD.length:Int)) then ((p0.bA.length:Int)) else ((p0.fD.length:Int))):Int)<=9223372036854775807)(hk:sY ((if ((p0.bA.length:Int)) < ((p0.fD.length:Int)) then ((p0.bA.length:Int)) else ((p0.fD.length:Int)))) < k):io u k 0 p0=Pu.lB (FE u p0) (FF u p0) (sY ((if ((p0.bA.length:Int)) < ((p0.fD.length:Int)) then ((p0.bA.length:Int)) else ((p0.fD.length:Int))))) 0 s:=Pu.pi (λ(k:Nat) (s:Unit) (i:Int)=>io u k i p0) hn (λ_ _ _=>rfl) s hk
def yz(u:Nat)(x10:List am):Option ((List am)) :=
  some x10
def kL(u i4:Nat)(x4:List am)(r1 x5:Int)(p0:am):Option ((List am)):=match i4 with
  | 0=>none
  | i4+1=>(dC (decide (0<=r1))).bind λ_=>bif decide (x5 < (jF .i64 1 r1)) then ((tF u p0 x5).bind λr9=>(dC (decide ((x4.length+([r9]).length)*96<=140737488355328))).bind λ_=>(λz0 z1 z2 z3=>kL u i4 z0 z1 z2 z3) (x4++([r9])) r1 (bd .i64 x5 1) p0) else (yz u x4)
def qA(u:Nat)(p0:am):Option ((List am)) :=
  (rk u ((p0.fP.length:Int)) 6).bind λr1=>kL u u (([]:List am)) r1 0 p0
def o8(u:Nat)(p0:am)(p1:Int)(p2:List Int):Option Bool :=
  (pM u p0).bind λr1=>bif r1.1 == p1 then ((mJ u r1.2 p2).bind λr2=>some r2) else (some false)
def mu(u:Nat)(p0:am)(p1:List Int)(p2:Int)(p3:List Int):Option Bool :=
  (o8 u p0 0 p1).bind λr1=>bif r1 then (some true) else ((o8 u p0 p2 p3).bind λr2=>some r2)
def pR(u:Nat)(p1:List Int)(p2:Int)(p3:List Int)(p0:am):Option Bool :=
  (mu u p0 p1 p2 p3).bind λr7=>some r7
def kM(u i5:Nat)(p1:List Int)(p2:Int)(p3:List Int)(r1:(List am))(x3:Int)(p0:am):Option Bool:=match i5 with
  | 0=>none
  | i5+1=>bif decide (x3 < ((r1.length:Int))) then ((dG r1 x3).bind λy5=>(mu u y5 p1 p2 p3).bind λr6=>bif !r6 then (some false) else ((λz0 z1 z2 z3 z4 z5=>kM u i5 z0 z1 z2 z3 z4 z5) p1 p2 p3 r1 (bd .i64 x3 1) p0)) else (pR u p1 p2 p3 p0)
def qB(u:Nat)(p0:am)(p1:List Int)(p2:Int)(p3:List Int):Option Bool :=
  (qA u p0).bind λr1=>kM u u p1 p2 p3 r1 0 p0
def rt(u:Nat)(p1:List Int)(p2:Int)(p3:List Int)(r1:(List am))(p0:am)(s:Unit):Option Bool:=(pR u p1 p2 p3 p0)
def ru(u:Nat)(p1:List Int)(p2:Int)(p3:List Int)(r1:(List am))(p0 y5:am)(i_:Nat)(s:Unit)(k_:Unit->Option Bool):Option Bool:=(mu u y5 p1 p2 p3).bind λr6=>bif !r6 then (some false) else ((λz0 z1 z2 z3 z4 z5=>k_ ()) p1 p2 p3 r1 (bd .i64 (i_:Int) 1) p0)
theorem CF(u:Nat)(p1:List Int)(p2:Int)(p3:List Int)(r1:(List am))(p0:am)(s:Unit)(k:Nat)(hn:r1.length<=9223372036854775807)(hk:r1.length < k):kM u k p1 p2 p3 r1 0 p0=Pu.cA (rt u p1 p2 p3 r1 p0) (ru u p1 p2 p3 r1 p0) r1 0 s:=Pu.eG (λ(k:Nat) (s:Unit) (i:Int)=>kM u k p1 p2 p3 r1 i p0) hn (λ_ _ _=>rfl) s hk
def ww(u:Nat)  : Option Bool :=
  some true
def o9(u:Nat)(G1:Int->World->Option Bool)(x2:Int)(x4:Bool)(p0:World):Option Bool :=
  bif x4 then ((dG p0.fD x2).bind λy5=>(dG p0.bA x2).bind λy6=>(qB u y5 y6.fB 1 p0.bK).bind λr7=>bif !r7 then (some false) else (G1 (bd .i64 x2 1) p0)) else (ww u)
def ip(u hZ:Nat)(x2:Int)(p0:World):Option Bool:=match hZ with
  | 0=>none
  | hZ+1=>bif decide (x2 < ((p0.fD.length:Int))) then (o9 u (λz0 z1=>ip u hZ z0 z1) x2 (decide (x2 < ((p0.bA.length:Int)))) p0) else (o9 u (λz0 z1=>ip u hZ z0 z1) x2 false p0)
def w8(u:Nat)(p0:World):Option Bool :=
  ip u u 1 p0
def ra(u:Nat)(p1:Int)(x2:Bool)(p0:World):Option Int :=
  bif x2 then (some (-1)) else ((dG p0.fD p1).bind λy3=>(dG p0.bA p1).bind λy4=>(o8 u y3 0 y4.fB).bind λr5=>bif r5 then (some 0) else ((dG p0.fD p1).bind λy6=>(o8 u y6 1 p0.bK).bind λr7=>bif r7 then (some 1) else (some (-1))))
def nA(u:Nat)(p0:World)(p1:Int):Option Int :=
  (bM u p1 0 (ez .i64 ((p0.fD.length:Int)) 1)).bind λr1=>bif !r1 then (ra u p1 true p0) else (ra u p1 (decide (p1>=((p0.bA.length:Int)))) p0)
def wx(u:Nat)(x8:List Int):Option ((List Int)) :=
  some x8
def lh(u kV:Nat)(x3:List Int)(x4:Int)(p0:World):Option ((List Int)):=match kV with
  | 0=>none
  | kV+1=>bif decide (x4 < ((p0.fN.length:Int))) then ((nA u p0 x4).bind λr7=>(dC (decide ((x3.length+(([r7]:List Int)).length)*8<=140737488355328))).bind λ_=>(λz0 z1 z2=>lh u kV z0 z1 z2) (x3++(([r7]:List Int))) (bd .i64 x4 1) p0) else (wx u x3)
def uE(u:Nat)(p0:World):Option ((List Int)) :=
  lh u u (([]:List Int)) 1 p0
def yA(u:Nat)(p0:World)(s:(List Int)):Option ((List Int)):=(wx u s)
def tK(u:Nat)(p0:World)(i_:Nat)(s:(List Int))(k_:((List Int))->Option ((List Int))):Option ((List Int)):=(nA u p0 (i_:Int)).bind λr7=>(dC (decide ((s.length+(([r7]:List Int)).length)*8<=140737488355328))).bind λ_=>(λz0 z1 z2=>k_ z0) (s++(([r7]:List Int))) (bd .i64 (i_:Int) 1) p0
theorem Rs(u:Nat)(p0:World)(s:(List Int))(k:Nat)(hn:(((p0.fN.length:Int)):Int)<=9223372036854775807)(hk:sY (((p0.fN.length:Int))) < k):lh u k s 0 p0=Pu.lB (yA u p0) (tK u p0) (sY (((p0.fN.length:Int)))) 0 s:=Pu.pi (λ(k:Nat) (s:(List Int)) (i:Int)=>lh u k s i p0) hn (λ_ _ _=>rfl) s hk
def tL(u:Nat)  : Option Bool :=
  some true
def kN(u i3:Nat)(p0 p1:List Int)(x2:Int):Option Bool:=match i3 with
  | 0=>none
  | i3+1=>bif decide (x2 < ((p0.length:Int))) then ((dG p0 x2).bind λy4=>(dG p1 x2).bind λy5=>bif y4 != y5 then (some false) else ((λz0 z1 z2=>kN u i3 z0 z1 z2) p0 p1 (bd .i64 x2 1))) else (tL u)
def qC(u:Nat)(p0 p1:List Int):Option Bool :=
  bif ((p0.length:Int)) != ((p1.length:Int)) then (some false) else (kN u u p0 p1 0)
def CG(u:Nat)(p0 p1:List Int)(s:Unit):Option Bool:=(tL u)
def wy(u:Nat)(p0 p1:List Int)(y4:Int)(i_:Nat)(s:Unit)(k_:Unit->Option Bool):Option Bool:=(dG p1 (i_:Int)).bind λy5=>bif y4 != y5 then (some false) else ((λz0 z1 z2=>k_ ()) p0 p1 (bd .i64 (i_:Int) 1))
theorem CH(u:Nat)(p0 p1:List Int)(s:Unit)(k:Nat)(hn:p0.length<=9223372036854775807)(hk:p0.length < k):kN u k p0 p1 0=Pu.cA (CG u p0 p1) (wy u p0 p1) p0 0 s:=Pu.eG (λ(k:Nat) (s:Unit) (i:Int)=>kN u k p0 p1 i) hn (λ_ _ _=>rfl) s hk
def uU(u:Nat)  : Option Bool :=
  some true
def iD(u:Nat)(Ff:((List Int))->Int->World->Option Bool)(r5:(List Int))(x16:Int)(x24:Bool)(r2:World):Option Bool :=
  bif x24 then (some false) else (Ff r5 (bd .i64 x16 1) r2)
def gL(u eW:Nat)(r5:(List Int))(x16:Int)(r2:World):Option Bool:=match eW with
  | 0=>none
  | eW+1=>bif decide (x16 < ((r5.length:Int))) then ((dG r5 x16).bind λy18=>bif y18 != 0 then ((dG r5 x16).bind λy19=>bif y19 != 1 then (iD u (λz0 z1 z2=>gL u eW z0 z1 z2) r5 x16 true r2) else ((dG r5 x16).bind λy20=>(im u r2 (bd .i64 x16 1)).bind λr21=>iD u (λz0 z1 z2=>gL u eW z0 z1 z2) r5 x16 (y20 != r21) r2)) else ((dG r5 x16).bind λy22=>(im u r2 (bd .i64 x16 1)).bind λr23=>iD u (λz0 z1 z2=>gL u eW z0 z1 z2) r5 x16 (y22 != r23) r2)) else (uU u)
def jS(u:Nat)(r5:(List Int))(x14:Bool)(r2:World):Option Bool :=
  bif x14 then (some false) else (gL u u r5 0 r2)
def pS(u:Nat)(p0:List Int):Option Bool :=
  (Ds u p0).bind λr1=>bif r1 then (some true) else ((o4 u p0).bind λr2=>(nS u p0).bind λr3=>(mV u p0).bind λr4=>(nj u r2).bind λr5=>(uD u r3).bind λr6=>(w8 u r3).bind λr7=>bif !(r6 == r7) then (jS u r5 true r2) else ((im u r4.1 r4.2).bind λr8=>(nA u r4.1 r4.2).bind λr9=>bif r8 != r9 then (jS u r5 true r2) else ((nj u r4.1).bind λr10=>(uE u r4.1).bind λr11=>(qC u r10 r11).bind λr12=>bif !r12 then (jS u r5 true r2) else ((uD u r2).bind λr13=>bif !r13 then (jS u r5 true r2) else (jS u r5 (((r5.length:Int)) != (ez .i64 ((r2.fN.length:Int)) 1)) r2)))))
def DL(u:Nat)(r5:(List Int))(r2:World)(s:Unit):Option Bool:=(uU u)
def w9(u:Nat)(r5:(List Int))(r2:World)(y18:Int)(i_:Nat)(s:Unit)(k_:Unit->Option Bool):Option Bool:=bif y18 != 0 then ((dG r5 (i_:Int)).bind λy19=>bif y19 != 1 then (iD u (λz0 z1 z2=>k_ ()) r5 (i_:Int) true r2) else ((dG r5 (i_:Int)).bind λy20=>(im u r2 (bd .i64 (i_:Int) 1)).bind λr21=>iD u (λz0 z1 z2=>k_ ()) r5 (i_:Int) (y20 != r21) r2)) else ((dG r5 (i_:Int)).bind λy22=>(im u r2 (bd .i64 (i_:Int) 1)).bind λr23=>iD u (λz0 z1 z2=>k_ ()) r5 (i_:Int) (y22 != r23) r2)
theorem DM(u:Nat)(r5:(List Int))(r2:World)(s:Unit)(k:Nat)(hn:r5.length<=9223372036854775807)(hk:r5.length < k):gL u k r5 0 r2=Pu.cA (DL u r5 r2) (w9 u r5 r2) r5 0 s:=Pu.eG (λ(k:Nat) (s:Unit) (i:Int)=>gL u k r5 i r2) hn (λ_ _ _=>rfl) s hk
end Go.Tm
