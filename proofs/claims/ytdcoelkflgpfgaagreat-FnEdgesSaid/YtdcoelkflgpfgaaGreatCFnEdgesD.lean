/- Go functions as pure functions (printed). -/
import Derived.Test.YtdcoelkflgpfgaaGreatCFnEdgesF3
set_option maxRecDepth 100000
set_option maxHeartbeats 20000000
set_option linter.unusedVariables false
set_option linter.unusedSimpArgs false
open Int renaming toNat->sX
open List renaming replicate->zQg
namespace Go.Tm
structure aG where
  fB:List Int
  fI:Int
  fH:Int
  deriving DecidableEq
def bx(x:aG):List T:=[.sl 1 (x.fB.map (ah .u8)),.int .i64 x.fI,.int .i64 x.fH]
def aG.wf(x:aG):Prop:=(JM (iU .u8)) x.fB/\(iU .i64) x.fI/\(iU .i64) x.fH/\True
structure cF where
  cf:List Int
  deriving DecidableEq
def qa(x:cF):List T:=[.sl 1 (x.cf.map (ah .i64))]
def cF.wf(x:cF):Prop:=(JM (iU .i64)) x.cf/\True
structure bg where
  fB:List Int
  deriving DecidableEq
def bA(x:bg):List T:=[.sl 1 (x.fB.map (ah .u8))]
def bg.wf(x:bg):Prop:=(JM (iU .u8)) x.fB/\True
structure ia where
  aw:Int
  bd:Int
  aT:Int
  a9:Int
  deriving DecidableEq
def nq(x:ia):List T:=[.int .i64 x.aw,.int .i64 x.bd,.int .i64 x.aT,.int .i64 x.a9]
def ia.wf(x:ia):Prop:=(iU .i64) x.aw/\(iU .i64) x.bd/\(iU .i64) x.aT/\(iU .i64) x.a9/\True
structure cn where
  fW:Int
  fS:Int
  deriving DecidableEq
def aR(x:cn):List T:=[.int .i64 x.fW,.int .i64 x.fS]
def cn.wf(x:cn):Prop:=(iU .i64) x.fW/\(iU .i64) x.fS/\True
structure ag where
  aS:Int
  aw:Int
  aY:Int
  aC:List cn
  deriving DecidableEq
def av(x:ag):List T:=[.int .i64 x.aS,.int .i64 x.aw,.int .i64 x.aY,.sl 2 (x.aC.map aR)]
def ag.wf(x:ag):Prop:=(iU .i64) x.aS/\(iU .i64) x.aw/\(iU .i64) x.aY/\(JM cn.wf) x.aC/\True
structure bD where
  bj:Int
  b4:List Int
  deriving DecidableEq
def gT(x:bD):List T:=[.int .i64 x.bj,.sl 1 (x.b4.map (ah .u8))]
def bD.wf(x:bD):Prop:=(iU .i64) x.bj/\(JM (iU .u8)) x.b4/\True
structure bO where
  ov:Int
  ck:Int
  cq:Int
  wW:Int
  ou:Int
  deriving DecidableEq
def aW(x:bO):List T:=[.int .i64 x.ov,.int .i64 x.ck,.int .i64 x.cq,.int .i64 x.wW,.int .i64 x.ou]
def bO.wf(x:bO):Prop:=(iU .i64) x.ov/\(iU .i64) x.ck/\(iU .i64) x.cq/\(iU .i64) x.wW/\(iU .i64) x.ou/\True
structure aK where
  gS:Bool
  bM:Int
  bF:Int
  aD:ag
  bw:bD
  bi:Int
  bf:List bO
  br:Int
  deriving DecidableEq
def aB(x:aK):List T:=[.bool x.gS,.int .i64 x.bM,.int .i64 x.bF,.int .i64 x.aD.aS,.int .i64 x.aD.aw,.int .i64 x.aD.aY,.sl 2 (x.aD.aC.map aR),.int .i64 x.bw.bj,.sl 1 (x.bw.b4.map (ah .u8)),.int .i64 x.bi,.sl 5 (x.bf.map aW),.int .i64 x.br]
def aK.wf(x:aK):Prop:=(λ_=>True) x.gS/\(iU .i64) x.bM/\(iU .i64) x.bF/\ag.wf x.aD/\bD.wf x.bw/\(iU .i64) x.bi/\(JM bO.wf) x.bf/\(iU .i64) x.br/\True
structure c7 where
  aS:Int
  ch:Int
  aY:Int
  deriving DecidableEq
def zi(x:c7):List T:=[.int .i64 x.aS,.int .i64 x.ch,.int .i64 x.aY]
def c7.wf(x:c7):Prop:=(iU .i64) x.aS/\(iU .i64) x.ch/\(iU .i64) x.aY/\True
structure dA where
  nM:Int
  CW:Int
  fB:List Int
  fR:c7
  deriving DecidableEq
def bk(x:dA):List T:=[.int .i64 x.nM,.int .i64 x.CW,.sl 1 (x.fB.map (ah .u8)),.int .i64 x.fR.aS,.int .i64 x.fR.ch,.int .i64 x.fR.aY]
def dA.wf(x:dA):Prop:=(iU .i64) x.nM/\(iU .i64) x.CW/\(JM (iU .u8)) x.fB/\c7.wf x.fR/\True
structure aA where
  fA:List Int
  fB:List Int
  fR:c7
  fP:List dA
  deriving DecidableEq
def ar(x:aA):List T:=[.sl 1 (x.fA.map (ah .u8)),.sl 1 (x.fB.map (ah .u8)),.int .i64 x.fR.aS,.int .i64 x.fR.ch,.int .i64 x.fR.aY,.sl 6 (x.fP.map bk)]
def aA.wf(x:aA):Prop:=(JM (iU .u8)) x.fA/\(JM (iU .u8)) x.fB/\c7.wf x.fR/\(JM dA.wf) x.fP/\True
structure ak where
  cm:Int
  mK:Int
  fB:List Int
  deriving DecidableEq
def au(x:ak):List T:=[.int .i64 x.cm,.int .i64 x.mK,.sl 1 (x.fB.map (ah .u8))]
def ak.wf(x:ak):Prop:=(iU .i64) x.cm/\(iU .i64) x.mK/\(JM (iU .u8)) x.fB/\True
structure cg where
  cm:Int
  mK:Int
  fI:Int
  deriving DecidableEq
def bm(x:cg):List T:=[.int .i64 x.cm,.int .i64 x.mK,.int .i64 x.fI]
def cg.wf(x:cg):Prop:=(iU .i64) x.cm/\(iU .i64) x.mK/\(iU .i64) x.fI/\True
structure World where
  fC:ia
  fT:cF
  b5:List Int
  bS:List bg
  fN:List aK
  fD:List aA
  bE:List ak
  bq:List cg
  bB:Int
  deriving DecidableEq
def ba(x:World):List T:=[.int .i64 x.fC.aw,.int .i64 x.fC.bd,.int .i64 x.fC.aT,.int .i64 x.fC.a9,.sl 1 (x.fT.cf.map (ah .i64)),.sl 1 (x.b5.map (ah .u8)),.sl 1 (x.bS.map bA),.sl 12 (x.fN.map aB),.sl 6 (x.fD.map ar),.sl 3 (x.bE.map au),.sl 3 (x.bq.map bm),.int .i64 x.bB]
def gf(t:T)(x:World):List T:=[.int .i64 x.fC.aw,.int .i64 x.fC.bd,.int .i64 x.fC.aT,.int .i64 x.fC.a9,.sl 1 (x.fT.cf.map (ah .i64)),.sl 1 (x.b5.map (ah .u8)),t,.sl 12 (x.fN.map aB),.sl 6 (x.fD.map ar),.sl 3 (x.bE.map au),.sl 3 (x.bq.map bm),.int .i64 x.bB]
def World.wf(x:World):Prop:=ia.wf x.fC/\cF.wf x.fT/\(JM (iU .u8)) x.b5/\(JM bg.wf) x.bS/\(JM aK.wf) x.fN/\(JM aA.wf) x.fD/\(JM ak.wf) x.bE/\(JM cg.wf) x.bq/\(iU .i64) x.bB/\True
structure cG where
  bK:Int
  fN:Int
  fS:Int
  fP:ak
  deriving DecidableEq
def gk(x:cG):List T:=[.int .i64 x.bK,.int .i64 x.fN,.int .i64 x.fS,.int .i64 x.fP.cm,.int .i64 x.fP.mK,.sl 1 (x.fP.fB.map (ah .u8))]
def cG.wf(x:cG):Prop:=(iU .i64) x.bK/\(iU .i64) x.fN/\(iU .i64) x.fS/\ak.wf x.fP/\True
structure fz where
  bK:Int
  aS:Int
  aD:ag
  ck:Int
  cq:Int
  fI:Int
  fB:List Int
  deriving DecidableEq
def d7(x:fz):List T:=[.int .i64 x.bK,.int .i64 x.aS,.int .i64 x.aD.aS,.int .i64 x.aD.aw,.int .i64 x.aD.aY,.sl 2 (x.aD.aC.map aR),.int .i64 x.ck,.int .i64 x.cq,.int .i64 x.fI,.sl 1 (x.fB.map (ah .u8))]
def fz.wf(x:fz):Prop:=(iU .i64) x.bK/\(iU .i64) x.aS/\ag.wf x.aD/\(iU .i64) x.ck/\(iU .i64) x.cq/\(iU .i64) x.fI/\(JM (iU .u8)) x.fB/\True
structure FB where
  fN:aK
  fD:aA
  mL:List ak
  deriving DecidableEq
def S1(x:FB):List T:=[.bool x.fN.gS,.int .i64 x.fN.bM,.int .i64 x.fN.bF,.int .i64 x.fN.aD.aS,.int .i64 x.fN.aD.aw,.int .i64 x.fN.aD.aY,.sl 2 (x.fN.aD.aC.map aR),.int .i64 x.fN.bw.bj,.sl 1 (x.fN.bw.b4.map (ah .u8)),.int .i64 x.fN.bi,.sl 5 (x.fN.bf.map aW),.int .i64 x.fN.br,.sl 1 (x.fD.fA.map (ah .u8)),.sl 1 (x.fD.fB.map (ah .u8)),.int .i64 x.fD.fR.aS,.int .i64 x.fD.fR.ch,.int .i64 x.fD.fR.aY,.sl 6 (x.fD.fP.map bk),.sl 3 (x.mL.map au)]
def FB.wf(x:FB):Prop:=aK.wf x.fN/\aA.wf x.fD/\(JM ak.wf) x.mL/\True
structure Act where
  fN:aK
  mL:List ak
  deriving DecidableEq
def wZ(x:Act):List T:=[.bool x.fN.gS,.int .i64 x.fN.bM,.int .i64 x.fN.bF,.int .i64 x.fN.aD.aS,.int .i64 x.fN.aD.aw,.int .i64 x.fN.aD.aY,.sl 2 (x.fN.aD.aC.map aR),.int .i64 x.fN.bw.bj,.sl 1 (x.fN.bw.b4.map (ah .u8)),.int .i64 x.fN.bi,.sl 5 (x.fN.bf.map aW),.int .i64 x.fN.br,.sl 3 (x.mL.map au)]
def Act.wf(x:Act):Prop:=aK.wf x.fN/\(JM ak.wf) x.mL/\True
def DP(u:Nat)(p0:List Int):Option Bool :=
  some (decide (((p0.length:Int)) > 1048576))
def t7(u:Nat)(p0:List Int)(x9:Int):Option aG :=
  some ((aG.mk p0 0 x9))
def qb(u:Nat)(IX:(List Int)->Int->Int->Option aG)(p0:List Int)(x3 x4:Int)(x7:Bool):Option aG :=
  bif x7 then ((c6 p0 x4).bind λy8=>IX p0 (gE .i64 (aQ .i64 (aQ .i64 (jC .i64 x3 137) (IntKind.wrap .i64 y8)) 11) 1073741823) (aQ .i64 x4 1)) else (t7 u p0 x3)
def iD(u hZ:Nat)(p0:List Int)(x3 x4:Int):Option aG:=match hZ with
  | 0=>none
  | hZ+1=>bif decide (x4 < ((p0.length:Int))) then (qb u (λz0 z1 z2=>iD u hZ z0 z1 z2) p0 x3 x4 (decide (x4 < 4000))) else (qb u (λz0 z1 z2=>iD u hZ z0 z1 z2) p0 x3 x4 false)
def wa(u:Nat)(p0:List Int):Option aG :=
  iD u u p0 (aQ .i64 162416 ((p0.length:Int))) 0
def oz(u:Nat)(x2:Int)(p0:aG)(x3:Int):Option (Int×aG) :=
  some ((x2,(aG.mk p0.fB x3 (aQ .i64 (jC .i64 p0.fH 6364136223846793005) 1442695040888963407))))
def jG(u:Nat)(p0:aG):Option (Int×aG) :=
  bif decide (p0.fI < ((p0.fB.length:Int))) then ((c6 p0.fB p0.fI).bind λy1=>oz u (gE .i64 (aQ .i64 (gE .i64 (Nf .i64 (rJ .i64 (aQ .i64 (jC .i64 p0.fH 6364136223846793005) 1442695040888963407) 33) (rJ .i64 (aQ .i64 (jC .i64 p0.fH 6364136223846793005) 1442695040888963407) 47)) 255) (IntKind.wrap .i64 y1)) 255) p0 (aQ .i64 p0.fI 1)) else (oz u (gE .i64 (Nf .i64 (rJ .i64 (aQ .i64 (jC .i64 p0.fH 6364136223846793005) 1442695040888963407) 33) (rJ .i64 (aQ .i64 (jC .i64 p0.fH 6364136223846793005) 1442695040888963407) 47)) 255) p0 p0.fI)
def aX(u:Nat)(p0:aG)(p1:Int):Option (Int×aG) :=
  bif decide (p1<=0) then (some ((0,p0))) else (bif decide (p1<=256) then ((jG u p0).bind λr1=>(c9 (!(p1 == 0))).bind λ_=>some ((mA .i64 r1.1 p1,r1.2))) else ((jG u p0).bind λr3=>(jG u r3.2).bind λr4=>(jG u r4.2).bind λr5=>(c9 (!(p1 == 0))).bind λ_=>some ((mA .i64 (aQ .i64 (aQ .i64 (jC .i64 r3.1 65536) (jC .i64 r4.1 256)) r5.1) p1,r5.2))))
def gZ(u:Nat)(p0:aG)(p1:Int):Option (Bool×aG) :=
  (aX u p0 p1).bind λr1=>some ((r1.1 == 0,r1.2))
def qH(u:Nat)(x23 x24:List Int)(x25 x26:Int):Option (cF×aG) :=
  some (((cF.mk x23),(aG.mk x24 x25 x26)))
def nr(u:Nat)(FA:Int->(List Int)->(List Int)->Int->Int->Option (cF×aG))(x6 x19:Int)(x7 x20:List Int)(x21 x22:Int):Option (cF×aG) :=
  (c9 (decide ((x7.length+(([x19]:List Int)).length)*8<=140737488355328))).bind λ_=>FA (aQ .i64 x6 1) (x7++(([x19]:List Int))) x20 x21 x22
def eL(u fu:Nat)(x6:Int)(x7 x8:List Int)(x9 x10:Int):Option (cF×aG):=match fu with
  | 0=>none
  | fu+1=>(aX u ((aG.mk x8 x9 x10)) 7).bind λr16=>bif decide (x6 < (aQ .i64 1 r16.1)) then ((gZ u r16.2 2).bind λr17=>bif r17.1 then ((aX u r17.2 x6).bind λr18=>nr u (λz0 z1 z2 z3 z4=>eL u fu z0 z1 z2 z3 z4) x6 r18.1 x7 r18.2.fB r18.2.fI r18.2.fH) else (nr u (λz0 z1 z2 z3 z4=>eL u fu z0 z1 z2 z3 z4) x6 (dM .i64 x6 1) x7 r17.2.fB r17.2.fI r17.2.fH)) else (qH u x7 r16.2.fB r16.2.fI r16.2.fH)
def pf(u:Nat)(p0:aG):Option (cF×aG) :=
  eL u u 1 (([-1]:List Int)) p0.fB p0.fI p0.fH
def c8(u:Nat)(p0:aG)(p1:List Int):Option (Int×aG) :=
  (aX u p0 ((p1.length:Int))).bind λr1=>(c6 p1 r1.1).bind λy2=>some ((y2,r1.2))
def qI(u:Nat)(x18 x19:List Int)(x20 x21:Int):Option ((List Int)×aG) :=
  some ((x18,(aG.mk x19 x20 x21)))
def eM(u js:Nat)(x7:List Int)(x8:Int)(x9:List Int)(x10 x11:Int):Option ((List Int)×aG):=match js with
  | 0=>none
  | js+1=>bif decide (x8 > 0) then ((c8 u ((aG.mk x9 x10 x11)) (([97,98,99,0,255]:List Int))).bind λr17=>(c9 (decide ((x7.length+(([IntKind.wrap .u8 r17.1]:List Int)).length)*1<=140737488355328))).bind λ_=>(λz0 z1 z2 z3 z4=>eM u js z0 z1 z2 z3 z4) (x7++(([IntKind.wrap .u8 r17.1]:List Int))) (dM .i64 x8 1) r17.2.fB r17.2.fI r17.2.fH) else (qI u x7 x9 x10 x11)
def fQ(u:Nat)(p0:aG)(p1:Int):Option ((List Int)×aG) :=
  (aX u p0 (aQ .i64 p1 1)).bind λr1=>eM u u (([]:List Int)) r1.1 r1.2.fB r1.2.fI r1.2.fH
def k9(u:Nat)(p0:aG):Option ((List Int)×aG) :=
  (fQ u p0 16).bind λr1=>some ((r1.1,r1.2))
def b6(u:Nat)(x15 x16:List Int)(x17 x18:Int):Option ((List Int)×aG) :=
  some ((x15,(aG.mk x16 x17 x18)))
def mM(u:Nat)(p0:aG)(p1:List Int):Option ((List Int)×aG) :=
  (c9 (decide (((([]:List Int)).length+p1.length)*1<=140737488355328))).bind λ_=>(aX u p0 6).bind λr2=>bif r2.1 == 0 then (bif decide (((((([]:List Int))++p1).length:Int)) > 0) then ((aX u r2.2 ((((([]:List Int))++p1).length:Int))).bind λr3=>(aX u r3.2 256).bind λr4=>(c6 ((([]:List Int))++p1) r3.1).bind λy5=>b6 u (((([]:List Int))++p1).set (sX r3.1) (IntKind.wrap .u8 r4.1)) r4.2.fB r4.2.fI r4.2.fH) else (b6 u ((([]:List Int))++p1) r2.2.fB r2.2.fI r2.2.fH)) else (bif r2.1 == 1 then ((aX u r2.2 (aQ .i64 ((((([]:List Int))++p1).length:Int)) 1)).bind λr6=>(c9 (cy 0 r6.1 ((([]:List Int))++p1).length)).bind λ_=>b6 u ((((([]:List Int))++p1).take (sX r6.1)).drop (sX 0)) r6.2.fB r6.2.fI r6.2.fH) else (bif r2.1 == 2 then ((c8 u r2.2 (([0,1,128,255]:List Int))).bind λr8=>(c9 (decide ((((([]:List Int))++p1).length+(([IntKind.wrap .u8 r8.1]:List Int)).length)*1<=140737488355328))).bind λ_=>b6 u (((([]:List Int))++p1)++(([IntKind.wrap .u8 r8.1]:List Int))) r8.2.fB r8.2.fI r8.2.fH) else (bif r2.1 == 3 then (bif decide (((((([]:List Int))++p1).length:Int)) > 0) then ((aX u r2.2 ((((([]:List Int))++p1).length:Int))).bind λr10=>(c6 ((([]:List Int))++p1) r10.1).bind λy11=>(aX u r10.2 8).bind λr12=>(c9 (decide (0<=r12.1))).bind λ_=>(c6 ((([]:List Int))++p1) r10.1).bind λy14=>b6 u (((([]:List Int))++p1).set (sX r10.1) (Nf .u8 y11 (iT .u8 1 r12.1))) r12.2.fB r12.2.fI r12.2.fH) else (b6 u ((([]:List Int))++p1) r2.2.fB r2.2.fI r2.2.fH)) else (b6 u ((([]:List Int))++p1) r2.2.fB r2.2.fI r2.2.fH))))
def rj(u:Nat)(p0:aG)(p1:List Int):Option ((List Int)×aG) :=
  (aX u p0 5).bind λr1=>bif r1.1 == 0 then ((fQ u r1.2 16).bind λr2=>some ((r2.1,r2.2))) else (bif r1.1 == 1 then ((c9 (decide (((([]:List Int)).length+p1.length)*1<=140737488355328))).bind λ_=>some (((([]:List Int))++p1,r1.2))) else (bif r1.1 == 2 then ((aX u r1.2 (aQ .i64 ((p1.length:Int)) 1)).bind λr4=>(c9 (cy r4.1 ((p1.length:Int)) p1.length)).bind λ_=>(c9 (decide (((([120]:List Int)).length+((p1.take (sX ((p1.length:Int)))).drop (sX r4.1)).length)*1<=140737488355328))).bind λ_=>(c9 (cy 0 r4.1 p1.length)).bind λ_=>(c9 (decide ((((([120]:List Int))++((p1.take (sX ((p1.length:Int)))).drop (sX r4.1))).length+((p1.take (sX r4.1)).drop (sX 0)).length)*1<=140737488355328))).bind λ_=>some ((((([120]:List Int))++((p1.take (sX ((p1.length:Int)))).drop (sX r4.1)))++((p1.take (sX r4.1)).drop (sX 0)),r4.2))) else (bif r1.1 == 3 then (some ((([]:List Int),r1.2))) else ((fQ u r1.2 3).bind λr9=>(mM u r9.2 p1).bind λr10=>(c9 (decide ((r9.1.length+r10.1.length)*1<=140737488355328))).bind λ_=>some ((r9.1++r10.1,r10.2))))))
def pg(u:Nat)(p0:aG):Option (ia×aG) :=
  (aX u p0 5).bind λr1=>(c8 u r1.2 (([1,2,3,8,40]:List Int))).bind λr2=>(aX u r2.2 3).bind λr3=>(aX u r3.2 3).bind λr4=>some (((ia.mk (aQ .i64 2 r1.1) r2.1 (aQ .i64 1 r3.1) (aQ .i64 2 r4.1)),r4.2))
def bG(u:Nat)(p0 p1 p2:Int):Option Bool :=
  bif decide (p0>=p1) then (some (decide (p0<=p2))) else (some false)
def ul(u:Nat)(p0:ia):Option Bool :=
  (bG u p0.aw 2 6).bind λr1=>bif r1 then ((bG u p0.bd 1 40).bind λr2=>bif r2 then ((bG u p0.aT 1 5).bind λr3=>bif r3 then ((bG u p0.a9 2 8).bind λr4=>some r4) else (some false)) else (some false)) else (some false)
def wb(u:Nat)  : Option Bool :=
  some true
def iJ(u kn:Nat)(x5:Int)(p0:cF):Option Bool:=match kn with
  | 0=>none
  | kn+1=>bif decide (x5 < ((p0.cf.length:Int))) then ((c6 p0.cf x5).bind λy7=>(bG u y7 0 (dM .i64 x5 1)).bind λr8=>bif !r8 then (some false) else ((λz0 z1=>iJ u kn z0 z1) (aQ .i64 x5 1) p0)) else (wb u)
def rL(u:Nat)(x3:Bool)(p0:cF):Option Bool :=
  bif x3 then (some false) else (iJ u u 1 p0)
def oA(u:Nat)(p0:cF):Option Bool :=
  (bG u ((p0.cf.length:Int)) 1 7).bind λr1=>bif !r1 then (rL u true p0) else ((c6 p0.cf 0).bind λy2=>rL u (y2 != (-1)) p0)
def yh(u:Nat)(p0:cF)(s:Unit):Option Bool:=(wb u)
def tB(u:Nat)(p0:cF)(y7:Int)(i_:Nat)(s:Unit)(k_:Unit->Option Bool):Option Bool:=(bG u y7 0 (dM .i64 (i_:Int) 1)).bind λr8=>bif !r8 then (some false) else ((λz0 z1=>k_ ()) (aQ .i64 (i_:Int) 1) p0)
theorem RU(u:Nat)(p0:cF)(s:Unit)(k:Nat)(hn:p0.cf.length<=9223372036854775807)(hk:p0.cf.length < k):iJ u k 0 p0=Pu.bP (yh u p0) (tB u p0) p0.cf 0 s:=Pu.dh (λ(k:Nat) (s:Unit) (i:Int)=>iJ u k i p0) hn (λ_ _ _=>rfl) s hk
def la(u:Nat)(p0 p1:Int):Option Bool :=
  (bG u p0 2 6).bind λr1=>bif r1 then ((bG u p1 0 (jC .i64 p0 40)).bind λr2=>some r2) else (some false)
def uR(u:Nat)(p0:List bg)(p1:Int):Option Bool :=
  some (((p0.length:Int)) == p1)
def kR(u jr:Nat)(p0:List bg)(p1 x2:Int):Option Bool:=match jr with
  | 0=>none
  | jr+1=>bif decide (x2 < ((p0.length:Int))) then ((c6 p0 x2).bind λy4=>bif decide (((y4.fB.length:Int)) > 240) then (some false) else ((λz0 z1 z2=>kR u jr z0 z1 z2) p0 p1 (aQ .i64 x2 1))) else (uR u p0 p1)
def rM(u:Nat)(p0:List bg)(p1:Int):Option Bool :=
  kR u u p0 p1 0
def DQ(u:Nat)(p0:List bg)(p1:Int)(s:Unit):Option Bool:=(uR u p0 p1)
def w4(u:Nat)(p0:List bg)(p1:Int)(y4:bg)(i_:Nat)(s:Unit)(k_:Unit->Option Bool):Option Bool:=bif decide (((y4.fB.length:Int)) > 240) then (some false) else ((λz0 z1 z2=>k_ ()) p0 p1 (aQ .i64 (i_:Int) 1))
theorem DR(u:Nat)(p0:List bg)(p1:Int)(s:Unit)(k:Nat)(hn:p0.length<=9223372036854775807)(hk:p0.length < k):kR u k p0 p1 0=Pu.bP (DQ u p0 p1) (w4 u p0 p1) p0 0 s:=Pu.dh (λ(k:Nat) (s:Unit) (i:Int)=>kR u k p0 p1 i) hn (λ_ _ _=>rfl) s hk
def n8(u:Nat)(x8:List bg):Option ((List bg)) :=
  some x8
def ff(u gY:Nat)(p0 x3:List bg)(x4:Int):Option ((List bg)):=match gY with
  | 0=>none
  | gY+1=>bif decide (x4 < ((p0.length:Int))) then ((c6 p0 x4).bind λy7=>(c9 (decide (((([]:List Int)).length+y7.fB.length)*1<=140737488355328))).bind λ_=>(c9 (decide ((x3.length+([(bg.mk ((([]:List Int))++y7.fB))]).length)*24<=140737488355328))).bind λ_=>(λz0 z1 z2=>ff u gY z0 z1 z2) p0 (x3++([(bg.mk ((([]:List Int))++y7.fB))])) (aQ .i64 x4 1)) else (n8 u x3)
def iK(u:Nat)(p0:List bg):Option ((List bg)) :=
  ff u u p0 (([]:List bg)) 0
def Cb(u:Nat)(p0:List bg)(s:(List bg)):Option ((List bg)):=(n8 u s)
def vo(u:Nat)(p0:List bg)(y7:bg)(i_:Nat)(s:(List bg))(k_:((List bg))->Option ((List bg))):Option ((List bg)):=(c9 (decide (((([]:List Int)).length+y7.fB.length)*1<=140737488355328))).bind λ_=>(c9 (decide ((s.length+([(bg.mk ((([]:List Int))++y7.fB))]).length)*24<=140737488355328))).bind λ_=>(λz0 z1 z2=>k_ z1) p0 (s++([(bg.mk ((([]:List Int))++y7.fB))])) (aQ .i64 (i_:Int) 1)
theorem Cc(u:Nat)(p0:List bg)(s:(List bg))(k:Nat)(hn:p0.length<=9223372036854775807)(hk:p0.length < k):ff u k p0 s 0=Pu.bP (Cb u p0) (vo u p0) p0 0 s:=Pu.dh (λ(k:Nat) (s:(List bg)) (i:Int)=>ff u k p0 s i) hn (λ_ _ _=>rfl) s hk
def rN(u:Nat)(p0:Int):Option aK :=
  some ((aK.mk true p0 0 ((ag.mk 0 0 0 ([]))) ((bD.mk 0 ([]))) 0 ([]) 0))
def pi(u:Nat)(p1:Int)(x3:Bool)(p0:cF):Option aK :=
  bif x3 then (some ((aK.mk false 0 0 ((ag.mk 0 0 0 ([]))) ((bD.mk 0 ([]))) 0 ([]) 0))) else ((c6 p0.cf p1).bind λy4=>(rN u y4).bind λr5=>some r5)
def lL(u:Nat)(p0:cF)(p1:Int):Option aK :=
  (oA u p0).bind λr1=>bif !r1 then (pi u p1 true p0) else ((bG u p1 1 (dM .i64 ((p0.cf.length:Int)) 1)).bind λr2=>pi u p1 (!r2) p0)
def qJ(u:Nat)(p0 p1:Int)(x3:Bool):Option Int :=
  bif x3 then (some 0) else ((c9 (!(p1 == 0))).bind λ_=>some (Qn .i64 (dM .i64 (aQ .i64 p0 p1) 1) p1))
def rO(u:Nat)(p0 p1:Int):Option Int :=
  (bG u p0 0 1000000000000).bind λr1=>bif !r1 then (qJ u p0 p1 true) else ((bG u p1 1 1000000000000).bind λr2=>qJ u p0 p1 (!r2))
def lc(u:Nat)(p0 p1:Int):Option Int :=
  (la u p0 p1).bind λr1=>bif !r1 then (some 0) else ((rO u p1 p0).bind λr2=>some r2)
def rk(u:Nat)(p0 p1:Int):Option Int :=
  bif decide (p1 < p0) then (some p1) else (some p0)
def dB(u:Nat)(p0 p1 p2:Int):Option (Int×Int) :=
  (lc u p0 p1).bind λr1=>(bG u p2 0 (dM .i64 r1 1)).bind λr2=>bif !r2 then (some ((0,0))) else ((rk u p0 (dM .i64 p1 (jC .i64 p2 p0))).bind λr3=>some ((jC .i64 p2 p0,r3)))
def jD(u:Nat)(p0:List Int)(p1 p2:Int):Option ((List Int)×Bool) :=
  (dB u p1 ((p0.length:Int)) p2).bind λr1=>bif r1.2 == 0 then (some ((([]:List Int),false))) else ((c9 (cy r1.1 (aQ .i64 r1.1 r1.2) p0.length)).bind λ_=>(c9 (decide (((([]:List Int)).length+((p0.take (sX (aQ .i64 r1.1 r1.2))).drop (sX r1.1)).length)*1<=140737488355328))).bind λ_=>some (((([]:List Int))++((p0.take (sX (aQ .i64 r1.1 r1.2))).drop (sX r1.1)),true)))
def oB(u:Nat)(x11 x12:Int):Option Int :=
  some (aQ .i64 x11 (jC .i64 251 x12))
def lX(u ko:Nat)(p0:List Int)(x4 x5 x6:Int):Option Int:=match ko with
  | 0=>none
  | ko+1=>bif decide (x6 < ((p0.length:Int))) then ((c6 p0 x6).bind λy10=>(λz0 z1 z2 z3=>lX u ko z0 z1 z2 z3) p0 (mA .i64 (aQ .i64 x4 (IntKind.wrap .i64 y10)) 251) (mA .i64 (aQ .i64 x5 (mA .i64 (aQ .i64 x4 (IntKind.wrap .i64 y10)) 251)) 251) (aQ .i64 x6 1)) else (oB u x4 x5)
def mN(u:Nat)(p0:List Int):Option Int :=
  lX u u p0 0 0 0
def yi(u:Nat)(p0:List Int)(s:Int×Int):Option Int:=(oB u s.1 s.2)
def tD(u:Nat)(p0:List Int)(y10:Int)(i_:Nat)(s:Int×Int)(k_:(Int×Int)->Option Int):Option Int:=(λz0 z1 z2 z3=>k_ (z1,z2)) p0 (mA .i64 (aQ .i64 s.1 (IntKind.wrap .i64 y10)) 251) (mA .i64 (aQ .i64 s.2 (mA .i64 (aQ .i64 s.1 (IntKind.wrap .i64 y10)) 251)) 251) (aQ .i64 (i_:Int) 1)
theorem FC(u:Nat)(p0:List Int)(s:Int×Int)(k:Nat)(hn:p0.length<=9223372036854775807)(hk:p0.length < k):lX u k p0 s.1 s.2 0=Pu.bP (yi u p0) (tD u p0) p0 0 s:=Pu.dh (λ(k:Nat) (s:Int×Int) (i:Int)=>lX u k p0 s.1 s.2 i) hn (λ_ _ _=>rfl) s hk
def qc(u:Nat)(p0:List Int)(x8:Int):Option cn :=
  (mN u p0).bind λr9=>some ((cn.mk r9 x8))
def nN(u k7:Nat)(p0:List Int)(x3 x4:Int):Option cn:=match k7 with
  | 0=>none
  | k7+1=>bif decide (x4 < ((p0.length:Int))) then ((c6 p0 x4).bind λy7=>(λz0 z1 z2=>nN u k7 z0 z1 z2) p0 (aQ .i64 (jC .i64 256 x3) (IntKind.wrap .i64 y7)) (aQ .i64 x4 1)) else (qc u p0 x3)
def gj(u:Nat)(p0:List Int):Option cn :=
  bif decide (((p0.length:Int)) > 6) then (some ((cn.mk 0 0))) else (nN u u p0 1 0)
def Ab(u:Nat)(p0:List Int)(s:Int):Option cn:=(qc u p0 s)
def uS(u:Nat)(p0:List Int)(y7:Int)(i_:Nat)(s:Int)(k_:Int->Option cn):Option cn:=(λz0 z1 z2=>k_ z1) p0 (aQ .i64 (jC .i64 256 s) (IntKind.wrap .i64 y7)) (aQ .i64 (i_:Int) 1)
theorem HG(u:Nat)(p0:List Int)(s:Int)(k:Nat)(hn:p0.length<=9223372036854775807)(hk:p0.length < k):nN u k p0 s 0=Pu.bP (Ab u p0) (uS u p0) p0 0 s:=Pu.dh (λ(k:Nat) (s i:Int)=>nN u k p0 s i) hn (λ_ _ _=>rfl) s hk
def rP(u:Nat)(x10:List cn):Option ((List cn)) :=
  some x10
def iL(u eZ:Nat)(p0:List Int)(p1:Int)(x3:List cn)(x4:Int):Option ((List cn)):=match eZ with
  | 0=>none
  | eZ+1=>(lc u p1 ((p0.length:Int))).bind λr7=>bif decide (x4 < r7) then ((jD u p0 p1 x4).bind λr8=>(gj u r8.1).bind λr9=>(c9 (decide ((x3.length+([r9]).length)*16<=140737488355328))).bind λ_=>(λz0 z1 z2 z3=>iL u eZ z0 z1 z2 z3) p0 p1 (x3++([r9])) (aQ .i64 x4 1)) else (rP u x3)
def mO(u:Nat)(p0:List Int)(p1:Int):Option ((List cn)) :=
  iL u u p0 p1 (([]:List cn)) 0
def qd(u:Nat)(p0:Int)(p1:List Int)(p2:Int)(x3:Bool):Option ag :=
  bif x3 then (some ((ag.mk 0 0 0 ([])))) else ((mO u p1 p2).bind λr4=>some ((ag.mk p0 p2 ((p1.length:Int)) r4)))
def oC(u:Nat)(p0:Int)(p1:List Int)(p2:Int):Option ag :=
  (bG u p0 1 1000000).bind λr1=>bif !r1 then (qd u p0 p1 p2 true) else ((la u p2 ((p1.length:Int))).bind λr2=>qd u p0 p1 p2 (!r2))
def kv(u:Nat)(p0:World):Option ag :=
  (oC u 1 p0.b5 p0.fC.aw).bind λr1=>some r1
def uT(u:Nat)(x8:List Int):Option ((List Int)×Bool) :=
  some ((x8,true))
def kS(u jl:Nat)(x4:Int)(x5:List Int):Option ((List Int)×Bool):=match jl with
  | 0=>none
  | jl+1=>bif decide (x4 > 1) then (bif decide (x4 < 256) then (some ((([]:List Int),false))) else ((c9 (decide (((([IntKind.wrap .u8 (gE .i64 x4 255)]:List Int)).length+x5.length)*1<=140737488355328))).bind λ_=>(λz0 z1=>kS u jl z0 z1) (rJ .i64 x4 8) ((([IntKind.wrap .u8 (gE .i64 x4 255)]:List Int))++x5))) else (uT u x5)
def mU(u:Nat)(p0:Int):Option ((List Int)×Bool) :=
  (bG u p0 1 562949953421311).bind λr1=>bif !r1 then (some ((([]:List Int),false))) else (kS u u p0 (([]:List Int)))
def xO(u:Nat)  : Option Bool :=
  some true
def jH(u:Nat)(IW:Int->ag->Option Bool)(x6:Int)(x13:Bool)(p0:ag):Option Bool :=
  bif x13 then (some false) else (IW (aQ .i64 x6 1) p0)
def iE(u f7:Nat)(x6:Int)(p0:ag):Option Bool:=match f7 with
  | 0=>none
  | f7+1=>bif decide (x6 < ((p0.aC.length:Int))) then ((c6 p0.aC x6).bind λy8=>(mU u y8.fS).bind λr9=>(dB u p0.aw p0.aY x6).bind λr10=>bif !r9.2 then (jH u (λz0 z1=>iE u f7 z0 z1) x6 true p0) else (bif ((r9.1.length:Int)) != r10.2 then (jH u (λz0 z1=>iE u f7 z0 z1) x6 true p0) else ((gj u r9.1).bind λr11=>(c6 p0.aC x6).bind λy12=>jH u (λz0 z1=>iE u f7 z0 z1) x6 (!([r11.fW,r11.fS] == [y12.fW,y12.fS])) p0))) else (xO u)
def qe(u:Nat)(x4:Bool)(p0:ag):Option Bool :=
  bif x4 then (some false) else (iE u u 0 p0)
def gI(u:Nat)(p0:ag):Option Bool :=
  bif p0.aS == 0 then (bif p0.aw == 0 then (bif p0.aY == 0 then (some (((p0.aC.length:Int)) == 0)) else (some false)) else (some false)) else ((bG u p0.aS 1 1000000).bind λr1=>bif !r1 then (qe u true p0) else ((la u p0.aw p0.aY).bind λr2=>bif !r2 then (qe u true p0) else ((lc u p0.aw p0.aY).bind λr3=>qe u (((p0.aC.length:Int)) != r3) p0)))
def Ac(u:Nat)(p0:ag)(s:Unit):Option Bool:=(xO u)
def uU(u:Nat)(p0:ag)(y8:cn)(i_:Nat)(s:Unit)(k_:Unit->Option Bool):Option Bool:=(mU u y8.fS).bind λr9=>(dB u p0.aw p0.aY (i_:Int)).bind λr10=>bif !r9.2 then (jH u (λz0 z1=>k_ ()) (i_:Int) true p0) else (bif ((r9.1.length:Int)) != r10.2 then (jH u (λz0 z1=>k_ ()) (i_:Int) true p0) else ((gj u r9.1).bind λr11=>(c6 p0.aC (i_:Int)).bind λy12=>jH u (λz0 z1=>k_ ()) (i_:Int) (!([r11.fW,r11.fS] == [y12.fW,y12.fS])) p0))
theorem HH(u:Nat)(p0:ag)(s:Unit)(k:Nat)(hn:p0.aC.length<=9223372036854775807)(hk:p0.aC.length < k):iE u k 0 p0=Pu.bP (Ac u p0) (uU u p0) p0.aC 0 s:=Pu.dh (λ(k:Nat) (s:Unit) (i:Int)=>iE u k i p0) hn (λ_ _ _=>rfl) s hk
def rm(u:Nat)  : Option Bool :=
  some true
def ij(u gA:Nat)(p0 p1:List cn)(x2:Int):Option Bool:=match gA with
  | 0=>none
  | gA+1=>bif decide (x2 < ((p0.length:Int))) then ((c6 p0 x2).bind λy4=>(c6 p1 x2).bind λy5=>bif !([y4.fW,y4.fS] == [y5.fW,y5.fS]) then (some false) else ((λz0 z1 z2=>ij u gA z0 z1 z2) p0 p1 (aQ .i64 x2 1))) else (rm u)
def kT(u:Nat)(p0 p1:List cn):Option Bool :=
  bif ((p0.length:Int)) != ((p1.length:Int)) then (some false) else (ij u u p0 p1 0)
def AL(u:Nat)(p0 p1:List cn)(s:Unit):Option Bool:=(rm u)
def um(u:Nat)(p0 p1:List cn)(y4:cn)(i_:Nat)(s:Unit)(k_:Unit->Option Bool):Option Bool:=(c6 p1 (i_:Int)).bind λy5=>bif !([y4.fW,y4.fS] == [y5.fW,y5.fS]) then (some false) else ((λz0 z1 z2=>k_ ()) p0 p1 (aQ .i64 (i_:Int) 1))
theorem AM(u:Nat)(p0 p1:List cn)(s:Unit)(k:Nat)(hn:p0.length<=9223372036854775807)(hk:p0.length < k):ij u k p0 p1 0=Pu.bP (AL u p0 p1) (um u p0 p1) p0 0 s:=Pu.dh (λ(k:Nat) (s:Unit) (i:Int)=>ij u k p0 p1 i) hn (λ_ _ _=>rfl) s hk
def tE(u:Nat)(p0:ag)(p1:List Int):Option Bool :=
  bif ((p1.length:Int)) == p0.aY then ((mO u p1 p0.aw).bind λr1=>(kT u r1 p0.aC).bind λr2=>some r2) else (some false)
def lf(u:Nat)(p0:ag):Option ag :=
  (c9 (decide (((([]:List cn)).length+p0.aC.length)*16<=140737488355328))).bind λ_=>some ((ag.mk p0.aS p0.aw p0.aY ((([]:List cn))++p0.aC)))
def qf(u:Nat)(p0:ag):Option bD :=
  (gI u p0).bind λr1=>bif !r1 then (some ((bD.mk 0 ([])))) else ((c9 (decide (0<=p0.aY) && (p0.aY == 0 || p0.aY == p0.aY))).bind λ_=>(c9 (decide (sX p0.aY*1<=140737488355328))).bind λ_=>some ((bD.mk 0 (zQg (sX p0.aY) (0:Int)))))
def vP(u:Nat)(p0:Int):Option Bool :=
  (bG u p0 0 63000).bind λr1=>some r1
def nt(u:Nat)(p0:Int):Option (Int×Int) :=
  (vP u p0).bind λr1=>bif !r1 then (some ((0,0))) else (some ((mA .i64 p0 251,Qn .i64 p0 251)))
def tF(u:Nat)(p0 p1:Int):Option Int :=
  (bG u p1 1 1000000000000).bind λr1=>bif !r1 then (some 0) else ((c9 (!(p1 == 0))).bind λ_=>(c9 (!(p1 == 0))).bind λ_=>some (mA .i64 (aQ .i64 (mA .i64 p0 p1) p1) p1))
def pj(u:Nat)(p0 p1:Int)(p2 p3:Int)(x5:Bool):Option Int :=
  bif x5 then (some p0) else ((nt u p0).bind λr6=>(tF u (dM .i64 r6.2 (jC .i64 (mA .i64 p1 251) p2)) 251).bind λr7=>(tF u (aQ .i64 (dM .i64 r6.1 p2) p3) 251).bind λr8=>(tF u (aQ .i64 r7 r8) 251).bind λr9=>some (aQ .i64 r8 (jC .i64 251 r9)))
def vQ(u:Nat)(p0 p1:Int)(p2 p3:Int):Option Int :=
  (vP u p0).bind λr1=>bif !r1 then (pj u p0 p1 p2 p3 true) else ((bG u p1 1 1000000000000).bind λr2=>bif !r2 then (pj u p0 p1 p2 p3 true) else ((bG u p2 0 255).bind λr3=>bif !r3 then (pj u p0 p1 p2 p3 true) else ((bG u p3 0 255).bind λr4=>pj u p0 p1 p2 p3 (!r4))))
def qK(u:Nat)(x17:List Int):Option ((List Int)) :=
  some x17
def fU(u jn:Nat)(p0:List Int)(p1:Int)(x8:List Int)(x9 x10:Int):Option ((List Int)):=match jn with
  | 0=>none
  | jn+1=>bif decide (x10 < ((p0.length:Int))) then ((c6 p0 (dM .i64 x10 p1)).bind λy14=>(c6 p0 x10).bind λy15=>(vQ u x9 p1 (IntKind.wrap .i64 y14) (IntKind.wrap .i64 y15)).bind λr16=>(c9 (decide ((x8.length+(([r16]:List Int)).length)*8<=140737488355328))).bind λ_=>(λz0 z1 z2 z3 z4=>fU u jn z0 z1 z2 z3 z4) p0 p1 (x8++(([r16]:List Int))) r16 (aQ .i64 x10 1)) else (qK u x8)
def qL(u:Nat)(p0:List Int)(p1:Int)(x1:Bool):Option ((List Int)) :=
  bif x1 then (some (([]:List Int))) else ((c9 (cy 0 p1 p0.length)).bind λ_=>(mN u ((p0.take (sX p1)).drop (sX 0))).bind λr3=>(c9 (decide (((([]:List Int)).length+(([r3]:List Int)).length)*8<=140737488355328))).bind λ_=>fU u u p0 p1 ((([]:List Int))++(([r3]:List Int))) r3 p1)
def rQ(u:Nat)(p0:List Int)(p1:Int):Option ((List Int)) :=
  bif decide (p1 < 1) then (qL u p0 p1 true) else (qL u p0 p1 (decide (p1 > ((p0.length:Int)))))
def DS(u:Nat)(p0:List Int)(p1:Int)(s:(List Int)×Int):Option ((List Int)):=(qK u s.1)
def DT(u:Nat)(p0:List Int)(p1:Int)(i_:Nat)(s:(List Int)×Int)(k_:((List Int)×Int)->Option ((List Int))):Option ((List Int)):=(c6 p0 (dM .i64 (i_:Int) p1)).bind λy14=>(c6 p0 (i_:Int)).bind λy15=>(vQ u s.2 p1 (IntKind.wrap .i64 y14) (IntKind.wrap .i64 y15)).bind λr16=>(c9 (decide ((s.1.length+(([r16]:List Int)).length)*8<=140737488355328))).bind λ_=>(λz0 z1 z2 z3 z4=>k_ (z2,z3)) p0 p1 (s.1++(([r16]:List Int))) r16 (aQ .i64 (i_:Int) 1)
theorem Rf(u:Nat)(p0:List Int)(p1:Int)(s:(List Int)×Int)(k:Nat)(hn:(((p0.length:Int)):Int)<=9223372036854775807)(hk:sX (((p0.length:Int))) < k):fU u k p0 p1 s.1 s.2 0=Pu.lS (DS u p0 p1) (DT u p0 p1) (sX (((p0.length:Int)))) 0 s:=Pu.mB (λ(k:Nat) (s:(List Int)×Int) (i:Int)=>fU u k p0 p1 s.1 s.2 i) hn (λ_ _ _=>rfl) s hk
def qM(u:Nat)  : Option Int :=
  some (-1)
def kU(u:Nat)(Fx:(List Int)->Int->((List Int))->Int->cn->Option Int)(p0:List Int)(p2:Int)(r2:(List Int))(x4:Int)(x9:Bool)(p1:cn):Option Int :=
  bif x9 then (some x4) else (Fx p0 p2 r2 (aQ .i64 x4 1) p1)
def dW(u fq:Nat)(p0:List Int)(p2:Int)(r2:(List Int))(x4:Int)(p1:cn):Option Int:=match fq with
  | 0=>none
  | fq+1=>bif decide (x4 < ((r2.length:Int))) then ((c6 r2 x4).bind λy6=>bif y6 == p1.fW then ((c9 (cy x4 (aQ .i64 x4 p2) p0.length)).bind λ_=>(gj u ((p0.take (sX (aQ .i64 x4 p2))).drop (sX x4))).bind λr8=>kU u (λz0 z1 z2 z3 z4=>dW u fq z0 z1 z2 z3 z4) p0 p2 r2 x4 ([r8.fW,r8.fS] == [p1.fW,p1.fS]) p1) else (kU u (λz0 z1 z2 z3 z4=>dW u fq z0 z1 z2 z3 z4) p0 p2 r2 x4 false p1)) else (qM u)
def rS(u:Nat)(p0:List Int)(p1:cn)(p2:Int):Option Int :=
  (bG u p2 1 6).bind λr1=>bif !r1 then (some (-1)) else ((rQ u p0 p2).bind λr2=>dW u u p0 p2 r2 0 p1)
def DU(u:Nat)(p0:List Int)(p2:Int)(r2:(List Int))(p1:cn)(s:Unit):Option Int:=(qM u)
def DV(u:Nat)(p0:List Int)(p2:Int)(r2:(List Int))(p1:cn)(y6:Int)(i_:Nat)(s:Unit)(k_:Unit->Option Int):Option Int:=bif y6 == p1.fW then ((c9 (cy (i_:Int) (aQ .i64 (i_:Int) p2) p0.length)).bind λ_=>(gj u ((p0.take (sX (aQ .i64 (i_:Int) p2))).drop (sX (i_:Int)))).bind λr8=>kU u (λz0 z1 z2 z3 z4=>k_ ()) p0 p2 r2 (i_:Int) ([r8.fW,r8.fS] == [p1.fW,p1.fS]) p1) else (kU u (λz0 z1 z2 z3 z4=>k_ ()) p0 p2 r2 (i_:Int) false p1)
theorem Rg(u:Nat)(p0:List Int)(p2:Int)(r2:(List Int))(p1:cn)(s:Unit)(k:Nat)(hn:r2.length<=9223372036854775807)(hk:r2.length < k):dW u k p0 p2 r2 0 p1=Pu.bP (DU u p0 p2 r2 p1) (DV u p0 p2 r2 p1) r2 0 s:=Pu.dh (λ(k:Nat) (s:Unit) (i:Int)=>dW u k p0 p2 r2 i p1) hn (λ_ _ _=>rfl) s hk
def qN(u:Nat)(p0:List Int)(p2:Int)(r1:Int×Int)(x2:Bool)(p1:ag):Option Int :=
  bif x2 then (some (-1)) else ((c6 p1.aC p2).bind λy3=>(rS u p0 y3 r1.2).bind λr4=>some r4)
def mV(u:Nat)(p0:List Int)(p1:ag)(p2:Int):Option Int :=
  (dB u p1.aw p1.aY p2).bind λr1=>bif r1.2 == 0 then (qN u p0 p2 r1 true p1) else (qN u p0 p2 r1 (decide (p2>=((p1.aC.length:Int)))) p1)
def dL(u:Nat)(p0:Int):Option Bool :=
  (bG u p0 0 1099511627775).bind λr1=>some r1
def dS(u:Nat)(p0 p1:Int):Option Bool :=
  (dL u p0).bind λr1=>bif r1 then ((bG u p1 0 39).bind λr2=>bif r2 then ((c9 (decide (0<=p1))).bind λ_=>some ((gE .i64 (rJ .i64 p0 p1) 1) == 1)) else (some false)) else (some false)
def jX(u:Nat)(p0 p1:Int)(x3:Bool):Option Int :=
  bif x3 then (some p0) else ((c9 (decide (0<=p1))).bind λ_=>some (vL .i64 p0 (iT .i64 1 p1)))
def d8(u:Nat)(p0 p1:Int):Option Int :=
  (dL u p0).bind λr1=>bif !r1 then (jX u p0 p1 true) else ((bG u p1 0 39).bind λr2=>jX u p0 p1 (!r2))
def t8(u:Nat)(p2:Int)(p1:bD)(x15:List Int):Option (Bool×bD) :=
  (d8 u p1.bj p2).bind λr16=>some ((true,(bD.mk r16 x15)))
def nO(u k8:Nat)(p2:Int)(p3:List Int)(r6:Int×Int)(x9:Int)(p1:bD)(x10:List Int):Option (Bool×bD):=match k8 with
  | 0=>none
  | k8+1=>bif decide (x9 < ((p3.length:Int))) then ((c6 p3 x9).bind λy13=>(c6 x10 (aQ .i64 r6.1 x9)).bind λy14=>(λz0 z1 z2 z3 z4 z5=>nO u k8 z0 z1 z2 z3 z4 z5) p2 p3 r6 (aQ .i64 x9 1) p1 (x10.set (sX (aQ .i64 r6.1 x9)) y13)) else (t8 u p2 p1 x10)
def nP(u:Nat)(p2:Int)(p3:List Int)(x5:Bool)(p0:ag)(p1:bD):Option (Bool×bD) :=
  bif x5 then (some ((false,p1))) else ((dB u p0.aw p0.aY p2).bind λr6=>nO u u p2 p3 r6 0 p1 p1.b4)
def rn(u:Nat)(p0:ag)(p1:bD)(p2:Int)(p3:List Int):Option (Bool×bD) :=
  (bG u p2 0 (dM .i64 ((p0.aC.length:Int)) 1)).bind λr1=>bif !r1 then (nP u p2 p3 true p0 p1) else ((dS u p1.bj p2).bind λr2=>bif r2 then (nP u p2 p3 true p0 p1) else ((gj u p3).bind λr3=>(c6 p0.aC p2).bind λy4=>bif !([r3.fW,r3.fS] == [y4.fW,y4.fS]) then (nP u p2 p3 true p0 p1) else (nP u p2 p3 (decide (((p3.length:Int)) > 6)) p0 p1)))
def uV(u:Nat)(p2:Int)(p3:List Int)(r6:Int×Int)(p1:bD)(s:(List Int)):Option (Bool×bD):=(t8 u p2 p1 s)
def uW(u:Nat)(p2:Int)(p3:List Int)(r6:Int×Int)(p1:bD)(y13:Int)(i_:Nat)(s:(List Int))(k_:((List Int))->Option (Bool×bD)):Option (Bool×bD):=(c6 s (aQ .i64 r6.1 (i_:Int))).bind λy14=>(λz0 z1 z2 z3 z4 z5=>k_ z5) p2 p3 r6 (aQ .i64 (i_:Int) 1) p1 (s.set (sX (aQ .i64 r6.1 (i_:Int))) y13)
theorem HI(u:Nat)(p2:Int)(p3:List Int)(r6:Int×Int)(p1:bD)(s:(List Int))(k:Nat)(hn:p3.length<=9223372036854775807)(hk:p3.length < k):nO u k p2 p3 r6 0 p1 s=Pu.bP (uV u p2 p3 r6 p1) (uW u p2 p3 r6 p1) p3 0 s:=Pu.dh (λ(k:Nat) (s:(List Int)) (i:Int)=>nO u k p2 p3 r6 i p1 s) hn (λ_ _ _=>rfl) s hk
def rT(u:Nat)(x18:Int)(x19:List Int):Option bD :=
  some ((bD.mk x18 x19))
def i8(u:Nat)(Cr:(List Int)->Int->ag->Int->(List Int)->Option bD)(p1:List Int)(x6:Int)(p0:ag)(x16:Int)(x17:List Int):Option bD :=
  Cr p1 (aQ .i64 x6 1) p0 x16 x17
def fh(u eg:Nat)(p1:List Int)(x6:Int)(p0:ag)(x7:Int)(x8:List Int):Option bD:=match eg with
  | 0=>none
  | eg+1=>bif decide (x6 < ((p0.aC.length:Int))) then ((mV u p1 p0 x6).bind λr12=>(dB u p0.aw p0.aY x6).bind λr13=>bif decide (r12>=0) then ((c9 (cy r12 (aQ .i64 r12 r13.2) p1.length)).bind λ_=>(rn u p0 ((bD.mk x7 x8)) x6 ((p1.take (sX (aQ .i64 r12 r13.2))).drop (sX r12))).bind λr15=>i8 u (λz0 z1 z2 z3 z4=>fh u eg z0 z1 z2 z3 z4) p1 x6 p0 r15.2.bj r15.2.b4) else (i8 u (λz0 z1 z2 z3 z4=>fh u eg z0 z1 z2 z3 z4) p1 x6 p0 x7 x8)) else (rT u x7 x8)
def lY(u:Nat)(p0:ag)(p1:List Int):Option bD :=
  (qf u p0).bind λr1=>(gI u p0).bind λr2=>bif !r2 then (some r1) else (fh u u p1 0 p0 r1.bj r1.b4)
def vp(u:Nat)(p1:List Int)(p0:ag)(s:Int×(List Int)):Option bD:=(rT u s.1 s.2)
def pU(u:Nat)(p1:List Int)(p0:ag)(i_:Nat)(s:Int×(List Int))(k_:(Int×(List Int))->Option bD):Option bD:=(mV u p1 p0 (i_:Int)).bind λr12=>(dB u p0.aw p0.aY (i_:Int)).bind λr13=>bif decide (r12>=0) then ((c9 (cy r12 (aQ .i64 r12 r13.2) p1.length)).bind λ_=>(rn u p0 ((bD.mk s.1 s.2)) (i_:Int) ((p1.take (sX (aQ .i64 r12 r13.2))).drop (sX r12))).bind λr15=>i8 u (λz0 z1 z2 z3 z4=>k_ (z3,z4)) p1 (i_:Int) p0 r15.2.bj r15.2.b4) else (i8 u (λz0 z1 z2 z3 z4=>k_ (z3,z4)) p1 (i_:Int) p0 s.1 s.2)
theorem Cd(u:Nat)(p1:List Int)(p0:ag)(s:Int×(List Int))(k:Nat)(hn:(((p0.aC.length:Int)):Int)<=9223372036854775807)(hk:sX (((p0.aC.length:Int))) < k):fh u k p1 0 p0 s.1 s.2=Pu.lS (vp u p1 p0) (pU u p1 p0) (sX (((p0.aC.length:Int)))) 0 s:=Pu.mB (λ(k:Nat) (s:Int×(List Int)) (i:Int)=>fh u k p1 i p0 s.1 s.2) hn (λ_ _ _=>rfl) s hk
def lZ(u:Nat)(p1:List Int)(x3:Bool)(p0:ag):Option aK :=
  bif x3 then (some ((aK.mk false 0 0 ((ag.mk 0 0 0 ([]))) ((bD.mk 0 ([]))) 0 ([]) 0))) else ((lf u p0).bind λr4=>(lY u p0 p1).bind λr5=>some ((aK.mk true (-1) 0 r4 r5 6 ([]) 0)))
def nQ(u:Nat)(p0:ag)(p1:List Int):Option aK :=
  bif p0.aS == 0 then (lZ u p1 true p0) else ((gI u p0).bind λr1=>bif !r1 then (lZ u p1 true p0) else ((tE u p0 p1).bind λr2=>lZ u p1 (!r2) p0))
def nu(u:Nat)(p0:Int)(p1:List Int)(x2:Bool):Option aA :=
  bif x2 then (some ((aA.mk ([]) ([]) ((c7.mk 0 0 0)) ([])))) else ((c9 (decide (((([]:List Int)).length+p1.length)*1<=140737488355328))).bind λ_=>some ((aA.mk ((([]:List Int))++p1) ([]) ((c7.mk p0 0 ((p1.length:Int)))) ([]))))
def lg(u:Nat)(p0:Int)(p1:List Int):Option aA :=
  (bG u p0 0 1000000).bind λr1=>bif !r1 then (nu u p0 p1 true) else (nu u p0 p1 (decide (((p1.length:Int)) > 240)))
def pk(u:Nat)(p0:ia)(p1:cF)(p2:List Int)(r8:(List bg))(x36:List aK)(x37:List aA):Option World :=
  some ((World.mk p0 ((cF.mk ((([]:List Int))++p1.cf))) ((([]:List Int))++p2) r8 x36 x37 ([]) ([]) 0))
def ik(u:Nat)(DN:(List Int)->(List bg)->Int->ia->cF->((List bg))->(List aK)->(List aA)->Option World)(p2:List Int)(p3:List bg)(x12:Int)(p0:ia)(p1:cF)(r8:(List bg))(x13:List aK)(x14:List aA)(x21:Bool)(x22 x23:Int)(x24 x25 x26:Int)(x27:List cn)(x28:Int)(x29:List Int)(x30:Int)(x31:List bO)(x32:Int):Option World :=
  (c9 (decide ((x13.length+([(aK.mk x21 x22 x23 ((ag.mk x24 x25 x26 x27)) ((bD.mk x28 x29)) x30 x31 x32)]).length)*144<=140737488355328))).bind λ_=>(c6 p3 x12).bind λy34=>(lg u 0 y34.fB).bind λr35=>(c9 (decide ((x14.length+([r35]).length)*96<=140737488355328))).bind λ_=>DN p2 p3 (aQ .i64 x12 1) p0 p1 r8 (x13++([(aK.mk x21 x22 x23 ((ag.mk x24 x25 x26 x27)) ((bD.mk x28 x29)) x30 x31 x32)])) (x14++([r35]))
def da(u eK:Nat)(p2:List Int)(p3:List bg)(x12:Int)(p0:ia)(p1:cF)(r8:(List bg))(x13:List aK)(x14:List aA):Option World:=match eK with
  | 0=>none
  | eK+1=>bif decide (x12 < ((p1.cf.length:Int))) then ((lL u p1 x12).bind λr18=>bif x12 == 0 then ((kv u ((World.mk p0 ((cF.mk ((([]:List Int))++p1.cf))) ((([]:List Int))++p2) r8 x13 x14 ([]) ([]) 0))).bind λr19=>(nQ u r19 p2).bind λr20=>ik u (λz0 z1 z2 z3 z4 z5 z6 z7=>da u eK z0 z1 z2 z3 z4 z5 z6 z7) p2 p3 x12 p0 p1 r8 x13 x14 r20.gS r20.bM r20.bF r20.aD.aS r20.aD.aw r20.aD.aY r20.aD.aC r20.bw.bj r20.bw.b4 r20.bi r20.bf r20.br) else (ik u (λz0 z1 z2 z3 z4 z5 z6 z7=>da u eK z0 z1 z2 z3 z4 z5 z6 z7) p2 p3 x12 p0 p1 r8 x13 x14 r18.gS r18.bM r18.bF r18.aD.aS r18.aD.aw r18.aD.aY r18.aD.aC r18.bw.bj r18.bw.b4 r18.bi r18.bf r18.br)) else (pk u p0 p1 p2 r8 x13 x14)
def jY(u:Nat)(p2:List Int)(p3:List bg)(x5:Bool)(p0:ia)(p1:cF):Option World :=
  bif x5 then (some ((World.mk ((ia.mk 0 0 0 0)) ((cF.mk ([]))) ([]) ([]) ([]) ([]) ([]) ([]) 0))) else ((c9 (decide (((([]:List Int)).length+p1.cf.length)*8<=140737488355328))).bind λ_=>(c9 (decide (((([]:List Int)).length+p2.length)*1<=140737488355328))).bind λ_=>(iK u p3).bind λr8=>da u u p2 p3 0 p0 p1 r8 ([]) ([]))
def qg(u:Nat)(p0:ia)(p1:cF)(p2:List Int)(p3:List bg):Option World :=
  (ul u p0).bind λr1=>bif !r1 then (jY u p2 p3 true p0 p1) else ((oA u p1).bind λr2=>bif !r2 then (jY u p2 p3 true p0 p1) else ((la u p0.aw ((p2.length:Int))).bind λr3=>bif !r3 then (jY u p2 p3 true p0 p1) else ((rM u p3 ((p1.cf.length:Int))).bind λr4=>jY u p2 p3 (!r4) p0 p1)))
def CX(u:Nat)(p2:List Int)(p3:List bg)(p0:ia)(p1:cF)(r8:(List bg))(s:(List aK)×(List aA)):Option World:=(pk u p0 p1 p2 r8 s.1 s.2)
def CY(u:Nat)(p2:List Int)(p3:List bg)(p0:ia)(p1:cF)(r8:(List bg))(i_:Nat)(s:(List aK)×(List aA))(k_:((List aK)×(List aA))->Option World):Option World:=(lL u p1 (i_:Int)).bind λr18=>bif (i_:Int) == 0 then ((kv u ((World.mk p0 ((cF.mk ((([]:List Int))++p1.cf))) ((([]:List Int))++p2) r8 s.1 s.2 ([]) ([]) 0))).bind λr19=>(nQ u r19 p2).bind λr20=>ik u (λz0 z1 z2 z3 z4 z5 z6 z7=>k_ (z6,z7)) p2 p3 (i_:Int) p0 p1 r8 s.1 s.2 r20.gS r20.bM r20.bF r20.aD.aS r20.aD.aw r20.aD.aY r20.aD.aC r20.bw.bj r20.bw.b4 r20.bi r20.bf r20.br) else (ik u (λz0 z1 z2 z3 z4 z5 z6 z7=>k_ (z6,z7)) p2 p3 (i_:Int) p0 p1 r8 s.1 s.2 r18.gS r18.bM r18.bF r18.aD.aS r18.aD.aw r18.aD.aY r18.aD.aC r18.bw.bj r18.bw.b4 r18.bi r18.bf r18.br)
theorem P5(u:Nat)(p2:List Int)(p3:List bg)(p0:ia)(p1:cF)(r8:(List bg))(s:(List aK)×(List aA))(k:Nat)(hn:(((p1.cf.length:Int)):Int)<=9223372036854775807)(hk:sX (((p1.cf.length:Int))) < k):da u k p2 p3 0 p0 p1 r8 s.1 s.2=Pu.lS (CX u p2 p3 p0 p1 r8) (CY u p2 p3 p0 p1 r8) (sX (((p1.cf.length:Int)))) 0 s:=Pu.mB (λ(k:Nat) (s:(List aK)×(List aA)) (i:Int)=>da u k p2 p3 i p0 p1 r8 s.1 s.2) hn (λ_ _ _=>rfl) s hk
def rU(u:Nat)(r2:(List Int)×aG)(x19:List bg)(r1:cF×aG)(x20:List Int)(x21 x22:Int):Option (World×aG) :=
  (pg u ((aG.mk x20 x21 x22))).bind λr23=>(qg u r23.1 r1.1 r2.1 x19).bind λr24=>some ((r24,r23.2))
def gJ(u kt:Nat)(r2:(List Int)×aG)(x8:List bg)(x9:Int)(r1:cF×aG)(x10:List Int)(x11 x12:Int):Option (World×aG):=match kt with
  | 0=>none
  | kt+1=>bif decide (x9 < ((r1.1.cf.length:Int))) then ((rj u ((aG.mk x10 x11 x12)) r2.1).bind λr18=>(c9 (decide ((x8.length+([(bg.mk r18.1)]).length)*24<=140737488355328))).bind λ_=>(λz0 z1 z2 z3 z4 z5 z6=>gJ u kt z0 z1 z2 z3 z4 z5 z6) r2 (x8++([(bg.mk r18.1)])) (aQ .i64 x9 1) r1 r18.2.fB r18.2.fI r18.2.fH) else (rU u r2 x8 r1 x10 x11 x12)
def un(u:Nat)(p0:aG):Option (World×aG) :=
  (pf u p0).bind λr1=>(k9 u r1.2).bind λr2=>gJ u u r2 (([]:List bg)) 0 r1 r2.2.fB r2.2.fI r2.2.fH
def FD(u:Nat)(r2:(List Int)×aG)(r1:cF×aG)(s:(List bg)×(List Int)×Int×Int):Option (World×aG):=(rU u r2 s.1 r1 s.2.1 s.2.2.1 s.2.2.2)
def FE(u:Nat)(r2:(List Int)×aG)(r1:cF×aG)(i_:Nat)(s:(List bg)×(List Int)×Int×Int)(k_:((List bg)×(List Int)×Int×Int)->Option (World×aG)):Option (World×aG):=(rj u ((aG.mk s.2.1 s.2.2.1 s.2.2.2)) r2.1).bind λr18=>(c9 (decide ((s.1.length+([(bg.mk r18.1)]).length)*24<=140737488355328))).bind λ_=>(λz0 z1 z2 z3 z4 z5 z6=>k_ (z1,z4,z5,z6)) r2 (s.1++([(bg.mk r18.1)])) (aQ .i64 (i_:Int) 1) r1 r18.2.fB r18.2.fI r18.2.fH
theorem RV(u:Nat)(r2:(List Int)×aG)(r1:cF×aG)(s:(List bg)×(List Int)×Int×Int)(k:Nat)(hn:(((r1.1.cf.length:Int)):Int)<=9223372036854775807)(hk:sX (((r1.1.cf.length:Int))) < k):gJ u k r2 s.1 0 r1 s.2.1 s.2.2.1 s.2.2.2=Pu.lS (FD u r2 r1) (FE u r2 r1) (sX (((r1.1.cf.length:Int)))) 0 s:=Pu.mB (λ(k:Nat) (s:(List bg)×(List Int)×Int×Int) (i:Int)=>gJ u k r2 s.1 i r1 s.2.1 s.2.2.1 s.2.2.2) hn (λ_ _ _=>rfl) s hk
def mP(u:Nat)(p0:bD):Option bD :=
  (c9 (decide (((([]:List Int)).length+p0.b4.length)*1<=140737488355328))).bind λ_=>some ((bD.mk p0.bj ((([]:List Int))++p0.b4)))
def cY(u:Nat)(p0:aK):Option aK :=
  (lf u p0.aD).bind λr1=>(mP u p0.bw).bind λr2=>(c9 (decide (((([]:List bO)).length+p0.bf.length)*40<=140737488355328))).bind λ_=>some ((aK.mk p0.gS p0.bM p0.bF r1 r2 p0.bi ((([]:List bO))++p0.bf) p0.br))
def fE(u:Nat)(p0:dA):Option dA :=
  (c9 (decide (((([]:List Int)).length+p0.fB.length)*1<=140737488355328))).bind λ_=>some ((dA.mk p0.nM p0.CW ((([]:List Int))++p0.fB) p0.fR))
def rV(u:Nat)(p0:aA)(x11:List dA):Option aA :=
  some ((aA.mk ((([]:List Int))++p0.fA) ((([]:List Int))++p0.fB) p0.fR x11))
def iM(u fa:Nat)(x5:Int)(p0:aA)(x6:List dA):Option aA:=match fa with
  | 0=>none
  | fa+1=>bif decide (x5 < ((p0.fP.length:Int))) then ((c6 p0.fP x5).bind λy9=>(fE u y9).bind λr10=>(c9 (decide ((x6.length+([r10]).length)*64<=140737488355328))).bind λ_=>(λz0 z1 z2=>iM u fa z0 z1 z2) (aQ .i64 x5 1) p0 (x6++([r10]))) else (rV u p0 x6)
def dC(u:Nat)(p0:aA):Option aA :=
  (c9 (decide (((([]:List Int)).length+p0.fA.length)*1<=140737488355328))).bind λ_=>(c9 (decide (((([]:List Int)).length+p0.fB.length)*1<=140737488355328))).bind λ_=>iM u u 0 p0 (([]:List dA))
def FF(u:Nat)(p0:aA)(s:(List dA)):Option aA:=(rV u p0 s)
def yj(u:Nat)(p0:aA)(y9:dA)(i_:Nat)(s:(List dA))(k_:((List dA))->Option aA):Option aA:=(fE u y9).bind λr10=>(c9 (decide ((s.length+([r10]).length)*64<=140737488355328))).bind λ_=>(λz0 z1 z2=>k_ z2) (aQ .i64 (i_:Int) 1) p0 (s++([r10]))
theorem FG(u:Nat)(p0:aA)(s:(List dA))(k:Nat)(hn:p0.fP.length<=9223372036854775807)(hk:p0.fP.length < k):iM u k 0 p0 s=Pu.bP (FF u p0) (yj u p0) p0.fP 0 s:=Pu.dh (λ(k:Nat) (s:(List dA)) (i:Int)=>iM u k i p0 s) hn (λ_ _ _=>rfl) s hk
def mW(u:Nat)(x10:List ak):Option ((List ak)) :=
  some x10
def eU(u ed:Nat)(p0 x3:List ak)(x4:Int):Option ((List ak)):=match ed with
  | 0=>none
  | ed+1=>bif decide (x4 < ((p0.length:Int))) then ((c6 p0 x4).bind λy7=>(c6 p0 x4).bind λy8=>(c6 p0 x4).bind λy9=>(c9 (decide (((([]:List Int)).length+y9.fB.length)*1<=140737488355328))).bind λ_=>(c9 (decide ((x3.length+([(ak.mk y7.cm y8.mK ((([]:List Int))++y9.fB))]).length)*40<=140737488355328))).bind λ_=>(λz0 z1 z2=>eU u ed z0 z1 z2) p0 (x3++([(ak.mk y7.cm y8.mK ((([]:List Int))++y9.fB))])) (aQ .i64 x4 1)) else (mW u x3)
def jz(u:Nat)(p0:List ak):Option ((List ak)) :=
  eU u u p0 (([]:List ak)) 0
def xP(u:Nat)(p0:List ak)(s:(List ak)):Option ((List ak)):=(mW u s)
def qh(u:Nat)(p0:List ak)(y7:ak)(i_:Nat)(s:(List ak))(k_:((List ak))->Option ((List ak))):Option ((List ak)):=(c6 p0 (i_:Int)).bind λy8=>(c6 p0 (i_:Int)).bind λy9=>(c9 (decide (((([]:List Int)).length+y9.fB.length)*1<=140737488355328))).bind λ_=>(c9 (decide ((s.length+([(ak.mk y7.cm y8.mK ((([]:List Int))++y9.fB))]).length)*40<=140737488355328))).bind λ_=>(λz0 z1 z2=>k_ z1) p0 (s++([(ak.mk y7.cm y8.mK ((([]:List Int))++y9.fB))])) (aQ .i64 (i_:Int) 1)
theorem xQ(u:Nat)(p0:List ak)(s:(List ak))(k:Nat)(hn:p0.length<=9223372036854775807)(hk:p0.length < k):eU u k p0 s 0=Pu.bP (xP u p0) (qh u p0) p0 0 s:=Pu.dh (λ(k:Nat) (s:(List ak)) (i:Int)=>eU u k p0 s i) hn (λ_ _ _=>rfl) s hk
def qO(u:Nat)(p0:World)(r3:(List bg))(x12:List aK)(x21:List aA):Option World :=
  (jz u p0.bE).bind λr22=>(c9 (decide (((([]:List cg)).length+p0.bq.length)*24<=140737488355328))).bind λ_=>some ((World.mk p0.fC ((cF.mk ((([]:List Int))++p0.fT.cf))) ((([]:List Int))++p0.b5) r3 x12 x21 r22 ((([]:List cg))++p0.bq) p0.bB))
def g8(u jp:Nat)(x15:Int)(p0:World)(r3:(List bg))(x12:List aK)(x16:List aA):Option World:=match jp with
  | 0=>none
  | jp+1=>bif decide (x15 < ((p0.fD.length:Int))) then ((c6 p0.fD x15).bind λy19=>(dC u y19).bind λr20=>(c9 (decide ((x16.length+([r20]).length)*96<=140737488355328))).bind λ_=>(λz0 z1 z2 z3 z4=>g8 u jp z0 z1 z2 z3 z4) (aQ .i64 x15 1) p0 r3 x12 (x16++([r20]))) else (qO u p0 r3 x12 x16)
def qP(u:Nat)(p0:World)(r3:(List bg))(x12:List aK):Option World :=
  g8 u u 0 p0 r3 x12 (([]:List aA))
def g9(u jq:Nat)(x6:Int)(p0:World)(r3:(List bg))(x7:List aK):Option World:=match jq with
  | 0=>none
  | jq+1=>bif decide (x6 < ((p0.fN.length:Int))) then ((c6 p0.fN x6).bind λy10=>(cY u y10).bind λr11=>(c9 (decide ((x7.length+([r11]).length)*144<=140737488355328))).bind λ_=>(λz0 z1 z2 z3=>g9 u jq z0 z1 z2 z3) (aQ .i64 x6 1) p0 r3 (x7++([r11]))) else (qP u p0 r3 x7)
def rX(u:Nat)(p0:World):Option World :=
  (c9 (decide (((([]:List Int)).length+p0.fT.cf.length)*8<=140737488355328))).bind λ_=>(c9 (decide (((([]:List Int)).length+p0.b5.length)*1<=140737488355328))).bind λ_=>(iK u p0.bS).bind λr3=>g9 u u 0 p0 r3 (([]:List aK))
def w5(u:Nat)(p0:World)(r3:(List bg))(x12:List aK)(s:(List aA)):Option World:=(qO u p0 r3 x12 s)
def w6(u:Nat)(p0:World)(r3:(List bg))(x12:List aK)(y19:aA)(i_:Nat)(s:(List aA))(k_:((List aA))->Option World):Option World:=(dC u y19).bind λr20=>(c9 (decide ((s.length+([r20]).length)*96<=140737488355328))).bind λ_=>(λz0 z1 z2 z3 z4=>k_ z4) (aQ .i64 (i_:Int) 1) p0 r3 x12 (s++([r20]))
theorem DW(u:Nat)(p0:World)(r3:(List bg))(x12:List aK)(s:(List aA))(k:Nat)(hn:p0.fD.length<=9223372036854775807)(hk:p0.fD.length < k):g8 u k 0 p0 r3 x12 s=Pu.bP (w5 u p0 r3 x12) (w6 u p0 r3 x12) p0.fD 0 s:=Pu.dh (λ(k:Nat) (s:(List aA)) (i:Int)=>g8 u k i p0 r3 x12 s) hn (λ_ _ _=>rfl) s hk
def w7(u:Nat)(p0:World)(r3:(List bg))(s:(List aK)):Option World:=(qP u p0 r3 s)
def w8(u:Nat)(p0:World)(r3:(List bg))(y10:aK)(i_:Nat)(s:(List aK))(k_:((List aK))->Option World):Option World:=(cY u y10).bind λr11=>(c9 (decide ((s.length+([r11]).length)*144<=140737488355328))).bind λ_=>(λz0 z1 z2 z3=>k_ z3) (aQ .i64 (i_:Int) 1) p0 r3 (s++([r11]))
theorem DX(u:Nat)(p0:World)(r3:(List bg))(s:(List aK))(k:Nat)(hn:p0.fN.length<=9223372036854775807)(hk:p0.fN.length < k):g9 u k 0 p0 r3 s=Pu.bP (w7 u p0 r3) (w8 u p0 r3) p0.fN 0 s:=Pu.dh (λ(k:Nat) (s:(List aK)) (i:Int)=>g9 u k i p0 r3 s) hn (λ_ _ _=>rfl) s hk
def oD(u:Nat)(p0:aG):Option (ag×(List Int)×aG) :=
  (k9 u p0).bind λr1=>(aX u r1.2 5).bind λr2=>(aX u r2.2 5).bind λr3=>(oC u (aQ .i64 1 r2.1) r1.1 (aQ .i64 2 r3.1)).bind λr4=>some ((r4,r1.1,r3.2))
def wc(u:Nat)(p0:aG):Option (Int×aG) :=
  (gZ u p0 3).bind λr1=>bif r1.1 then ((c8 u r1.2 (([0,1,3,1099511627775,549755813888]:List Int))).bind λr2=>some ((r2.1,r2.2))) else ((aX u r1.2 65536).bind λr3=>(aX u r3.2 20).bind λr4=>(c9 (decide (0<=r4.1))).bind λ_=>some ((iT .i64 r3.1 r4.1,r4.2)))
def rY(u:Nat)(p0 p1 p2:Int):Option fz :=
  some ((fz.mk 2 p0 ((ag.mk 0 0 0 ([]))) p1 p2 0 ([])))
def lh(u:Nat)(p0 p1:Int)(p2:List Int):Option fz :=
  (c9 (decide (((([]:List Int)).length+p2.length)*1<=140737488355328))).bind λ_=>some ((fz.mk 3 p0 ((ag.mk 0 0 0 ([]))) 0 0 p1 ((([]:List Int))++p2)))
def rZ(u:Nat)(p0:aG):Option (fz×aG) :=
  (aX u p0 4).bind λr1=>bif r1.1 == 0 then ((oD u r1.2).bind λr2=>some (((fz.mk 1 0 r2.1 0 0 0 ([])),r2.2.2))) else (bif r1.1 == 1 then ((wc u r1.2).bind λr3=>(aX u r3.2 3).bind λr4=>(aX u r4.2 64).bind λr5=>(rY u r4.1 r3.1 r5.1).bind λr6=>some ((r6,r5.2))) else (bif r1.1 == 2 then ((fQ u r1.2 5).bind λr7=>(c9 (decide (((([112]:List Int)).length+r7.1.length)*1<=140737488355328))).bind λ_=>(aX u r7.2 3).bind λr9=>(aX u r9.2 9).bind λr10=>(lh u (aQ .i64 1 r9.1) r10.1 ((([112]:List Int))++r7.1)).bind λr11=>some ((r11,r10.2))) else ((aX u r1.2 3).bind λr12=>some (((fz.mk 4 r12.1 ((ag.mk 0 0 0 ([]))) 0 0 0 ([])),r12.2)))))
def pm(u:Nat)(p0 p1:ag):Option Bool :=
  bif p0.aS == p1.aS then (bif p0.aw == p1.aw then (bif p0.aY == p1.aY then ((kT u p0.aC p1.aC).bind λr1=>some r1) else (some false)) else (some false)) else (some false)
def nR(u:Nat)(r1 x2:Bool)(p0:fz):Option Bool :=
  bif p0.bK == 1 then (bif p0.aS == 0 then (bif p0.aD.aS != 0 then ((gI u p0.aD).bind λr3=>bif r3 then (some x2) else (some false)) else (some false)) else (some false)) else (bif p0.bK == 2 then ((bG u p0.aS 0 1000000).bind λr4=>bif r4 then (bif r1 then ((dL u p0.ck).bind λr5=>bif r5 then ((dL u p0.cq).bind λr6=>bif r6 then (bif p0.fI == 0 then (some (((p0.fB.length:Int)) == 0)) else (some false)) else (some false)) else (some false)) else (some false)) else (some false)) else (bif p0.bK == 3 then ((bG u p0.aS 1 1000000).bind λr7=>bif r7 then (bif r1 then (bif p0.ck == 0 then (bif p0.cq == 0 then ((bG u p0.fI 0 39).bind λr8=>bif r8 then ((bG u ((p0.fB.length:Int)) 1 6).bind λr9=>some r9) else (some false)) else (some false)) else (some false)) else (some false)) else (some false)) else (bif p0.bK == 4 then ((bG u p0.aS 0 1000000).bind λr10=>bif r10 then (bif r1 then (some x2) else (some false)) else (some false)) else (some false))))
def tG(u:Nat)(p0:fz):Option Bool :=
  (pm u p0.aD ((ag.mk 0 0 0 ([])))).bind λr1=>bif p0.ck == 0 then (bif p0.cq == 0 then (bif p0.fI == 0 then (nR u r1 (((p0.fB.length:Int)) == 0) p0) else (nR u r1 false p0)) else (nR u r1 false p0)) else (nR u r1 false p0)
def se(u:Nat)(x9:Int)(x10:List Int):Option ((List Int)) :=
  (c9 (decide ((x10.length+(([IntKind.wrap .u8 x9]:List Int)).length)*1<=140737488355328))).bind λ_=>some (x10++(([IntKind.wrap .u8 x9]:List Int)))
def kw(u km:Nat)(x5:Int)(x6:List Int):Option ((List Int)):=match km with
  | 0=>none
  | km+1=>bif decide (x5 > 127) then ((c9 (decide ((x6.length+(([IntKind.wrap .u8 (vL .i64 (gE .i64 x5 127) 128)]:List Int)).length)*1<=140737488355328))).bind λ_=>(λz0 z1=>kw u km z0 z1) (rJ .i64 x5 7) (x6++(([IntKind.wrap .u8 (vL .i64 (gE .i64 x5 127) 128)]:List Int)))) else (se u x5 x6)
def dD(u:Nat)(p0:List Int)(p1:Int):Option ((List Int)) :=
  (c9 (decide (((([]:List Int)).length+p0.length)*1<=140737488355328))).bind λ_=>(bG u p1 0 1000000000000).bind λr2=>bif !r2 then (some ((([]:List Int))++p0)) else (kw u u p1 ((([]:List Int))++p0))
def po(u:Nat)(x7:List Int)(x8:Int):Option ((List Int)) :=
  (c9 (decide ((x7.length+(([IntKind.wrap .u8 x8]:List Int)).length)*1<=140737488355328))).bind λ_=>some (x7++(([IntKind.wrap .u8 x8]:List Int)))
def il(u iz:Nat)(x3:List Int)(x4:Int):Option ((List Int)):=match iz with
  | 0=>none
  | iz+1=>bif decide (x4 > 127) then ((c9 (decide ((x3.length+(([IntKind.wrap .u8 (vL .i64 (gE .i64 x4 127) 128)]:List Int)).length)*1<=140737488355328))).bind λ_=>(λz0 z1=>il u iz z0 z1) (x3++(([IntKind.wrap .u8 (vL .i64 (gE .i64 x4 127) 128)]:List Int))) (rJ .i64 x4 7)) else (po u x3 x4)
def qi(u:Nat)(p0:List Int)(p1:Int):Option ((List Int)) :=
  il u u p0 p1
def wd(u:Nat)(x14:List Int):Option ((List Int)) :=
  some x14
def ma(u kl:Nat)(x8:List Int)(x9:Int)(p1:ag):Option ((List Int)):=match kl with
  | 0=>none
  | kl+1=>bif decide (x9 < ((p1.aC.length:Int))) then ((c6 p1.aC x9).bind λy12=>(qi u x8 y12.fS).bind λr13=>(λz0 z1 z2=>ma u kl z0 z1 z2) r13 (aQ .i64 x9 1) p1) else (wd u x8)
def uo(u:Nat)(p0:List Int)(p1:ag):Option ((List Int)) :=
  (c9 (decide (((([]:List Int)).length+p0.length)*1<=140737488355328))).bind λ_=>(gI u p1).bind λr2=>bif !r2 then (some ((([]:List Int))++p0)) else ((dD u ((([]:List Int))++p0) p1.aS).bind λr3=>(dD u r3 p1.aw).bind λr4=>(dD u r4 p1.aY).bind λr5=>ma u u r5 0 p1)
def yk(u:Nat)(p1:ag)(s:(List Int)):Option ((List Int)):=(wd u s)
def tH(u:Nat)(p1:ag)(y12:cn)(i_:Nat)(s:(List Int))(k_:((List Int))->Option ((List Int))):Option ((List Int)):=(qi u s y12.fS).bind λr13=>(λz0 z1 z2=>k_ z0) r13 (aQ .i64 (i_:Int) 1) p1
theorem FH(u:Nat)(p1:ag)(s:(List Int))(k:Nat)(hn:p1.aC.length<=9223372036854775807)(hk:p1.aC.length < k):ma u k s 0 p1=Pu.bP (yk u p1) (tH u p1) p1.aC 0 s:=Pu.dh (λ(k:Nat) (s:(List Int)) (i:Int)=>ma u k s i p1) hn (λ_ _ _=>rfl) s hk
def sf(u:Nat)(p0:Int):Option (Int×Int) :=
  some ((gE .i64 p0 1048575,rJ .i64 p0 20))
def vE(u:Nat)(p0 p1:List Int):Option ((List Int)) :=
  (dD u p0 ((p1.length:Int))).bind λr1=>(c9 (decide ((r1.length+p1.length)*1<=140737488355328))).bind λ_=>some (r1++p1)
def iN(u:Nat)(x15:List Int):Option ((List Int)) :=
  (mN u x15).bind λr16=>(dD u x15 r16).bind λr17=>some r17
def mQ(u:Nat)(p0:fz):Option ((List Int)) :=
  (tG u p0).bind λr1=>bif !r1 then (some (([]:List Int))) else ((dD u (([]:List Int)) p0.bK).bind λr2=>bif p0.bK == 1 then ((uo u r2 p0.aD).bind λr3=>iN u r3) else (bif p0.bK == 2 then ((sf u p0.ck).bind λr4=>(dD u r2 p0.aS).bind λr5=>(dD u r5 r4.1).bind λr6=>(dD u r6 r4.2).bind λr7=>(sf u p0.cq).bind λr8=>(dD u r7 r8.1).bind λr9=>(dD u r9 r8.2).bind λr10=>iN u r10) else (bif p0.bK == 3 then ((dD u r2 p0.aS).bind λr11=>(dD u r11 p0.fI).bind λr12=>(vE u r12 p0.fB).bind λr13=>iN u r13) else ((dD u r2 p0.aS).bind λr14=>iN u r14))))
def sg(u:Nat)  : Option (Int×Int×Bool) :=
  some ((0,0,false))
def oE(u:Nat)(mJ:(List Int)->Int->Int->Int->Option (Int×Int×Bool))(p0:List Int)(p1 x3:Int)(y8 x4:Int)(x10:Bool):Option (Int×Int×Bool) :=
  bif x10 then (some ((0,0,false))) else (some ((vL .i64 x3 (iT .i64 (gE .i64 (IntKind.wrap .i64 y8) 127) (jC .i64 7 x4)),aQ .i64 (aQ .i64 p1 x4) 1,true)))
def kx(u:Nat)(mJ:(List Int)->Int->Int->Int->Option (Int×Int×Bool))(p0:List Int)(p1 x3 x4:Int)(x7:Bool):Option (Int×Int×Bool) :=
  bif x7 then (some ((0,0,false))) else ((c6 p0 (aQ .i64 p1 x4)).bind λy8=>(c9 (decide (0<=(jC .i64 7 x4)))).bind λ_=>bif decide ((IntKind.wrap .i64 y8) < 128) then (bif (IntKind.wrap .i64 y8) == 0 then (bif decide (x4 > 0) then (oE u mJ p0 p1 x3 y8 x4 true) else (oE u mJ p0 p1 x3 y8 x4 (decide ((vL .i64 x3 (iT .i64 (gE .i64 (IntKind.wrap .i64 y8) 127) (jC .i64 7 x4))) > 1000000000000)))) else (oE u mJ p0 p1 x3 y8 x4 (decide ((vL .i64 x3 (iT .i64 (gE .i64 (IntKind.wrap .i64 y8) 127) (jC .i64 7 x4))) > 1000000000000)))) else (mJ p0 p1 (vL .i64 x3 (iT .i64 (gE .i64 (IntKind.wrap .i64 y8) 127) (jC .i64 7 x4))) (aQ .i64 x4 1)))
def dd(u eY:Nat)(p0:List Int)(p1 x3 x4:Int):Option (Int×Int×Bool):=match eY with
  | 0=>none
  | eY+1=>bif decide (x4 < 6) then (bif decide (p1 < 0) then (kx u (λz0 z1 z2 z3=>dd u eY z0 z1 z2 z3) p0 p1 x3 x4 true) else (kx u (λz0 z1 z2 z3=>dd u eY z0 z1 z2 z3) p0 p1 x3 x4 (decide (p1>=(dM .i64 ((p0.length:Int)) x4))))) else (sg u)
def fi(u:Nat)(p0:List Int)(p1:Int):Option (Int×Int×Bool) :=
  dd u u p0 p1 0 0
def FI(u:Nat)(p0:List Int)(p1 s:Int):Option (Int×Int×Bool):=(sg u)
def FJ(u:Nat)(p0:List Int)(p1:Int)(i_:Nat)(s:Int)(k_:Int->Option (Int×Int×Bool)):Option (Int×Int×Bool):=bif decide (p1 < 0) then (kx u (λz0 z1 z2 z3=>k_ z2) p0 p1 s (i_:Int) true) else (kx u (λz0 z1 z2 z3=>k_ z2) p0 p1 s (i_:Int) (decide (p1>=(dM .i64 ((p0.length:Int)) (i_:Int)))))
theorem RW(u:Nat)(p0:List Int)(p1 s:Int)(k:Nat)(hn:(6:Int)<=9223372036854775807)(hk:sX (6) < k):dd u k p0 p1 s 0=Pu.lS (FI u p0 p1) (FJ u p0 p1) (sX (6)) 0 s:=Pu.mB (λ(k:Nat) (s i:Int)=>dd u k p0 p1 s i) hn (λ_ _ _=>rfl) s hk
def pp(u:Nat)  : Option (Int×Int×Bool) :=
  some ((0,0,false))
def eV(u iy:Nat)(p0:List Int)(p1 x3 x4:Int):Option (Int×Int×Bool):=match iy with
  | 0=>none
  | iy+1=>bif decide (x4 < 8) then (bif decide (p1>=(dM .i64 ((p0.length:Int)) x4)) then (some ((0,0,false))) else ((c6 p0 (aQ .i64 p1 x4)).bind λy7=>(c9 (decide (0<=(jC .i64 7 x4)))).bind λ_=>bif decide ((IntKind.wrap .i64 y7) < 128) then (bif decide ((IntKind.wrap .i64 y7) > 0) then (some ((vL .i64 x3 (iT .i64 (gE .i64 (IntKind.wrap .i64 y7) 127) (jC .i64 7 x4)),aQ .i64 (aQ .i64 p1 x4) 1,true))) else (some ((vL .i64 x3 (iT .i64 (gE .i64 (IntKind.wrap .i64 y7) 127) (jC .i64 7 x4)),aQ .i64 (aQ .i64 p1 x4) 1,x4 == 0)))) else ((λz0 z1 z2 z3=>eV u iy z0 z1 z2 z3) p0 p1 (vL .i64 x3 (iT .i64 (gE .i64 (IntKind.wrap .i64 y7) 127) (jC .i64 7 x4))) (aQ .i64 x4 1)))) else (pp u)
def qj(u:Nat)(p0:List Int)(p1:Int):Option (Int×Int×Bool) :=
  eV u u p0 p1 0 0
def CZ(u:Nat)(p0:List Int)(p1 s:Int):Option (Int×Int×Bool):=(pp u)
def C0(u:Nat)(p0:List Int)(p1:Int)(i_:Nat)(s:Int)(k_:Int->Option (Int×Int×Bool)):Option (Int×Int×Bool):=bif decide (p1>=(dM .i64 ((p0.length:Int)) (i_:Int))) then (some ((0,0,false))) else ((c6 p0 (aQ .i64 p1 (i_:Int))).bind λy7=>(c9 (decide (0<=(jC .i64 7 (i_:Int))))).bind λ_=>bif decide ((IntKind.wrap .i64 y7) < 128) then (bif decide ((IntKind.wrap .i64 y7) > 0) then (some ((vL .i64 s (iT .i64 (gE .i64 (IntKind.wrap .i64 y7) 127) (jC .i64 7 (i_:Int))),aQ .i64 (aQ .i64 p1 (i_:Int)) 1,true))) else (some ((vL .i64 s (iT .i64 (gE .i64 (IntKind.wrap .i64 y7) 127) (jC .i64 7 (i_:Int))),aQ .i64 (aQ .i64 p1 (i_:Int)) 1,(i_:Int) == 0)))) else ((λz0 z1 z2 z3=>k_ z2) p0 p1 (vL .i64 s (iT .i64 (gE .i64 (IntKind.wrap .i64 y7) 127) (jC .i64 7 (i_:Int)))) (aQ .i64 (i_:Int) 1)))
theorem P6(u:Nat)(p0:List Int)(p1 s:Int)(k:Nat)(hn:(8:Int)<=9223372036854775807)(hk:sX (8) < k):eV u k p0 p1 s 0=Pu.lS (CZ u p0 p1) (C0 u p0 p1) (sX (8)) 0 s:=Pu.mB (λ(k:Nat) (s i:Int)=>eV u k p0 p1 s i) hn (λ_ _ _=>rfl) s hk
def kz(u:Nat)(x19:Int)(r1 r2 r3:Int×Int×Bool)(x20:List cn):Option (ag×Int×Bool) :=
  (gI u ((ag.mk r1.1 r2.1 r3.1 x20))).bind λr21=>bif !r21 then (some (((ag.mk 0 0 0 ([])),0,false))) else (some (((ag.mk r1.1 r2.1 r3.1 x20),x19,true)))
def gK(u:Nat)(G5:(List Int)->(Int×Int×Bool)->(Int×Int×Bool)->(Int×Int×Bool)->Int->Int->(List cn)->Option (ag×Int×Bool))(p0:List Int)(r1 r2 r3:Int×Int×Bool)(x8 x9:Int)(x15:Bool)(x10:List cn):Option (ag×Int×Bool) :=
  bif x15 then ((qj u p0 x8).bind λr16=>bif !r16.2.2 then (some (((ag.mk 0 0 0 ([])),0,false))) else ((mU u r16.1).bind λr17=>(gj u r17.1).bind λr18=>(c9 (decide ((x10.length+([(cn.mk r18.fW r16.1)]).length)*16<=140737488355328))).bind λ_=>G5 p0 r1 r2 r3 r16.2.1 (aQ .i64 x9 1) (x10++([(cn.mk r18.fW r16.1)])))) else (kz u x8 r1 r2 r3 x10)
def cH(u dc:Nat)(p0:List Int)(r1 r2 r3:Int×Int×Bool)(x8 x9:Int)(x10:List cn):Option (ag×Int×Bool):=match dc with
  | 0=>none
  | dc+1=>(lc u r2.1 r3.1).bind λr14=>bif decide (x9 < r14) then (gK u (λz0 z1 z2 z3 z4 z5 z6=>cH u dc z0 z1 z2 z3 z4 z5 z6) p0 r1 r2 r3 x8 x9 (decide (r1.1 > 0)) x10) else (gK u (λz0 z1 z2 z3 z4 z5 z6=>cH u dc z0 z1 z2 z3 z4 z5 z6) p0 r1 r2 r3 x8 x9 false x10)
def mb(u:Nat)(p0:List Int)(r1 r2 r3:Int×Int×Bool)(x4:Bool):Option (ag×Int×Bool) :=
  bif x4 then (some (((ag.mk 0 0 0 ([])),0,false))) else (cH u u p0 r1 r2 r3 r3.2.1 0 ([]))
def oF(u:Nat)(p0:List Int)(p1:Int):Option (ag×Int×Bool) :=
  (fi u p0 p1).bind λr1=>(fi u p0 r1.2.1).bind λr2=>(fi u p0 r2.2.1).bind λr3=>bif !r1.2.2 then (mb u p0 r1 r2 r3 true) else (bif !r2.2.2 then (mb u p0 r1 r2 r3 true) else (mb u p0 r1 r2 r3 (!r3.2.2)))
def kV(u:Nat)(p0:List Int)(r1:Int×Int×Bool)(x2:Bool):Option ((List Int)×Int×Bool) :=
  bif x2 then (some ((([]:List Int),0,false))) else ((c9 (cy r1.2.1 (aQ .i64 r1.2.1 r1.1) p0.length)).bind λ_=>(c9 (decide (((([]:List Int)).length+((p0.take (sX (aQ .i64 r1.2.1 r1.1))).drop (sX r1.2.1)).length)*1<=140737488355328))).bind λ_=>some (((([]:List Int))++((p0.take (sX (aQ .i64 r1.2.1 r1.1))).drop (sX r1.2.1)),aQ .i64 r1.2.1 r1.1,true)))
def mX(u:Nat)(p0:List Int)(p1 p2:Int):Option ((List Int)×Int×Bool) :=
  (fi u p0 p1).bind λr1=>bif !r1.2.2 then (kV u p0 r1 true) else (bif decide (r1.1 > p2) then (kV u p0 r1 true) else (kV u p0 r1 (decide (r1.1 > (dM .i64 ((p0.length:Int)) r1.2.1)))))
def nv(u:Nat)(x20 p2:Int)(r2:Int×Int×Bool)(x21 x22:Int):Option (fz×Int×Bool) :=
  some (((fz.mk p2 r2.1 ((ag.mk 0 0 0 ([]))) x21 x22 0 ([])),x20,true))
def nw(u:Nat)(x14:Int)(x15:List Int)(p2:Int)(r2:Int×Int×Bool):Option (fz×Int×Bool) :=
  (c6 x15 0).bind λy16=>(c6 x15 1).bind λy17=>(c6 x15 2).bind λy18=>(c6 x15 3).bind λy19=>nv u x14 p2 r2 (aQ .i64 y16 (iT .i64 y17 20)) (aQ .i64 y18 (iT .i64 y19 20))
def jt(u:Nat)(Fz:(List Int)->Int->(List Int)->Int->Int->(Int×Int×Bool)->Option (fz×Int×Bool))(p0:List Int)(x6:Int)(x7:List Int)(x8:Int)(r12:Int×Int×Bool)(x13:Bool)(p2:Int)(r2:Int×Int×Bool):Option (fz×Int×Bool) :=
  bif x13 then (some (((fz.mk p2 r2.1 ((ag.mk 0 0 0 ([]))) 0 0 0 ([])),0,false))) else ((c9 (decide ((x7.length+(([r12.1]:List Int)).length)*8<=140737488355328))).bind λ_=>Fz p0 r12.2.1 (x7++(([r12.1]:List Int))) (aQ .i64 x8 1) p2 r2)
def ci(u cX:Nat)(p0:List Int)(x6:Int)(x7:List Int)(x8 p2:Int)(r2:Int×Int×Bool):Option (fz×Int×Bool):=match cX with
  | 0=>none
  | cX+1=>bif decide (x8 < 4) then ((fi u p0 x6).bind λr12=>bif !r12.2.2 then (jt u (λz0 z1 z2 z3 z4 z5=>ci u cX z0 z1 z2 z3 z4 z5) p0 x6 x7 x8 r12 true p2 r2) else (jt u (λz0 z1 z2 z3 z4 z5=>ci u cX z0 z1 z2 z3 z4 z5) p0 x6 x7 x8 r12 (decide (r12.1>=1048576)) p2 r2)) else (nw u x6 x7 p2 r2)
def dT(u:Nat)(p0:List Int)(p1 p2:Int):Option (fz×Int×Bool) :=
  bif p2 == 1 then ((oF u p0 p1).bind λr1=>some (((fz.mk p2 0 r1.1 0 0 0 ([])),r1.2.1,r1.2.2))) else ((fi u p0 p1).bind λr2=>bif !r2.2.2 then (some (((fz.mk p2 r2.1 ((ag.mk 0 0 0 ([]))) 0 0 0 ([])),0,false))) else (bif p2 == 2 then (ci u u p0 r2.2.1 (([]:List Int)) 0 p2 r2) else (bif p2 == 3 then ((fi u p0 r2.2.1).bind λr13=>(mX u p0 r13.2.1 6).bind λr14=>bif r13.2.2 then (some (((fz.mk p2 r2.1 ((ag.mk 0 0 0 ([]))) 0 0 r13.1 r14.1),r14.2.1,r14.2.2))) else (some (((fz.mk p2 r2.1 ((ag.mk 0 0 0 ([]))) 0 0 r13.1 r14.1),r14.2.1,false)))) else (nv u r2.2.1 p2 r2 0 0))))
def DY(u:Nat)(p0:List Int)(p2:Int)(r2:Int×Int×Bool)(s:Int×(List Int)):Option (fz×Int×Bool):=(nw u s.1 s.2 p2 r2)
def DZ(u:Nat)(p0:List Int)(p2:Int)(r2:Int×Int×Bool)(i_:Nat)(s:Int×(List Int))(k_:(Int×(List Int))->Option (fz×Int×Bool)):Option (fz×Int×Bool):=(fi u p0 s.1).bind λr12=>bif !r12.2.2 then (jt u (λz0 z1 z2 z3 z4 z5=>k_ (z1,z2)) p0 s.1 s.2 (i_:Int) r12 true p2 r2) else (jt u (λz0 z1 z2 z3 z4 z5=>k_ (z1,z2)) p0 s.1 s.2 (i_:Int) r12 (decide (r12.1>=1048576)) p2 r2)
theorem Rh(u:Nat)(p0:List Int)(p2:Int)(r2:Int×Int×Bool)(s:Int×(List Int))(k:Nat)(hn:(4:Int)<=9223372036854775807)(hk:sX (4) < k):ci u k p0 s.1 s.2 0 p2 r2=Pu.lS (DY u p0 p2 r2) (DZ u p0 p2 r2) (sX (4)) 0 s:=Pu.mB (λ(k:Nat) (s:Int×(List Int)) (i:Int)=>ci u k p0 s.1 s.2 i p2 r2) hn (λ_ _ _=>rfl) s hk
def mc(u:Nat)(x9:Bool)(r3:fz×Int×Bool):Option (fz×Bool) :=
  bif x9 then (some (((fz.mk 0 0 ((ag.mk 0 0 0 ([]))) 0 0 0 ([])),false))) else (some ((r3.1,true)))
def oG(u:Nat)(p0:List Int)(r3:fz×Int×Bool)(x5:Bool):Option (fz×Bool) :=
  bif x5 then (some (((fz.mk 0 0 ((ag.mk 0 0 0 ([]))) 0 0 0 ([])),false))) else ((fi u p0 r3.2.1).bind λr6=>bif !r6.2.2 then (mc u true r3) else (bif r6.2.1 != ((p0.length:Int)) then (mc u true r3) else ((c9 (cy 0 r3.2.1 p0.length)).bind λ_=>(mN u ((p0.take (sX r3.2.1)).drop (sX 0))).bind λr8=>mc u (r6.1 != r8) r3)))
def oH(u:Nat)(p0:List Int)(r1:Int×Int×Bool)(x2:Bool):Option (fz×Bool) :=
  bif x2 then (some (((fz.mk 0 0 ((ag.mk 0 0 0 ([]))) 0 0 0 ([])),false))) else ((dT u p0 r1.2.1 r1.1).bind λr3=>bif !r3.2.2 then (oG u p0 r3 true) else ((tG u r3.1).bind λr4=>oG u p0 r3 (!r4)))
def jI(u:Nat)(p0:List Int):Option (fz×Bool) :=
  (fi u p0 0).bind λr1=>bif !r1.2.2 then (oH u p0 r1 true) else (oH u p0 r1 (decide (((p0.length:Int)) > 400)))
def oI(u:Nat)(p0 p1:List Int):Option Bool :=
  some ((strOfNums p0).toList == (strOfNums p1).toList)
def tI(u:Nat)  : Option Bool :=
  some false
def im(u iu:Nat)(x4:Int)(p0:World)(p1:cG):Option Bool:=match iu with
  | 0=>none
  | iu+1=>bif decide (x4 < ((p0.bE.length:Int))) then ((c6 p0.bE x4).bind λy6=>(oI u y6.fB p1.fP.fB).bind λr7=>bif r7 then (some true) else ((λz0 z1 z2=>im u iu z0 z1 z2) (aQ .i64 x4 1) p0 p1)) else (tI u)
def jZ(u:Nat)(x2:Bool)(p0:World)(p1:cG):Option Bool :=
  bif x2 then (some true) else (im u u 0 p0 p1)
def nS(u:Nat)(p0:World)(p1:cG):Option Bool :=
  bif p1.bK != 7 then (some true) else ((jI u p1.fP.fB).bind λr1=>bif !r1.2 then (jZ u true p0 p1) else (bif r1.1.bK == 4 then (jZ u true p0 p1) else (jZ u (r1.1.bK == 3) p0 p1)))
def we(u:Nat)(p0:World)(p1:cG)(s:Unit):Option Bool:=(tI u)
def ro(u:Nat)(p0:World)(p1:cG)(y6:ak)(i_:Nat)(s:Unit)(k_:Unit->Option Bool):Option Bool:=(oI u y6.fB p1.fP.fB).bind λr7=>bif r7 then (some true) else ((λz0 z1 z2=>k_ ()) (aQ .i64 (i_:Int) 1) p0 p1)
theorem C1(u:Nat)(p0:World)(p1:cG)(s:Unit)(k:Nat)(hn:p0.bE.length<=9223372036854775807)(hk:p0.bE.length < k):im u k 0 p0 p1=Pu.bP (we u p0 p1) (ro u p0 p1) p0.bE 0 s:=Pu.dh (λ(k:Nat) (s:Unit) (i:Int)=>im u k i p0 p1) hn (λ_ _ _=>rfl) s hk
def qQ(u:Nat)(x17 x18:List Int)(x19 x20:Int):Option ((List Int)×aG) :=
  some ((x17,(aG.mk x18 x19 x20)))
def fV(u jo:Nat)(p1:Int)(x6:List Int)(x7:Int)(x8:List Int)(x9 x10:Int):Option ((List Int)×aG):=match jo with
  | 0=>none
  | jo+1=>bif decide (x7 < p1) then ((jG u ((aG.mk x8 x9 x10))).bind λr16=>(c9 (decide ((x6.length+(([IntKind.wrap .u8 r16.1]:List Int)).length)*1<=140737488355328))).bind λ_=>(λz0 z1 z2 z3 z4 z5=>fV u jo z0 z1 z2 z3 z4 z5) p1 (x6++(([IntKind.wrap .u8 r16.1]:List Int))) (aQ .i64 x7 1) r16.2.fB r16.2.fI r16.2.fH) else (qQ u x6 x8 x9 x10)
def vF(u:Nat)(p0:aG)(p1:Int):Option ((List Int)×aG) :=
  fV u u p1 (([]:List Int)) 0 p0.fB p0.fI p0.fH
def D1(u:Nat)(p1:Int)(s:(List Int)×(List Int)×Int×Int):Option ((List Int)×aG):=(qQ u s.1 s.2.1 s.2.2.1 s.2.2.2)
def D2(u:Nat)(p1:Int)(i_:Nat)(s:(List Int)×(List Int)×Int×Int)(k_:((List Int)×(List Int)×Int×Int)->Option ((List Int)×aG)):Option ((List Int)×aG):=(jG u ((aG.mk s.2.1 s.2.2.1 s.2.2.2))).bind λr16=>(c9 (decide ((s.1.length+(([IntKind.wrap .u8 r16.1]:List Int)).length)*1<=140737488355328))).bind λ_=>(λz0 z1 z2 z3 z4 z5=>k_ (z1,z3,z4,z5)) p1 (s.1++(([IntKind.wrap .u8 r16.1]:List Int))) (aQ .i64 (i_:Int) 1) r16.2.fB r16.2.fI r16.2.fH
theorem Ri(u:Nat)(p1:Int)(s:(List Int)×(List Int)×Int×Int)(k:Nat)(hn:(p1:Int)<=9223372036854775807)(hk:sX (p1) < k):fV u k p1 s.1 0 s.2.1 s.2.2.1 s.2.2.2=Pu.lS (D1 u p1) (D2 u p1) (sX (p1)) 0 s:=Pu.mB (λ(k:Nat) (s:(List Int)×(List Int)×Int×Int) (i:Int)=>fV u k p1 s.1 i s.2.1 s.2.2.1 s.2.2.2) hn (λ_ _ _=>rfl) s hk
def pq(u:Nat)(x20:List Int)(x21 x22:Int)(r1 r2:Int×aG)(x24:List Int):Option (cG×aG) :=
  some (((cG.mk 7 0 0 ((ak.mk r1.1 r2.1 x24))),(aG.mk x20 x21 x22)))
def md(u:Nat)(r1 r2:Int×aG)(x19:List Int)(p1:World)(x20:List Int)(x21 x22:Int):Option (cG×aG) :=
  (nS u p1 ((cG.mk 7 0 0 ((ak.mk r1.1 r2.1 x19))))).bind λr23=>bif !r23 then (pq u x20 x21 x22 r1 r2 (([]:List Int))) else (pq u x20 x21 x22 r1 r2 x19)
def mf(u:Nat)(r1 r2:Int×aG)(x13:List Int)(p1:World)(x14:List Int)(x15 x16:Int):Option (cG×aG) :=
  (nS u p1 ((cG.mk 7 0 0 ((ak.mk r1.1 r2.1 x13))))).bind λr17=>bif !r17 then ((vF u ((aG.mk x14 x15 x16)) 3).bind λr18=>md u r1 r2 r18.1 p1 r18.2.fB r18.2.fI r18.2.fH) else (md u r1 r2 x13 p1 x14 x15 x16)
def mg(u:Nat)(x6:Bool)(r1 r2:Int×aG)(r4:(List Int))(p1:World)(x7:List Int)(x8 x9:Int):Option (cG×aG) :=
  bif x6 then ((aX u ((aG.mk x7 x8 x9)) ((p1.bE.length:Int))).bind λr10=>(c6 p1.bE r10.1).bind λy11=>(mM u r10.2 y11.fB).bind λr12=>mf u r1 r2 r12.1 p1 r12.2.fB r12.2.fI r12.2.fH) else (mf u r1 r2 r4 p1 x7 x8 x9)
def qk(u:Nat)(p0:aG)(p1:World):Option (cG×aG) :=
  (aX u p0 ((p1.fN.length:Int))).bind λr1=>(aX u r1.2 ((p1.fN.length:Int))).bind λr2=>(rZ u r2.2).bind λr3=>(mQ u r3.1).bind λr4=>bif decide (((p1.bE.length:Int)) > 0) then ((gZ u r3.2 2).bind λr5=>mg u r5.1 r1 r2 r4 p1 r5.2.fB r5.2.fI r5.2.fH) else (mg u false r1 r2 r4 p1 r3.2.fB r3.2.fI r3.2.fH)
def nx(u:Nat)(r1:Int×aG)(x6:Bool)(p1:World)(x7:List Int)(x8 x9:Int):Option (cG×aG) :=
  bif x6 then ((rk u ((p1.bE.length:Int)) 4).bind λr10=>(aX u ((aG.mk x7 x8 x9)) r10).bind λr11=>(aX u r11.2 12).bind λr12=>bif r12.1 == 0 then (some (((cG.mk 3 r11.1 0 ((ak.mk 0 0 ([])))),r12.2))) else (bif r12.1 == 1 then (some (((cG.mk 4 r11.1 0 ((ak.mk 0 0 ([])))),r12.2))) else (some (((cG.mk 2 r11.1 0 ((ak.mk 0 0 ([])))),r12.2))))) else (some (((cG.mk 1 r1.1 0 ((ak.mk 0 0 ([])))),(aG.mk x7 x8 x9))))
def si(u:Nat)(p0:aG)(p1:World):Option (cG×aG) :=
  (aX u p0 ((p1.fN.length:Int))).bind λr1=>(aX u r1.2 24).bind λr2=>bif r2.1 == 0 then ((c8 u r2.2 (([0,0,1,5,1099511627775,21]:List Int))).bind λr3=>some (((cG.mk 5 r1.1 r3.1 ((ak.mk 0 0 ([])))),r3.2))) else (bif r2.1 == 1 then (some (((cG.mk 6 r1.1 0 ((ak.mk 0 0 ([])))),r2.2))) else (bif r2.1 == 2 then ((qk u r2.2 p1).bind λr4=>some ((r4.1,r4.2))) else (bif decide (((p1.bE.length:Int)) > 0) then ((gZ u r2.2 3).bind λr5=>nx u r1 (!r5.1) p1 r5.2.fB r5.2.fI r5.2.fH) else (nx u r1 false p1 r2.2.fB r2.2.fI r2.2.fH))))
def wg(u:Nat)(x9:List bO):Option ((List bO)) :=
  some x9
def mh(u:Nat)(G3:(List bO)->Int->(List bO)->Int->Option ((List bO)))(p0:List bO)(p1:Int)(x8:List bO)(x4:Int):Option ((List bO)) :=
  G3 p0 p1 x8 (aQ .i64 x4 1)
def iO(u gu:Nat)(p0:List bO)(p1:Int)(x3:List bO)(x4:Int):Option ((List bO)):=match gu with
  | 0=>none
  | gu+1=>bif decide (x4 < ((p0.length:Int))) then ((c6 p0 x4).bind λy7=>bif decide (y7.wW>=p1) then (mh u (λz0 z1 z2 z3=>iO u gu z0 z1 z2 z3) p0 p1 x3 x4) else ((c9 (decide ((x3.length+([(bO.mk y7.ov y7.ck y7.cq (aQ .i64 y7.wW 1) 0)]).length)*40<=140737488355328))).bind λ_=>mh u (λz0 z1 z2 z3=>iO u gu z0 z1 z2 z3) p0 p1 (x3++([(bO.mk y7.ov y7.ck y7.cq (aQ .i64 y7.wW 1) 0)])) x4)) else (wg u x3)
def uq(u:Nat)(p0:List bO)(p1:Int):Option ((List bO)) :=
  iO u u p0 p1 (([]:List bO)) 0
def FK(u:Nat)(p0:List bO)(p1:Int)(s:(List bO)):Option ((List bO)):=(wg u s)
def ym(u:Nat)(p0:List bO)(p1:Int)(y7:bO)(i_:Nat)(s:(List bO))(k_:((List bO))->Option ((List bO))):Option ((List bO)):=bif decide (y7.wW>=p1) then (mh u (λz0 z1 z2 z3=>k_ z2) p0 p1 s (i_:Int)) else ((c9 (decide ((s.length+([(bO.mk y7.ov y7.ck y7.cq (aQ .i64 y7.wW 1) 0)]).length)*40<=140737488355328))).bind λ_=>mh u (λz0 z1 z2 z3=>k_ z2) p0 p1 (s++([(bO.mk y7.ov y7.ck y7.cq (aQ .i64 y7.wW 1) 0)])) (i_:Int))
theorem FL(u:Nat)(p0:List bO)(p1:Int)(s:(List bO))(k:Nat)(hn:p0.length<=9223372036854775807)(hk:p0.length < k):iO u k p0 p1 s 0=Pu.bP (FK u p0 p1) (ym u p0 p1) p0 0 s:=Pu.dh (λ(k:Nat) (s:(List bO)) (i:Int)=>iO u k p0 p1 s i) hn (λ_ _ _=>rfl) s hk
def sj(u:Nat)(x11:List Int):Option ((List Int)) :=
  some x11
def oJ(u:Nat)(G6:Int->(List Int)->cF->Option ((List Int)))(x3:Int)(x4:List Int)(x8:Bool)(p0:cF):Option ((List Int)) :=
  bif x8 then ((c9 (decide ((x4.length+(([x3]:List Int)).length)*8<=140737488355328))).bind λ_=>(c6 p0.cf x3).bind λy10=>G6 y10 (x4++(([x3]:List Int))) p0) else (sj u x4)
def gL(u gy:Nat)(x3:Int)(x4:List Int)(p0:cF):Option ((List Int)):=match gy with
  | 0=>none
  | gy+1=>(bG u x3 0 (dM .i64 ((p0.cf.length:Int)) 1)).bind λr7=>bif r7 then (oJ u (λz0 z1 z2=>gL u gy z0 z1 z2) x3 x4 (decide (((x4.length:Int)) < ((p0.cf.length:Int)))) p0) else (oJ u (λz0 z1 z2=>gL u gy z0 z1 z2) x3 x4 false p0)
def ur(u:Nat)(p0:cF)(p1:Int):Option ((List Int)) :=
  gL u u p1 (([]:List Int)) p0
def wh(u:Nat)  : Option Bool :=
  some false
def mi(u kp:Nat)(p0:List Int)(p1 x2:Int):Option Bool:=match kp with
  | 0=>none
  | kp+1=>bif decide (x2 < ((p0.length:Int))) then ((c6 p0 x2).bind λy4=>bif y4 == p1 then (some true) else ((λz0 z1 z2=>mi u kp z0 z1 z2) p0 p1 (aQ .i64 x2 1))) else (wh u)
def ut(u:Nat)(p0:List Int)(p1:Int):Option Bool :=
  mi u u p0 p1 0
def yn(u:Nat)(p0:List Int)(p1:Int)(s:Unit):Option Bool:=(wh u)
def tJ(u:Nat)(p0:List Int)(p1 y4:Int)(i_:Nat)(s:Unit)(k_:Unit->Option Bool):Option Bool:=bif y4 == p1 then (some true) else ((λz0 z1 z2=>k_ ()) p0 p1 (aQ .i64 (i_:Int) 1))
theorem FM(u:Nat)(p0:List Int)(p1:Int)(s:Unit)(k:Nat)(hn:p0.length<=9223372036854775807)(hk:p0.length < k):mi u k p0 p1 0=Pu.bP (yn u p0 p1) (tJ u p0 p1) p0 0 s:=Pu.dh (λ(k:Nat) (s:Unit) (i:Int)=>mi u k p0 p1 i) hn (λ_ _ _=>rfl) s hk
def ql(u:Nat)(p0:cF)(p1 p2:Int):Option Bool :=
  bif p1 != p2 then ((ur u p0 p2).bind λr1=>(ut u r1 p1).bind λr2=>some r2) else (some false)
def pr(u:Nat)(p1 p2:Int)(x5:Bool)(p0:cF):Option Int :=
  bif x5 then ((c6 p0.cf p1).bind λy6=>some y6) else ((c6 p0.cf p2).bind λy7=>some y7)
def pt(u:Nat)(p1 p2:Int)(x3:Bool)(p0:cF):Option Int :=
  bif x3 then (some (-1)) else (bif decide (p2<=0) then (pr u p1 p2 true p0) else ((ql u p0 p2 p1).bind λr4=>pr u p1 p2 (!r4) p0))
def qm(u:Nat)(p0:cF)(p1 p2:Int):Option Int :=
  (oA u p0).bind λr1=>bif !r1 then (pt u p1 p2 true p0) else ((bG u p1 1 (dM .i64 ((p0.cf.length:Int)) 1)).bind λr2=>pt u p1 p2 (!r2) p0)
def mY(u:Nat)(p0:Int):Option Int :=
  (bG u p0 0 40).bind λr1=>bif !r1 then (some 0) else ((c9 (decide (0<=p0))).bind λ_=>some (dM .i64 (iT .i64 1 p0) 1))
def nT(u:Nat)(p0:ag):Option Int :=
  (mY u ((p0.aC.length:Int))).bind λr1=>some r1
def ny(u:Nat)(p0 p1:Int)(x3:Bool):Option Int :=
  bif x3 then (some 0) else (some (BY .i64 p0 p1))
def li(u:Nat)(p0 p1:Int):Option Int :=
  (dL u p0).bind λr1=>bif !r1 then (ny u p0 p1 true) else ((dL u p1).bind λr2=>ny u p0 p1 (!r2))
def wi(u:Nat)  : Option Bool :=
  some true
def mj(u ku:Nat)(p0:List Int)(x2:Int):Option Bool:=match ku with
  | 0=>none
  | ku+1=>bif decide (x2 < ((p0.length:Int))) then ((c6 p0 x2).bind λy4=>bif y4 != 0 then (some false) else ((λz0 z1=>mj u ku z0 z1) p0 (aQ .i64 x2 1))) else (wi u)
def mR(u:Nat)(p0:List Int):Option Bool :=
  mj u u p0 0
def FN(u:Nat)(p0:List Int)(s:Unit):Option Bool:=(wi u)
def yo(u:Nat)(p0:List Int)(y4:Int)(i_:Nat)(s:Unit)(k_:Unit->Option Bool):Option Bool:=bif y4 != 0 then (some false) else ((λz0 z1=>k_ ()) p0 (aQ .i64 (i_:Int) 1))
theorem FO(u:Nat)(p0:List Int)(s:Unit)(k:Nat)(hn:p0.length<=9223372036854775807)(hk:p0.length < k):mj u k p0 0=Pu.bP (FN u p0) (yo u p0) p0 0 s:=Pu.dh (λ(k:Nat) (s:Unit) (i:Int)=>mj u k p0 i) hn (λ_ _ _=>rfl) s hk
def uX(u:Nat)  : Option Bool :=
  some true
def dK(u:Nat)(Fw:Int->ag->bD->Option Bool)(x7:Int)(x18:Bool)(p0:ag)(p1:bD):Option Bool :=
  bif x18 then (some false) else (Fw (aQ .i64 x7 1) p0 p1)
def dX(u dk:Nat)(x7:Int)(p0:ag)(p1:bD):Option Bool:=match dk with
  | 0=>none
  | dk+1=>bif decide (x7 < ((p0.aC.length:Int))) then ((dB u p0.aw p0.aY x7).bind λr9=>(c9 (cy r9.1 (aQ .i64 r9.1 r9.2) p1.b4.length)).bind λ_=>(dS u p1.bj x7).bind λr11=>bif r11 then ((gj u ((p1.b4.take (sX (aQ .i64 r9.1 r9.2))).drop (sX r9.1))).bind λr12=>(c6 p0.aC x7).bind λy13=>bif !([r12.fW,r12.fS] == [y13.fW,y13.fS]) then (dK u (λz0 z1 z2=>dX u dk z0 z1 z2) x7 true p0 p1) else ((dS u p1.bj x7).bind λr14=>bif !r14 then ((mR u ((p1.b4.take (sX (aQ .i64 r9.1 r9.2))).drop (sX r9.1))).bind λr15=>dK u (λz0 z1 z2=>dX u dk z0 z1 z2) x7 (!r15) p0 p1) else (dK u (λz0 z1 z2=>dX u dk z0 z1 z2) x7 false p0 p1))) else ((dS u p1.bj x7).bind λr16=>bif !r16 then ((mR u ((p1.b4.take (sX (aQ .i64 r9.1 r9.2))).drop (sX r9.1))).bind λr17=>dK u (λz0 z1 z2=>dX u dk z0 z1 z2) x7 (!r17) p0 p1) else (dK u (λz0 z1 z2=>dX u dk z0 z1 z2) x7 false p0 p1))) else (uX u)
def kW(u:Nat)(x5:Bool)(p0:ag)(p1:bD):Option Bool :=
  bif x5 then (some false) else (dX u u 0 p0 p1)
def mZ(u:Nat)(p0:ag)(p1:bD):Option Bool :=
  (gI u p0).bind λr1=>bif !r1 then (kW u true p0 p1) else ((dL u p1.bj).bind λr2=>bif !r2 then (kW u true p0 p1) else ((nT u p0).bind λr3=>(li u p1.bj r3).bind λr4=>bif r4 != 0 then (kW u true p0 p1) else (kW u (((p1.b4.length:Int)) != p0.aY) p0 p1)))
def D3(u:Nat)(p0:ag)(p1:bD)(s:Unit):Option Bool:=(uX u)
def w9(u:Nat)(p0:ag)(p1:bD)(i_:Nat)(s:Unit)(k_:Unit->Option Bool):Option Bool:=(dB u p0.aw p0.aY (i_:Int)).bind λr9=>(c9 (cy r9.1 (aQ .i64 r9.1 r9.2) p1.b4.length)).bind λ_=>(dS u p1.bj (i_:Int)).bind λr11=>bif r11 then ((gj u ((p1.b4.take (sX (aQ .i64 r9.1 r9.2))).drop (sX r9.1))).bind λr12=>(c6 p0.aC (i_:Int)).bind λy13=>bif !([r12.fW,r12.fS] == [y13.fW,y13.fS]) then (dK u (λz0 z1 z2=>k_ ()) (i_:Int) true p0 p1) else ((dS u p1.bj (i_:Int)).bind λr14=>bif !r14 then ((mR u ((p1.b4.take (sX (aQ .i64 r9.1 r9.2))).drop (sX r9.1))).bind λr15=>dK u (λz0 z1 z2=>k_ ()) (i_:Int) (!r15) p0 p1) else (dK u (λz0 z1 z2=>k_ ()) (i_:Int) false p0 p1))) else ((dS u p1.bj (i_:Int)).bind λr16=>bif !r16 then ((mR u ((p1.b4.take (sX (aQ .i64 r9.1 r9.2))).drop (sX r9.1))).bind λr17=>dK u (λz0 z1 z2=>k_ ()) (i_:Int) (!r17) p0 p1) else (dK u (λz0 z1 z2=>k_ ()) (i_:Int) false p0 p1))
theorem D4(u:Nat)(p0:ag)(p1:bD)(s:Unit)(k:Nat)(hn:(((p0.aC.length:Int)):Int)<=9223372036854775807)(hk:sX (((p0.aC.length:Int))) < k):dX u k 0 p0 p1=Pu.lS (D3 u p0 p1) (w9 u p0 p1) (sX (((p0.aC.length:Int)))) 0 s:=Pu.mB (λ(k:Nat) (s:Unit) (i:Int)=>dX u k i p0 p1) hn (λ_ _ _=>rfl) s hk
def pu(u:Nat)(p0:ag)(p1:bD):Option Int :=
  (nT u p0).bind λr1=>(li u r1 p1.bj).bind λr2=>some r2
def wj(u:Nat)(p0:ag)(p1:bD):Option Bool :=
  bif p0.aS != 0 then ((mZ u p0 p1).bind λr1=>bif r1 then ((pu u p0 p1).bind λr2=>some (r2 == 0)) else (some false)) else (some false)
def nU(u:Nat)(p0:c7):Option Bool :=
  (bG u p0.aS 0 1000000).bind λr1=>bif r1 then ((bG u p0.ch 0 1).bind λr2=>bif r2 then ((bG u p0.aY 0 240).bind λr3=>some r3) else (some false)) else (some false)
def rx(u:Nat)(p0:aA)(p1:Int):Option ((List Int)) :=
  bif p1 == 1 then (some p0.fB) else (some p0.fA)
def rp(u:Nat)(p0:dA):Option Bool :=
  bif p0.nM == 2 then (bif p0.CW == 0 then (bif ((p0.fB.length:Int)) == 0 then ((nU u p0.fR).bind λr1=>some r1) else (some false)) else (some false)) else ((bG u p0.nM 0 1).bind λr2=>bif r2 then ((bG u p0.CW 0 240).bind λr3=>bif r3 then (bif decide (((p0.fB.length:Int))<=(dM .i64 240 p0.CW)) then (some ([p0.fR.aS,p0.fR.ch,p0.fR.aY] == [0,0,0])) else (some false)) else (some false)) else (some false))
def wl(u:Nat)  : Option Bool :=
  some true
def kA(u kj:Nat)(x5:Int)(p0:aA):Option Bool:=match kj with
  | 0=>none
  | kj+1=>bif decide (x5 < ((p0.fP.length:Int))) then ((c6 p0.fP x5).bind λy7=>(rp u y7).bind λr8=>bif !r8 then (some false) else ((λz0 z1=>kA u kj z0 z1) (aQ .i64 x5 1) p0)) else (wl u)
def kB(u:Nat)(x3:Bool)(p0:aA):Option Bool :=
  bif x3 then (some false) else (kA u u 0 p0)
def jJ(u:Nat)(p0:aA):Option Bool :=
  bif decide (((p0.fA.length:Int)) > 240) then (kB u true p0) else (bif decide (((p0.fB.length:Int)) > 240) then (kB u true p0) else ((nU u p0.fR).bind λr1=>bif !r1 then (kB u true p0) else ((rx u p0 p0.fR.ch).bind λr2=>bif decide (p0.fR.aY > ((r2.length:Int))) then (kB u true p0) else (kB u (decide (((p0.fP.length:Int)) > 200)) p0))))
def yp(u:Nat)(p0:aA)(s:Unit):Option Bool:=(wl u)
def tK(u:Nat)(p0:aA)(y7:dA)(i_:Nat)(s:Unit)(k_:Unit->Option Bool):Option Bool:=(rp u y7).bind λr8=>bif !r8 then (some false) else ((λz0 z1=>k_ ()) (aQ .i64 (i_:Int) 1) p0)
theorem FP(u:Nat)(p0:aA)(s:Unit)(k:Nat)(hn:p0.fP.length<=9223372036854775807)(hk:p0.fP.length < k):kA u k 0 p0=Pu.bP (yp u p0) (tK u p0) p0.fP 0 s:=Pu.dh (λ(k:Nat) (s:Unit) (i:Int)=>kA u k i p0) hn (λ_ _ _=>rfl) s hk
def wm(u:Nat)(p0:aA):Option Int :=
  some (dM .i64 1 p0.fR.ch)
def m0(u:Nat)(p0:aA)(p1:dA):Option (aA×Bool) :=
  (dC u p0).bind λr1=>(fE u p1).bind λr2=>(c9 (decide ((r1.fP.length+([r2]).length)*64<=140737488355328))).bind λ_=>(jJ u ((aA.mk r1.fA r1.fB r1.fR (r1.fP++([r2]))))).bind λr4=>bif !r4 then ((dC u p0).bind λr5=>some ((r5,false))) else (some (((aA.mk r1.fA r1.fB r1.fR (r1.fP++([r2]))),true)))
def qn(u:Nat)(p0:aA)(p1 p2:Int)(p3:List Int):Option (aA×Bool) :=
  (bG u p1 0 1).bind λr1=>bif !r1 then ((dC u p0).bind λr2=>some ((r2,false))) else ((m0 u p0 ((dA.mk p1 p2 p3 ((c7.mk 0 0 0))))).bind λr3=>some ((r3.1,r3.2)))
def yq(u:Nat)(x32 x33:List Int)(x34 x35 x36:Int)(x37:List dA):Option (aA×Bool) :=
  some (((aA.mk x32 x33 ((c7.mk x34 x35 x36)) x37),true))
def io(u iw:Nat)(p1:List Int)(p2 x12:Int)(x13 x14:List Int)(x15 x16 x17:Int)(x18:List dA)(p0:aA):Option (aA×Bool):=match iw with
  | 0=>none
  | iw+1=>(lc u p2 ((p1.length:Int))).bind λr26=>bif decide (x12 < r26) then ((dB u p2 ((p1.length:Int)) x12).bind λr27=>(jD u p1 p2 x12).bind λr28=>(wm u p0).bind λr29=>(qn u ((aA.mk x13 x14 ((c7.mk x15 x16 x17)) x18)) r29 r27.1 r28.1).bind λr30=>bif !r30.2 then ((dC u p0).bind λr31=>some ((r31,false))) else ((λz0 z1 z2 z3 z4 z5 z6 z7 z8 z9=>io u iw z0 z1 z2 z3 z4 z5 z6 z7 z8 z9) p1 p2 (aQ .i64 x12 1) r30.1.fA r30.1.fB r30.1.fR.aS r30.1.fR.ch r30.1.fR.aY r30.1.fP p0)) else (yq u x13 x14 x15 x16 x17 x18)
def ml(u:Nat)(p1:List Int)(p2:Int)(x4:Bool)(r1 p0:aA):Option (aA×Bool) :=
  bif x4 then (some ((r1,false))) else (io u u p1 p2 0 r1.fA r1.fB r1.fR.aS r1.fR.ch r1.fR.aY r1.fP p0)
def qo(u:Nat)(p0:aA)(p1:List Int)(p2:Int):Option (aA×Bool) :=
  (dC u p0).bind λr1=>(jJ u p0).bind λr2=>bif !r2 then (ml u p1 p2 true r1 p0) else (bif decide (((p0.fP.length:Int)) > 0) then (ml u p1 p2 true r1 p0) else ((la u p2 ((p1.length:Int))).bind λr3=>ml u p1 p2 (!r3) r1 p0))
def qp(u:Nat)(x14:List Int):Option ((List Int)) :=
  some x14
def jK(u f9:Nat)(p1:Int)(p2 x8:List Int)(x9:Int):Option ((List Int)):=match f9 with
  | 0=>none
  | f9+1=>bif decide (x9 < ((p2.length:Int))) then ((c6 p2 x9).bind λy12=>(c6 x8 (aQ .i64 p1 x9)).bind λy13=>(λz0 z1 z2 z3=>jK u f9 z0 z1 z2 z3) p1 p2 (x8.set (sX (aQ .i64 p1 x9)) y12) (aQ .i64 x9 1)) else (qp u x8)
def qq(u:Nat)(p1:Int)(p2 x5:List Int):Option ((List Int)) :=
  jK u u p1 p2 x5 0
def lM(u ga:Nat)(p1:Int)(p2 x3:List Int):Option ((List Int)):=match ga with
  | 0=>none
  | ga+1=>bif decide (((x3.length:Int)) < (aQ .i64 p1 ((p2.length:Int)))) then ((c9 (decide ((x3.length+(([0]:List Int)).length)*1<=140737488355328))).bind λ_=>(λz0 z1 z2=>lM u ga z0 z1 z2) p1 p2 (x3++(([0]:List Int)))) else (qq u p1 p2 x3)
def oK(u:Nat)(p0:List Int)(p1:Int)(p2:List Int):Option ((List Int)) :=
  (c9 (decide (((([]:List Int)).length+p0.length)*1<=140737488355328))).bind λ_=>lM u u p1 p2 ((([]:List Int))++p0)
def uY(u:Nat)(p1:Int)(p2:List Int)(s:(List Int)):Option ((List Int)):=(qp u s)
def uZ(u:Nat)(p1:Int)(p2:List Int)(y12:Int)(i_:Nat)(s:(List Int))(k_:((List Int))->Option ((List Int))):Option ((List Int)):=(c6 s (aQ .i64 p1 (i_:Int))).bind λy13=>(λz0 z1 z2 z3=>k_ z2) p1 p2 (s.set (sX (aQ .i64 p1 (i_:Int))) y12) (aQ .i64 (i_:Int) 1)
theorem HJ(u:Nat)(p1:Int)(p2:List Int)(s:(List Int))(k:Nat)(hn:p2.length<=9223372036854775807)(hk:p2.length < k):jK u k p1 p2 s 0=Pu.bP (uY u p1 p2) (uZ u p1 p2) p2 0 s:=Pu.dh (λ(k:Nat) (s:(List Int)) (i:Int)=>jK u k p1 p2 s i) hn (λ_ _ _=>rfl) s hk
def mm(u:Nat)(x5 x6:List Int)(x7 x8 x9:Int)(r1:aA):Option aA :=
  some ((aA.mk x5 x6 ((c7.mk x7 x8 x9)) r1.fP))
def iP(u:Nat)(p0:aA)(p1:dA):Option aA :=
  (dC u p0).bind λr1=>(rp u p1).bind λr2=>bif !r2 then (mm u r1.fA r1.fB r1.fR.aS r1.fR.ch r1.fR.aY r1) else (bif p1.nM == 0 then ((oK u p0.fA p1.CW p1.fB).bind λr3=>mm u r3 r1.fB r1.fR.aS r1.fR.ch r1.fR.aY r1) else (bif p1.nM == 1 then ((oK u p0.fB p1.CW p1.fB).bind λr4=>mm u r1.fA r4 r1.fR.aS r1.fR.ch r1.fR.aY r1) else (mm u r1.fA r1.fB p1.fR.aS p1.fR.ch p1.fR.aY r1)))
def vG(u:Nat)(x26 x27:List Int)(x28 x29 x30:Int)(x31:List dA):Option aA :=
  some ((aA.mk x26 x27 ((c7.mk x28 x29 x30)) (([]:List dA))))
def lj(u gR:Nat)(x10:Int)(p0:aA)(x11 x12:List Int)(x13 x14 x15:Int)(x16:List dA):Option aA:=match gR with
  | 0=>none
  | gR+1=>bif decide (x10 < ((p0.fP.length:Int))) then ((c6 p0.fP x10).bind λy24=>(iP u ((aA.mk x11 x12 ((c7.mk x13 x14 x15)) x16)) y24).bind λr25=>(λz0 z1 z2 z3 z4 z5 z6 z7=>lj u gR z0 z1 z2 z3 z4 z5 z6 z7) (aQ .i64 x10 1) p0 r25.fA r25.fB r25.fR.aS r25.fR.ch r25.fR.aY r25.fP) else (vG u x11 x12 x13 x14 x15 x16)
def pv(u:Nat)(p0:aA):Option aA :=
  (dC u p0).bind λr1=>(jJ u p0).bind λr2=>bif !r2 then (some r1) else (lj u u 0 p0 r1.fA r1.fB r1.fR.aS r1.fR.ch r1.fR.aY r1.fP)
def wn(u:Nat)(p0:aA)(s:(List Int)×(List Int)×Int×Int×Int×(List dA)):Option aA:=(vG u s.1 s.2.1 s.2.2.1 s.2.2.2.1 s.2.2.2.2.1 s.2.2.2.2.2)
def wo(u:Nat)(p0:aA)(y24:dA)(i_:Nat)(s:(List Int)×(List Int)×Int×Int×Int×(List dA))(k_:((List Int)×(List Int)×Int×Int×Int×(List dA))->Option aA):Option aA:=(iP u ((aA.mk s.1 s.2.1 ((c7.mk s.2.2.1 s.2.2.2.1 s.2.2.2.2.1)) s.2.2.2.2.2)) y24).bind λr25=>(λz0 z1 z2 z3 z4 z5 z6 z7=>k_ (z2,z3,z4,z5,z6,z7)) (aQ .i64 (i_:Int) 1) p0 r25.fA r25.fB r25.fR.aS r25.fR.ch r25.fR.aY r25.fP
theorem Jf(u:Nat)(p0:aA)(s:(List Int)×(List Int)×Int×Int×Int×(List dA))(k:Nat)(hn:p0.fP.length<=9223372036854775807)(hk:p0.fP.length < k):lj u k 0 p0 s.1 s.2.1 s.2.2.1 s.2.2.2.1 s.2.2.2.2.1 s.2.2.2.2.2=Pu.bP (wn u p0) (wo u p0) p0.fP 0 s:=Pu.dh (λ(k:Nat) (s:(List Int)×(List Int)×Int×Int×Int×(List dA)) (i:Int)=>lj u k i p0 s.1 s.2.1 s.2.2.1 s.2.2.2.1 s.2.2.2.2.1 s.2.2.2.2.2) hn (λ_ _ _=>rfl) s hk
def oL(u:Nat)(p0:aA)(p1:c7):Option (aA×Bool) :=
  (m0 u p0 ((dA.mk 2 0 ([]) p1))).bind λr1=>some ((r1.1,r1.2))
def ip(u:Nat)(p3:Int)(p0:aA):Option (aA×Int) :=
  (dC u p0).bind λr7=>some ((r7,p3))
def nz(u:Nat)(p0:aA)(p1:ag)(p2:bD)(p3:Int):Option (aA×Int) :=
  bif p3 == 1 then ((wj u p1 p2).bind λr1=>bif r1 then ((qo u p0 p2.b4 p1.aw).bind λr2=>bif r2.2 then (some ((r2.1,2))) else (ip u p3 p0)) else (ip u p3 p0)) else (bif p3 == 2 then ((pv u p0).bind λr3=>some ((r3,3))) else (bif p3 == 3 then ((wm u p0).bind λr4=>(oL u p0 ((c7.mk p1.aS r4 p1.aY))).bind λr5=>bif r5.2 then (some ((r5.1,4))) else (ip u p3 p0)) else (bif p3 == 4 then ((pv u p0).bind λr6=>some ((r6,5))) else (ip u p3 p0))))
def uv(u:Nat)(p0:aK):Option Int :=
  bif p0.bi == 0 then (some 0) else ((pu u p0.aD p0.bw).bind λr1=>some r1)
def qR(u:Nat)(x14:Int):Option Int :=
  some x14
def qS(u:Nat)(oo:Int->Int->Int->Int->Option Int)(p0 x12:Int)(x13 x6:Int):Option Int :=
  oo p0 x12 x13 (aQ .i64 x6 1)
def nA(u:Nat)(oo:Int->Int->Int->Int->Option Int)(p0 x4:Int)(x5 x6:Int)(x10:Bool):Option Int :=
  bif x10 then ((dS u p0 x6).bind λr11=>bif r11 then ((c9 (decide (0<=x6))).bind λ_=>qS u oo p0 (dM .i64 x4 1) (vL .i64 x5 (iT .i64 1 x6)) x6) else (qS u oo p0 x4 x5 x6)) else (qR u x5)
def eN(u ey:Nat)(p0 x4:Int)(x5 x6:Int):Option Int:=match ey with
  | 0=>none
  | ey+1=>bif decide (x6 < 40) then (nA u (λz0 z1 z2 z3=>eN u ey z0 z1 z2 z3) p0 x4 x5 x6 (decide (x4 > 0))) else (nA u (λz0 z1 z2 z3=>eN u ey z0 z1 z2 z3) p0 x4 x5 x6 false)
def sm(u:Nat)(p0 p1:Int):Option Int :=
  eN u u p0 p1 0 0
def uw(u:Nat)(p0:aK)(p1:Int):Option Int :=
  (uv u p0).bind λr1=>(sm u r1 p1).bind λr2=>some r2
def wq(u:Nat)(x11:Int):Option Int :=
  some x11
def mn(u:Nat)(G4:(List bO)->Int->Int->Option Int)(p0:List bO)(x10 x4:Int):Option Int :=
  G4 p0 x10 (aQ .i64 x4 1)
def iQ(u gw:Nat)(p0:List bO)(x3 x4:Int):Option Int:=match gw with
  | 0=>none
  | gw+1=>bif decide (x4 < ((p0.length:Int))) then ((c6 p0 x4).bind λy7=>(dL u y7.cq).bind λr8=>bif r8 then ((c6 p0 x4).bind λy9=>mn u (λz0 z1 z2=>iQ u gw z0 z1 z2) p0 (vL .i64 x3 y9.cq) x4) else (mn u (λz0 z1 z2=>iQ u gw z0 z1 z2) p0 x3 x4)) else (wq u x3)
def ux(u:Nat)(p0:List bO):Option Int :=
  iQ u u p0 0 0
def yr(u:Nat)(p0:List bO)(s:Int):Option Int:=(wq u s)
def tL(u:Nat)(p0:List bO)(y7:bO)(i_:Nat)(s:Int)(k_:Int->Option Int):Option Int:=(dL u y7.cq).bind λr8=>bif r8 then ((c6 p0 (i_:Int)).bind λy9=>mn u (λz0 z1 z2=>k_ z1) p0 (vL .i64 s y9.cq) (i_:Int)) else (mn u (λz0 z1 z2=>k_ z1) p0 s (i_:Int))
theorem FQ(u:Nat)(p0:List bO)(s:Int)(k:Nat)(hn:p0.length<=9223372036854775807)(hk:p0.length < k):iQ u k p0 s 0=Pu.bP (yr u p0) (tL u p0) p0 0 s:=Pu.dh (λ(k:Nat) (s i:Int)=>iQ u k p0 s i) hn (λ_ _ _=>rfl) s hk
def qT(u:Nat)(x3:Int):Option Int :=
  some x3
def sn(u:Nat)(p0:aK)(p1:Int):Option Int :=
  (ux u p0.bf).bind λr1=>bif p0.bi == 5 then ((d8 u r1 p1).bind λr2=>qT u r2) else (qT u r1)
def d9(u:Nat)(p0 p1:Int)(p2:fz):Option ak :=
  (mQ u p2).bind λr1=>some ((ak.mk p0 p1 r1))
def so(u:Nat)(p2:Int)(p1:ia)(p4:aA)(r1:aK)(x5 x6:Int)(r3:(List bO))(r2:aA):Option FB :=
  (nz u p4 r1.aD r1.bw r1.bi).bind λr7=>(uw u ((aK.mk r1.gS x5 x6 r1.aD r1.bw r7.2 r3 r1.br)) p1.bd).bind λr8=>(sn u ((aK.mk r1.gS x5 x6 r1.aD r1.bw r7.2 r3 r1.br)) p2).bind λr9=>(rY u r1.aD.aS r8 r9).bind λr10=>(d9 u p2 x5 r10).bind λr11=>(c9 (decide (((([]:List ak)).length+([r11]).length)*40<=140737488355328))).bind λ_=>some ((FB.mk ((aK.mk r1.gS x5 x6 r1.aD r1.bw r7.2 r3 r1.br)) r7.1 ((([]:List ak))++([r11]))))
def yu(u:Nat)(p0:cF)(p1:ia)(p2:Int)(p3:aK)(p4:aA):Option FB :=
  (cY u p3).bind λr1=>(dC u p4).bind λr2=>bif !p3.gS then (some ((FB.mk r1 r2 (([]:List ak))))) else ((uq u p3.bf p1.a9).bind λr3=>bif p2 == 0 then (some ((FB.mk ((aK.mk r1.gS r1.bM r1.bF r1.aD r1.bw r1.bi r3 r1.br)) r2 (([]:List ak))))) else (bif decide (r1.bF>=p1.aT) then ((qm u p0 p2 p3.bM).bind λr4=>so u p2 p1 p4 r1 r4 0 r3 r2) else (so u p2 p1 p4 r1 r1.bM (aQ .i64 r1.bF 1) r3 r2)))
def fX(u:Nat)(ot:(List ak)->Int->World->(List ak)->(List cg)->Int->Option World)(p1:List ak)(x5:Int)(p0:World)(x23:List ak)(x24:List cg)(x25:Int):Option World :=
  ot p1 (aQ .i64 x5 1) p0 x23 x24 x25
def eO(u:Nat)(ot:(List ak)->Int->World->(List ak)->(List cg)->Int->Option World)(p1:List ak)(x5:Int)(x20:Bool)(p0:World)(x6:List ak)(y13 y14 y15:ak)(x7:List cg)(x8:Int)(r19:fz×Bool):Option World :=
  bif x20 then ((c6 p1 x5).bind λy21=>(c6 p1 x5).bind λy22=>(c9 (decide ((x7.length+([(cg.mk y21.cm y22.mK r19.1.fI)]).length)*24<=140737488355328))).bind λ_=>fX u ot p1 x5 p0 (x6++([(ak.mk y13.cm y14.mK ((([]:List Int))++y15.fB))])) (x7++([(cg.mk y21.cm y22.mK r19.1.fI)])) x8) else (fX u ot p1 x5 p0 (x6++([(ak.mk y13.cm y14.mK ((([]:List Int))++y15.fB))])) x7 x8)
def cz(u dm:Nat)(p1:List ak)(x5:Int)(p0:World)(x6:List ak)(x7:List cg)(x8:Int):Option World:=match dm with
  | 0=>none
  | dm+1=>bif decide (x5 < ((p1.length:Int))) then (bif decide (((x6.length:Int))>=400) then (fX u (λz0 z1 z2 z3 z4 z5=>cz u dm z0 z1 z2 z3 z4 z5) p1 x5 p0 x6 x7 (aQ .i64 x8 1)) else ((c6 p1 x5).bind λy13=>(c6 p1 x5).bind λy14=>(c6 p1 x5).bind λy15=>(c9 (decide (((([]:List Int)).length+y15.fB.length)*1<=140737488355328))).bind λ_=>(c9 (decide ((x6.length+([(ak.mk y13.cm y14.mK ((([]:List Int))++y15.fB))]).length)*40<=140737488355328))).bind λ_=>(c6 p1 x5).bind λy18=>(jI u y18.fB).bind λr19=>bif r19.2 then (bif r19.1.bK == 3 then (eO u (λz0 z1 z2 z3 z4 z5=>cz u dm z0 z1 z2 z3 z4 z5) p1 x5 (decide (((x7.length:Int)) < 3000)) p0 x6 y13 y14 y15 x7 x8 r19) else (eO u (λz0 z1 z2 z3 z4 z5=>cz u dm z0 z1 z2 z3 z4 z5) p1 x5 false p0 x6 y13 y14 y15 x7 x8 r19)) else (eO u (λz0 z1 z2 z3 z4 z5=>cz u dm z0 z1 z2 z3 z4 z5) p1 x5 false p0 x6 y13 y14 y15 x7 x8 r19))) else (some ((World.mk p0.fC p0.fT p0.b5 p0.bS p0.fN p0.fD x6 x7 x8)))
def pw(u:Nat)(p0:World)(p1:List ak):Option World :=
  cz u u p1 0 p0 p0.bE p0.bq p0.bB
def D5(u:Nat)(p1:List ak)(p0:World)(s:(List ak)×(List cg)×Int):Option World:=(some ((World.mk p0.fC p0.fT p0.b5 p0.bS p0.fN p0.fD s.1 s.2.1 s.2.2)))
def D6(u:Nat)(p1:List ak)(p0:World)(i_:Nat)(s:(List ak)×(List cg)×Int)(k_:((List ak)×(List cg)×Int)->Option World):Option World:=bif decide (((s.1.length:Int))>=400) then (fX u (λz0 z1 z2 z3 z4 z5=>k_ (z3,z4,z5)) p1 (i_:Int) p0 s.1 s.2.1 (aQ .i64 s.2.2 1)) else ((c6 p1 (i_:Int)).bind λy13=>(c6 p1 (i_:Int)).bind λy14=>(c6 p1 (i_:Int)).bind λy15=>(c9 (decide (((([]:List Int)).length+y15.fB.length)*1<=140737488355328))).bind λ_=>(c9 (decide ((s.1.length+([(ak.mk y13.cm y14.mK ((([]:List Int))++y15.fB))]).length)*40<=140737488355328))).bind λ_=>(c6 p1 (i_:Int)).bind λy18=>(jI u y18.fB).bind λr19=>bif r19.2 then (bif r19.1.bK == 3 then (eO u (λz0 z1 z2 z3 z4 z5=>k_ (z3,z4,z5)) p1 (i_:Int) (decide (((s.2.1.length:Int)) < 3000)) p0 s.1 y13 y14 y15 s.2.1 s.2.2 r19) else (eO u (λz0 z1 z2 z3 z4 z5=>k_ (z3,z4,z5)) p1 (i_:Int) false p0 s.1 y13 y14 y15 s.2.1 s.2.2 r19)) else (eO u (λz0 z1 z2 z3 z4 z5=>k_ (z3,z4,z5)) p1 (i_:Int) false p0 s.1 y13 y14 y15 s.2.1 s.2.2 r19))
theorem Rj(u:Nat)(p1:List ak)(p0:World)(s:(List ak)×(List cg)×Int)(k:Nat)(hn:(((p1.length:Int)):Int)<=9223372036854775807)(hk:sX (((p1.length:Int))) < k):cz u k p1 0 p0 s.1 s.2.1 s.2.2=Pu.lS (D5 u p1 p0) (D6 u p1 p0) (sX (((p1.length:Int)))) 0 s:=Pu.mB (λ(k:Nat) (s:(List ak)×(List cg)×Int) (i:Int)=>cz u k p1 i p0 s.1 s.2.1 s.2.2) hn (λ_ _ _=>rfl) s hk
def m2(u:Nat)(p0:World)(p1:Int):Option World :=
  (c6 p0.fN p1).bind λy1=>(c6 p0.fD p1).bind λy2=>(yu u p0.fT p0.fC p1 y1 y2).bind λr3=>(c6 p0.fN p1).bind λy4=>(c6 p0.fD p1).bind λy5=>(pw u ((World.mk p0.fC p0.fT p0.b5 p0.bS (p0.fN.set (sX p1) r3.fN) (p0.fD.set (sX p1) r3.fD) p0.bE p0.bq p0.bB)) r3.mL).bind λr6=>some r6
def jE(u:Nat)(p0:aK):Option aK :=
  (cY u p0).bind λr1=>some ((aK.mk r1.gS r1.bM r1.bF r1.aD r1.bw r1.bi r1.bf (aQ .i64 r1.br 1)))
def xR(u:Nat)  : Option Int :=
  some (-1)
def nV(u k6:Nat)(p0:List bO)(p1 x2:Int):Option Int:=match k6 with
  | 0=>none
  | k6+1=>bif decide (x2 < ((p0.length:Int))) then ((c6 p0 x2).bind λy4=>bif y4.ov == p1 then (some x2) else ((λz0 z1 z2=>nV u k6 z0 z1 z2) p0 p1 (aQ .i64 x2 1))) else (xR u)
def rq(u:Nat)(p0:List bO)(p1:Int):Option Int :=
  nV u u p0 p1 0
def HK(u:Nat)(p0:List bO)(p1:Int)(s:Unit):Option Int:=(xR u)
def HL(u:Nat)(p0:List bO)(p1:Int)(y4:bO)(i_:Nat)(s:Unit)(k_:Unit->Option Int):Option Int:=bif y4.ov == p1 then (some (i_:Int)) else ((λz0 z1 z2=>k_ ()) p0 p1 (aQ .i64 (i_:Int) 1))
theorem HM(u:Nat)(p0:List bO)(p1:Int)(s:Unit)(k:Nat)(hn:p0.length<=9223372036854775807)(hk:p0.length < k):nV u k p0 p1 0=Pu.bP (HK u p0 p1) (HL u p0 p1) p0 0 s:=Pu.dh (λ(k:Nat) (s:Unit) (i:Int)=>nV u k p0 p1 i) hn (λ_ _ _=>rfl) s hk
def vH(u:Nat)(p1 p2 p3:Int)(p0:List bO)(x12:Int):Option ((List bO)) :=
  (c9 (cy 0 x12 ((([]:List bO))++p0).length)).bind λ_=>(c9 (decide (((([]:List bO)).length+((((([]:List bO))++p0).take (sX x12)).drop (sX 0)).length)*40<=140737488355328))).bind λ_=>(c9 (decide ((((([]:List bO))++((((([]:List bO))++p0).take (sX x12)).drop (sX 0))).length+([(bO.mk p1 p2 p3 0 0)]).length)*40<=140737488355328))).bind λ_=>(c9 (cy x12 ((((([]:List bO))++p0).length:Int)) ((([]:List bO))++p0).length)).bind λ_=>(c9 (decide (((((([]:List bO))++((((([]:List bO))++p0).take (sX x12)).drop (sX 0)))++([(bO.mk p1 p2 p3 0 0)])).length+((((([]:List bO))++p0).take (sX ((((([]:List bO))++p0).length:Int)))).drop (sX x12)).length)*40<=140737488355328))).bind λ_=>some ((((([]:List bO))++((((([]:List bO))++p0).take (sX x12)).drop (sX 0)))++([(bO.mk p1 p2 p3 0 0)]))++((((([]:List bO))++p0).take (sX ((((([]:List bO))++p0).length:Int)))).drop (sX x12)))
def sq(u:Nat)(Lp:Int->Int->Int->(List bO)->Int->Option ((List bO)))(p1 p2 p3:Int)(p0:List bO)(x8:Int)(x11:Bool):Option ((List bO)) :=
  bif x11 then (Lp p1 p2 p3 p0 (aQ .i64 x8 1)) else (vH u p1 p2 p3 p0 x8)
def jF(u i6:Nat)(p1 p2 p3:Int)(p0:List bO)(x8:Int):Option ((List bO)):=match i6 with
  | 0=>none
  | i6+1=>bif decide (x8 < ((((([]:List bO))++p0).length:Int))) then ((c6 ((([]:List bO))++p0) x8).bind λy10=>sq u (λz0 z1 z2 z3 z4=>jF u i6 z0 z1 z2 z3 z4) p1 p2 p3 p0 x8 (decide (y10.ov<=p1))) else (sq u (λz0 z1 z2 z3 z4=>jF u i6 z0 z1 z2 z3 z4) p1 p2 p3 p0 x8 false)
def su(u:Nat)(p0:List bO)(p1 p2 p3:Int)(x5:Bool):Option ((List bO)) :=
  bif x5 then (some ((([]:List bO))++p0)) else ((rq u p0 p1).bind λr6=>bif decide (r6 < 0) then (jF u u p1 p2 p3 p0 0) else ((c6 ((([]:List bO))++p0) r6).bind λy11=>(c6 ((([]:List bO))++p0) r6).bind λy12=>some (((([]:List bO))++p0).set (sX r6) ((bO.mk y11.ov p2 (vL .i64 y11.cq p3) 0 y11.ou)))))
def yv(u:Nat)(p0:List bO)(p1 p2 p3:Int):Option ((List bO)) :=
  (c9 (decide (((([]:List bO)).length+p0.length)*40<=140737488355328))).bind λ_=>(bG u p1 0 6).bind λr2=>bif !r2 then (su u p0 p1 p2 p3 true) else ((dL u p2).bind λr3=>bif !r3 then (su u p0 p1 p2 p3 true) else ((dL u p3).bind λr4=>su u p0 p1 p2 p3 (!r4)))
def ry(u:Nat)(p0:aK):Option Int :=
  some p0.bw.bj
def mp(u:Nat)(p0:List bO)(p2 r1:Int)(x7:Bool):Option Int :=
  bif x7 then (some 0) else ((c6 p0 r1).bind λy8=>(c6 p0 r1).bind λy9=>some (BY .i64 (gE .i64 y8.ck p2) y9.ou))
def rz(u:Nat)(p0:List bO)(p1 p2:Int):Option Int :=
  (rq u p0 p1).bind λr1=>bif decide (r1 < 0) then (mp u p0 p2 r1 true) else ((dL u p2).bind λr2=>bif !r2 then (mp u p0 p2 r1 true) else ((c6 p0 r1).bind λy3=>(dL u y3.ck).bind λr4=>bif !r4 then (mp u p0 p2 r1 true) else ((c6 p0 r1).bind λy5=>(dL u y5.ou).bind λr6=>mp u p0 p2 r1 (!r6))))
def qU(u:Nat)(x9:List Int):Option ((List Int)) :=
  some x9
def ju(u:Nat)(Fy:Int->(List Int)->Int->Option ((List Int)))(p0:Int)(x8:List Int)(x4:Int):Option ((List Int)) :=
  Fy p0 x8 (aQ .i64 x4 1)
def hH(u ft:Nat)(p0:Int)(x3:List Int)(x4:Int):Option ((List Int)):=match ft with
  | 0=>none
  | ft+1=>bif decide (x4 < 40) then ((dS u p0 x4).bind λr7=>bif r7 then ((c9 (decide ((x3.length+(([x4]:List Int)).length)*8<=140737488355328))).bind λ_=>ju u (λz0 z1 z2=>hH u ft z0 z1 z2) p0 (x3++(([x4]:List Int))) x4) else (ju u (λz0 z1 z2=>hH u ft z0 z1 z2) p0 x3 x4)) else (qU u x3)
def pz(u:Nat)(p0:Int):Option ((List Int)) :=
  hH u u p0 (([]:List Int)) 0
def xb(u:Nat)(p0:Int)(s:(List Int)):Option ((List Int)):=(qU u s)
def xd(u:Nat)(p0:Int)(i_:Nat)(s:(List Int))(k_:((List Int))->Option ((List Int))):Option ((List Int)):=(dS u p0 (i_:Int)).bind λr7=>bif r7 then ((c9 (decide ((s.length+(([(i_:Int)]:List Int)).length)*8<=140737488355328))).bind λ_=>ju u (λz0 z1 z2=>k_ z1) p0 (s++(([(i_:Int)]:List Int))) (i_:Int)) else (ju u (λz0 z1 z2=>k_ z1) p0 s (i_:Int))
theorem D7(u:Nat)(p0:Int)(s:(List Int))(k:Nat)(hn:(40:Int)<=9223372036854775807)(hk:sX (40) < k):hH u k p0 s 0=Pu.lS (xb u p0) (xd u p0) (sX (40)) 0 s:=Pu.mB (λ(k:Nat) (s:(List Int)) (i:Int)=>hH u k p0 s i) hn (λ_ _ _=>rfl) s hk
def qV(u:Nat)(p2:Int)(x3:Bool)(p0:ag)(p1:bD):Option ((List Int)×Bool) :=
  bif x3 then (some ((([]:List Int),false))) else ((dB u p0.aw p0.aY p2).bind λr4=>(c9 (cy r4.1 (aQ .i64 r4.1 r4.2) p1.b4.length)).bind λ_=>(c9 (decide (((([]:List Int)).length+((p1.b4.take (sX (aQ .i64 r4.1 r4.2))).drop (sX r4.1)).length)*1<=140737488355328))).bind λ_=>some (((([]:List Int))++((p1.b4.take (sX (aQ .i64 r4.1 r4.2))).drop (sX r4.1)),true)))
def m3(u:Nat)(p0:ag)(p1:bD)(p2:Int):Option ((List Int)×Bool) :=
  (mZ u p0 p1).bind λr1=>bif !r1 then (qV u p2 true p0 p1) else ((dS u p1.bj p2).bind λr2=>qV u p2 (!r2) p0 p1)
def mq(u:Nat)(p2:Int)(p0:List bO)(r2:Int)(x6:Bool):Option ((List bO)) :=
  bif x6 then (some ((([]:List bO))++p0)) else ((c6 ((([]:List bO))++p0) r2).bind λy7=>(c6 ((([]:List bO))++p0) r2).bind λy8=>some (((([]:List bO))++p0).set (sX r2) ((bO.mk y7.ov y7.ck y7.cq y7.wW (vL .i64 y7.ou p2)))))
def nW(u:Nat)(p0:List bO)(p1 p2:Int):Option ((List bO)) :=
  (c9 (decide (((([]:List bO)).length+p0.length)*40<=140737488355328))).bind λ_=>(rq u p0 p1).bind λr2=>bif decide (r2 < 0) then (mq u p2 p0 r2 true) else ((dL u p2).bind λr3=>bif !r3 then (mq u p2 p0 r2 true) else ((c6 p0 r2).bind λy4=>(dL u y4.ou).bind λr5=>mq u p2 p0 r2 (!r5)))
def n9(u:Nat)(p2 r3:Int)(p0 r1:aK)(x17:List ak):Option Act :=
  (nW u p0.bf p2 r3).bind λr18=>some ((Act.mk ((aK.mk r1.gS r1.bM r1.bF r1.aD r1.bw r1.bi r18 r1.br)) x17))
def i9(u:Nat)(Ct:Int->Int->Int->((List Int))->Int->aK->aK->(List ak)->Option Act)(p1 p2 r3:Int)(r4:(List Int))(x7:Int)(p0 r1:aK)(x16:List ak):Option Act :=
  Ct p1 p2 r3 r4 (aQ .i64 x7 1) p0 r1 x16
def fj(u eh:Nat)(p1 p2 r3:Int)(r4:(List Int))(x7:Int)(p0 r1:aK)(x8:List ak):Option Act:=match eh with
  | 0=>none
  | eh+1=>bif decide (x7 < ((r4.length:Int))) then ((c6 r4 x7).bind λy11=>(m3 u p0.aD p0.bw y11).bind λr12=>bif r12.2 then ((c6 r4 x7).bind λy13=>(lh u p0.aD.aS y13 r12.1).bind λr14=>(d9 u p1 p2 r14).bind λr15=>(c9 (decide ((x8.length+([r15]).length)*40<=140737488355328))).bind λ_=>i9 u (λz0 z1 z2 z3 z4 z5 z6 z7=>fj u eh z0 z1 z2 z3 z4 z5 z6 z7) p1 p2 r3 r4 x7 p0 r1 (x8++([r15]))) else (i9 u (λz0 z1 z2 z3 z4 z5 z6 z7=>fj u eh z0 z1 z2 z3 z4 z5 z6 z7) p1 p2 r3 r4 x7 p0 r1 x8)) else (n9 u p2 r3 p0 r1 x8)
def oM(u:Nat)(p0:aK)(p1 p2:Int):Option Act :=
  (cY u p0).bind λr1=>(ry u p0).bind λr2=>(rz u p0.bf p2 r2).bind λr3=>(pz u r3).bind λr4=>fj u u p1 p2 r3 r4 0 p0 r1 (([]:List ak))
def vq(u:Nat)(p1 p2 r3:Int)(r4:(List Int))(p0 r1:aK)(s:(List ak)):Option Act:=(n9 u p2 r3 p0 r1 s)
def vt(u:Nat)(p1 p2 r3:Int)(r4:(List Int))(p0 r1:aK)(y11:Int)(i_:Nat)(s:(List ak))(k_:((List ak))->Option Act):Option Act:=(m3 u p0.aD p0.bw y11).bind λr12=>bif r12.2 then ((c6 r4 (i_:Int)).bind λy13=>(lh u p0.aD.aS y13 r12.1).bind λr14=>(d9 u p1 p2 r14).bind λr15=>(c9 (decide ((s.length+([r15]).length)*40<=140737488355328))).bind λ_=>i9 u (λz0 z1 z2 z3 z4 z5 z6 z7=>k_ z7) p1 p2 r3 r4 (i_:Int) p0 r1 (s++([r15]))) else (i9 u (λz0 z1 z2 z3 z4 z5 z6 z7=>k_ z7) p1 p2 r3 r4 (i_:Int) p0 r1 s)
theorem Ce(u:Nat)(p1 p2 r3:Int)(r4:(List Int))(p0 r1:aK)(s:(List ak))(k:Nat)(hn:r4.length<=9223372036854775807)(hk:r4.length < k):fj u k p1 p2 r3 r4 0 p0 r1 s=Pu.bP (vq u p1 p2 r3 r4 p0 r1) (vt u p1 p2 r3 r4 p0 r1) r4 0 s:=Pu.dh (λ(k:Nat) (s:(List ak)) (i:Int)=>fj u k p1 p2 r3 r4 i p0 r1 s) hn (λ_ _ _=>rfl) s hk
def m4(u:Nat)(r1:aK)(r2:(List bO))(x10:List ak):Option Act :=
  some ((Act.mk ((aK.mk r1.gS r1.bM r1.bF r1.aD r1.bw r1.bi r2 r1.br)) x10))
def m5(u:Nat)(r1:aK)(r2:(List bO))(r7:Act)(x9:List ak):Option Act :=
  some ((Act.mk r7.fN x9))
def nB(u:Nat)(p0:aK)(p1 p2:Int)(p3:fz):Option Act :=
  (cY u p0).bind λr1=>bif p2 == p1 then (some ((Act.mk r1 (([]:List ak))))) else ((yv u p0.bf p2 p3.ck p3.cq).bind λr2=>bif p0.bi == 0 then ((d9 u p1 p2 ((fz.mk 4 0 ((ag.mk 0 0 0 ([]))) 0 0 0 ([])))).bind λr3=>(c9 (decide (((([]:List ak)).length+([r3]).length)*40<=140737488355328))).bind λ_=>m4 u r1 r2 ((([]:List ak))++([r3]))) else (bif p3.aS != p0.aD.aS then ((d9 u p1 p2 ((fz.mk 1 0 p0.aD 0 0 0 ([])))).bind λr5=>(c9 (decide (((([]:List ak)).length+([r5]).length)*40<=140737488355328))).bind λ_=>m4 u r1 r2 ((([]:List ak))++([r5]))) else ((oM u ((aK.mk r1.gS r1.bM r1.bF r1.aD r1.bw r1.bi r2 r1.br)) p1 p2).bind λr7=>bif ((r7.mL.length:Int)) == 0 then ((d9 u p1 p2 ((fz.mk 4 p0.aD.aS ((ag.mk 0 0 0 ([]))) 0 0 0 ([])))).bind λr8=>(c9 (decide ((r7.mL.length+([r8]).length)*40<=140737488355328))).bind λ_=>m5 u r1 r2 r7 (r7.mL++([r8]))) else (m5 u r1 r2 r7 r7.mL))))
def sv(u:Nat)(p0:aA):Option (Int×(List Int)) :=
  (jJ u p0).bind λr1=>bif !r1 then (some ((0,([]:List Int)))) else ((rx u p0 p0.fR.ch).bind λr2=>(c9 (cy 0 p0.fR.aY r2.length)).bind λ_=>(c9 (decide (((([]:List Int)).length+((r2.take (sX p0.fR.aY)).drop (sX 0)).length)*1<=140737488355328))).bind λ_=>some ((p0.fR.aS,(([]:List Int))++((r2.take (sX p0.fR.aY)).drop (sX 0)))))
def qW(u:Nat)(r1:aK)(r7:ag)(r8:bD)(x11:Int):Option aK :=
  some ((aK.mk r1.gS r1.bM r1.bF r7 r8 x11 r1.bf r1.br))
def qX(u:Nat)(x10:Bool)(r1:aK)(r7:ag)(r8:bD):Option aK :=
  bif x10 then (qW u r1 r7 r8 5) else (qW u r1 r7 r8 1)
def qY(u:Nat)(x5:Bool)(p1:aA)(p2:ag)(r1:aK):Option aK :=
  bif x5 then (some r1) else ((sv u p1).bind λr6=>(lf u p2).bind λr7=>(lY u p2 r6.2).bind λr8=>bif r6.1 == p2.aS then ((tE u p2 r6.2).bind λr9=>qX u r9 r1 r7 r8) else (qX u false r1 r7 r8))
def sA(u:Nat)(p0:aK)(p1:aA)(p2:ag):Option aK :=
  (cY u p0).bind λr1=>bif p0.bi != 0 then ((pm u p0.aD p2).bind λr2=>bif !r2 then ((jE u p0).bind λr3=>some r3) else (some r1)) else ((gI u p2).bind λr4=>bif !r4 then (qY u true p1 p2 r1) else (qY u (p2.aS == 0) p1 p2 r1))
def pA(u:Nat)(x4:Bool)(x5:Int)(x6:List Int):Option (bD×Bool) :=
  bif x4 then (some (((bD.mk x5 x6),false))) else (some (((bD.mk x5 x6),true)))
def qr(u:Nat)(p0:ag)(p1:bD)(p2:Int)(p3:List Int):Option (bD×Bool) :=
  (mP u p1).bind λr1=>(mZ u p0 p1).bind λr2=>bif !r2 then (pA u true r1.bj r1.b4) else ((rn u p0 r1 p2 p3).bind λr3=>pA u (!r3.1) r3.2.bj r3.2.b4)
def qZ(u:Nat)(r1:aK)(x24:List bO)(x25:List ak):Option Act :=
  some ((Act.mk ((aK.mk r1.gS r1.bM r1.bF r1.aD r1.bw r1.bi x24 r1.br)) x25))
def q5(u:Nat)(oq:Int->Int->((List Int)×Bool)->Int->aK->aK->(List bO)->(List ak)->Option Act)(p1 p2:Int)(r2:(List Int)×Bool)(x6:Int)(p0 r1:aK)(x22:List bO)(x23:List ak):Option Act :=
  oq p1 p2 r2 (aQ .i64 x6 1) p0 r1 x22 x23
def kX(u:Nat)(oq:Int->Int->((List Int)×Bool)->Int->aK->aK->(List bO)->(List ak)->Option Act)(p1 p2:Int)(r2:(List Int)×Bool)(x6:Int)(x12:Bool)(p0 r1:aK)(x7:List bO)(x8:List ak):Option Act :=
  bif x12 then ((c6 p0.bf x6).bind λy13=>(ry u p0).bind λr14=>(rz u x7 y13.ov r14).bind λr15=>(dS u r15 p2).bind λr16=>bif r16 then ((lh u p0.aD.aS p2 r2.1).bind λr17=>(d9 u p1 y13.ov r17).bind λr18=>(c9 (decide ((x8.length+([r18]).length)*40<=140737488355328))).bind λ_=>(d8 u 0 p2).bind λr20=>(nW u x7 y13.ov r20).bind λr21=>q5 u oq p1 p2 r2 x6 p0 r1 r21 (x8++([r18]))) else (q5 u oq p1 p2 r2 x6 p0 r1 x7 x8)) else (qZ u r1 x7 x8)
def dY(u ez:Nat)(p1 p2:Int)(r2:(List Int)×Bool)(x6:Int)(p0 r1:aK)(x7:List bO)(x8:List ak):Option Act:=match ez with
  | 0=>none
  | ez+1=>bif decide (x6 < ((p0.bf.length:Int))) then (kX u (λz0 z1 z2 z3 z4 z5 z6 z7=>dY u ez z0 z1 z2 z3 z4 z5 z6 z7) p1 p2 r2 x6 r2.2 p0 r1 x7 x8) else (kX u (λz0 z1 z2 z3 z4 z5 z6 z7=>dY u ez z0 z1 z2 z3 z4 z5 z6 z7) p1 p2 r2 x6 false p0 r1 x7 x8)
def sB(u:Nat)(p0:aK)(p1 p2:Int):Option Act :=
  (cY u p0).bind λr1=>(m3 u p0.aD p0.bw p2).bind λr2=>dY u u p1 p2 r2 0 p0 r1 r1.bf (([]:List ak))
def pB(u:Nat)(p1:Int)(x1:Bool)(p0:aK)(p2:fz):Option Act :=
  bif x1 then ((jE u p0).bind λr2=>some ((Act.mk r2 (([]:List ak))))) else ((dS u p0.bw.bj p2.fI).bind λr3=>bif r3 then ((cY u p0).bind λr4=>some ((Act.mk r4 (([]:List ak))))) else ((qr u p0.aD p0.bw p2.fI p2.fB).bind λr5=>bif !r5.2 then ((jE u p0).bind λr6=>some ((Act.mk r6 (([]:List ak))))) else ((cY u p0).bind λr7=>(sB u ((aK.mk r7.gS r7.bM r7.bF r7.aD r5.1 r7.bi r7.bf r7.br)) p1 p2.fI).bind λr8=>some r8)))
def qs(u:Nat)(p0:aK)(p1:Int)(p2:fz):Option Act :=
  bif p0.bi == 0 then (pB u p1 true p0 p2) else (pB u p1 (p2.aS != p0.aD.aS) p0 p2)
def ms(u:Nat)(x4:Bool)(x5 x6:Int)(x7 x8 x9:Int)(x10:List cn)(x11:Int)(x12:List Int)(x13:Int)(x14:List bO)(x15:Int):Option Act :=
  some ((Act.mk ((aK.mk x4 x5 x6 ((ag.mk x7 x8 x9 x10)) ((bD.mk x11 x12)) x13 x14 x15)) (([]:List ak))))
def qt(u:Nat)(p0:aK)(p1:Int)(p2:aA)(p3:fz):Option Act :=
  (cY u p0).bind λr1=>bif p3.bK == 1 then ((sA u ((aK.mk r1.gS r1.bM 0 r1.aD r1.bw r1.bi r1.bf r1.br)) p2 p3.aD).bind λr2=>ms u r2.gS r2.bM r2.bF r2.aD.aS r2.aD.aw r2.aD.aY r2.aD.aC r2.bw.bj r2.bw.b4 r2.bi r2.bf r2.br) else (bif p3.bK == 3 then ((qs u ((aK.mk r1.gS r1.bM 0 r1.aD r1.bw r1.bi r1.bf r1.br)) p1 p3).bind λr3=>some r3) else (bif p3.bK == 2 then (ms u r1.gS r1.bM 0 r1.aD.aS r1.aD.aw r1.aD.aY r1.aD.aC r1.bw.bj r1.bw.b4 r1.bi r1.bf (aQ .i64 r1.br 1)) else (ms u r1.gS r1.bM 0 r1.aD.aS r1.aD.aw r1.aD.aY r1.aD.aC r1.bw.bj r1.bw.b4 r1.bi r1.bf r1.br)))
def sC(u:Nat)(p1:Int)(x4:Bool)(p2:aK)(p3:aA)(p4:ak)(r2:fz×Bool):Option Act :=
  bif x4 then ((jE u p2).bind λr5=>some ((Act.mk r5 (([]:List ak))))) else (bif r2.1.bK == 2 then ((nB u p2 p1 p4.cm r2.1).bind λr6=>some r6) else (bif p4.cm == p2.bM then ((qt u p2 p1 p3 r2.1).bind λr7=>some r7) else ((jE u p2).bind λr8=>some ((Act.mk r8 (([]:List ak)))))))
def yw(u:Nat)(p0:cF)(p1:Int)(p2:aK)(p3:aA)(p4:ak):Option Act :=
  bif !p2.gS then ((cY u p2).bind λr1=>some ((Act.mk r1 (([]:List ak))))) else ((jI u p4.fB).bind λr2=>bif !r2.2 then (sC u p1 true p2 p3 p4 r2) else ((bG u p4.cm 0 (dM .i64 ((p0.cf.length:Int)) 1)).bind λr3=>bif !r3 then (sC u p1 true p2 p3 p4 r2) else (sC u p1 (p4.cm == p1) p2 p3 p4 r2)))
def m6(u:Nat)(p0:World)(p1:Int):Option World :=
  (c6 p0.bE p1).bind λy1=>(c9 (cy 0 p1 p0.bE.length)).bind λ_=>(c9 (decide (((([]:List ak)).length+((p0.bE.take (sX p1)).drop (sX 0)).length)*40<=140737488355328))).bind λ_=>(c9 (cy (aQ .i64 p1 1) ((p0.bE.length:Int)) p0.bE.length)).bind λ_=>(c9 (decide ((((([]:List ak))++((p0.bE.take (sX p1)).drop (sX 0))).length+((p0.bE.take (sX ((p0.bE.length:Int)))).drop (sX (aQ .i64 p1 1))).length)*40<=140737488355328))).bind λ_=>(c6 p0.fN y1.mK).bind λy6=>(c6 p0.fD y1.mK).bind λy7=>(yw u p0.fT y1.mK y6 y7 y1).bind λr8=>(c6 p0.fN y1.mK).bind λy9=>(pw u ((World.mk p0.fC p0.fT p0.b5 p0.bS (p0.fN.set (sX y1.mK) r8.fN) p0.fD (((([]:List ak))++((p0.bE.take (sX p1)).drop (sX 0)))++((p0.bE.take (sX ((p0.bE.length:Int)))).drop (sX (aQ .i64 p1 1)))) p0.bq p0.bB)) r8.mL).bind λr10=>some r10
def xS(u:Nat)(p0:aK):Option aK :=
  some ((aK.mk false 0 0 ((ag.mk 0 0 0 ([]))) ((bD.mk 0 ([]))) 0 ([]) 0))
def zj(u:Nat)(x33 x34:List Int)(x35 x36 x37:Int)(x38:List dA):Option aA :=
  some ((aA.mk x33 x34 ((c7.mk x35 x36 x37)) (([]:List dA))))
def pC(u:Nat)(Lo:Int->Int->aA->(List Int)->(List Int)->Int->Int->Int->(List dA)->Option aA)(p1 x10:Int)(p0:aA)(x27 x28:List Int)(x29 x30 x31:Int)(x32:List dA):Option aA :=
  Lo p1 (aQ .i64 x10 1) p0 x27 x28 x29 x30 x31 x32
def lm(u i5:Nat)(p1 x10:Int)(p0:aA)(x11 x12:List Int)(x13 x14 x15:Int)(x16:List dA):Option aA:=match i5 with
  | 0=>none
  | i5+1=>bif decide (x10 < ((p0.fP.length:Int))) then ((dS u p1 x10).bind λr24=>bif r24 then ((c6 p0.fP x10).bind λy25=>(iP u ((aA.mk x11 x12 ((c7.mk x13 x14 x15)) x16)) y25).bind λr26=>pC u (λz0 z1 z2 z3 z4 z5 z6 z7 z8=>lm u i5 z0 z1 z2 z3 z4 z5 z6 z7 z8) p1 x10 p0 r26.fA r26.fB r26.fR.aS r26.fR.ch r26.fR.aY r26.fP) else (pC u (λz0 z1 z2 z3 z4 z5 z6 z7 z8=>lm u i5 z0 z1 z2 z3 z4 z5 z6 z7 z8) p1 x10 p0 x11 x12 x13 x14 x15 x16)) else (zj u x11 x12 x13 x14 x15 x16)
def yx(u:Nat)(p0:aA)(p1:Int):Option aA :=
  (dC u p0).bind λr1=>(jJ u p0).bind λr2=>bif !r2 then (some r1) else (lm u u p1 0 p0 r1.fA r1.fB r1.fR.aS r1.fR.ch r1.fR.aY r1.fP)
def AN(u:Nat)(p1:Int)(p0:aA)(s:(List Int)×(List Int)×Int×Int×Int×(List dA)):Option aA:=(zj u s.1 s.2.1 s.2.2.1 s.2.2.2.1 s.2.2.2.2.1 s.2.2.2.2.2)
def ws(u:Nat)(p1:Int)(p0:aA)(i_:Nat)(s:(List Int)×(List Int)×Int×Int×Int×(List dA))(k_:((List Int)×(List Int)×Int×Int×Int×(List dA))->Option aA):Option aA:=(dS u p1 (i_:Int)).bind λr24=>bif r24 then ((c6 p0.fP (i_:Int)).bind λy25=>(iP u ((aA.mk s.1 s.2.1 ((c7.mk s.2.2.1 s.2.2.2.1 s.2.2.2.2.1)) s.2.2.2.2.2)) y25).bind λr26=>pC u (λz0 z1 z2 z3 z4 z5 z6 z7 z8=>k_ (z3,z4,z5,z6,z7,z8)) p1 (i_:Int) p0 r26.fA r26.fB r26.fR.aS r26.fR.ch r26.fR.aY r26.fP) else (pC u (λz0 z1 z2 z3 z4 z5 z6 z7 z8=>k_ (z3,z4,z5,z6,z7,z8)) p1 (i_:Int) p0 s.1 s.2.1 s.2.2.1 s.2.2.2.1 s.2.2.2.2.1 s.2.2.2.2.2)
theorem Jg(u:Nat)(p1:Int)(p0:aA)(s:(List Int)×(List Int)×Int×Int×Int×(List dA))(k:Nat)(hn:(((p0.fP.length:Int)):Int)<=9223372036854775807)(hk:sX (((p0.fP.length:Int))) < k):lm u k p1 0 p0 s.1 s.2.1 s.2.2.1 s.2.2.2.1 s.2.2.2.2.1 s.2.2.2.2.2=Pu.lS (AN u p1 p0) (ws u p1 p0) (sX (((p0.fP.length:Int)))) 0 s:=Pu.mB (λ(k:Nat) (s:(List Int)×(List Int)×Int×Int×Int×(List dA)) (i:Int)=>lm u k p1 i p0 s.1 s.2.1 s.2.2.1 s.2.2.2.1 s.2.2.2.2.1 s.2.2.2.2.2) hn (λ_ _ _=>rfl) s hk
def yy(u:Nat)(p0:aA)(p1:Int):Option aA :=
  (yx u p0 p1).bind λr1=>some r1
def qu(u:Nat)(p0:World)(p1:ak):Option Bool :=
  (bG u p1.cm 0 (dM .i64 ((p0.fN.length:Int)) 1)).bind λr1=>bif r1 then ((bG u p1.mK 0 (dM .i64 ((p0.fN.length:Int)) 1)).bind λr2=>some r2) else (some false)
def qv(u:Nat)(r1:Bool)(x4 x5:Int)(x6 x7:Int)(x8 x9:List Int)(x10:List bg)(x11:List aK)(x12:List aA)(x13:List ak)(x14:List cg)(x15:Int):Option (Bool×World) :=
  some ((r1,(World.mk ((ia.mk x4 x5 x6 x7)) ((cF.mk x8)) x9 x10 x11 x12 x13 x14 x15)))
def qw(u:Nat)(r2:Bool)(x5 x6:Int)(x7 x8:Int)(x9 x10:List Int)(x11:List bg)(x12:List aK)(x13:List aA)(x14:List ak)(x15:List cg)(x16:Int):Option (Bool×World) :=
  some ((r2,(World.mk ((ia.mk x5 x6 x7 x8)) ((cF.mk x9)) x10 x11 x12 x13 x14 x15 x16)))
def qx(u:Nat)(r2:Bool)(p0:World)(x5:List ak)(x6:Int):Option (Bool×World) :=
  some ((r2,(World.mk p0.fC p0.fT p0.b5 p0.bS p0.fN p0.fD x5 p0.bq x6)))
def lN(u:Nat)(x9:Bool)(p1:cG)(p0:World):Option (Bool×World) :=
  bif x9 then (some ((false,p0))) else ((c6 p0.bE p1.fN).bind λy10=>(c9 (decide (((([]:List Int)).length+y10.fB.length)*1<=140737488355328))).bind λ_=>(c9 (decide ((p0.bE.length+([(ak.mk y10.cm y10.mK ((([]:List Int))++y10.fB))]).length)*40<=140737488355328))).bind λ_=>some ((true,(World.mk p0.fC p0.fT p0.b5 p0.bS p0.fN p0.fD (p0.bE++([(ak.mk y10.cm y10.mK ((([]:List Int))++y10.fB))])) p0.bq p0.bB))))
def jL(u:Nat)(x10:Bool)(p1:cG)(p0:World):Option (Bool×World) :=
  bif x10 then (some ((false,p0))) else ((c6 p0.fN p1.fN).bind λy11=>(xS u y11).bind λr12=>(c6 p0.fN p1.fN).bind λy13=>(c6 p0.fD p1.fN).bind λy14=>(yy u y14 p1.fS).bind λr15=>(c6 p0.fD p1.fN).bind λy16=>some ((true,(World.mk p0.fC p0.fT p0.b5 p0.bS (p0.fN.set (sX p1.fN) r12) (p0.fD.set (sX p1.fN) r15) p0.bE p0.bq p0.bB))))
def jM(u:Nat)(x11:Bool)(p1:cG)(p0:World):Option (Bool×World) :=
  bif x11 then (some ((false,p0))) else ((lL u p0.fT p1.fN).bind λr12=>(c6 p0.fN p1.fN).bind λy13=>some ((true,(World.mk p0.fC p0.fT p0.b5 p0.bS (p0.fN.set (sX p1.fN) r12) p0.fD p0.bE p0.bq p0.bB))))
def lO(u:Nat)(x12:Bool)(p1:cG)(p0:World):Option (Bool×World) :=
  bif x12 then (some ((false,p0))) else ((c9 (decide (((([]:List Int)).length+p1.fP.fB.length)*1<=140737488355328))).bind λ_=>(c9 (decide ((p0.bE.length+([(ak.mk p1.fP.cm p1.fP.mK ((([]:List Int))++p1.fP.fB))]).length)*40<=140737488355328))).bind λ_=>some ((true,(World.mk p0.fC p0.fT p0.b5 p0.bS p0.fN p0.fD (p0.bE++([(ak.mk p1.fP.cm p1.fP.mK ((([]:List Int))++p1.fP.fB))])) p0.bq p0.bB))))
def rr(u:Nat)(p0:World)(p1:cG):Option (Bool×World) :=
  (bG u p1.fN 0 (dM .i64 ((p0.fN.length:Int)) 1)).bind λr1=>(bG u p1.fN 0 (dM .i64 ((p0.bE.length:Int)) 1)).bind λr2=>bif p1.bK == 1 then (bif r1 then ((m2 u p0 p1.fN).bind λr3=>qv u r1 r3.fC.aw r3.fC.bd r3.fC.aT r3.fC.a9 r3.fT.cf r3.b5 r3.bS r3.fN r3.fD r3.bE r3.bq r3.bB) else (qv u r1 p0.fC.aw p0.fC.bd p0.fC.aT p0.fC.a9 p0.fT.cf p0.b5 p0.bS p0.fN p0.fD p0.bE p0.bq p0.bB)) else (bif p1.bK == 2 then (bif r2 then ((m6 u p0 p1.fN).bind λr4=>qw u r2 r4.fC.aw r4.fC.bd r4.fC.aT r4.fC.a9 r4.fT.cf r4.b5 r4.bS r4.fN r4.fD r4.bE r4.bq r4.bB) else (qw u r2 p0.fC.aw p0.fC.bd p0.fC.aT p0.fC.a9 p0.fT.cf p0.b5 p0.bS p0.fN p0.fD p0.bE p0.bq p0.bB)) else (bif p1.bK == 3 then (bif r2 then ((c9 (cy 0 p1.fN p0.bE.length)).bind λ_=>(c9 (decide (((([]:List ak)).length+((p0.bE.take (sX p1.fN)).drop (sX 0)).length)*40<=140737488355328))).bind λ_=>(c9 (cy (aQ .i64 p1.fN 1) ((p0.bE.length:Int)) p0.bE.length)).bind λ_=>(c9 (decide ((((([]:List ak))++((p0.bE.take (sX p1.fN)).drop (sX 0))).length+((p0.bE.take (sX ((p0.bE.length:Int)))).drop (sX (aQ .i64 p1.fN 1))).length)*40<=140737488355328))).bind λ_=>qx u r2 p0 (((([]:List ak))++((p0.bE.take (sX p1.fN)).drop (sX 0)))++((p0.bE.take (sX ((p0.bE.length:Int)))).drop (sX (aQ .i64 p1.fN 1)))) (aQ .i64 p0.bB 1)) else (qx u r2 p0 p0.bE p0.bB)) else (bif p1.bK == 4 then (bif !r2 then (lN u true p1 p0) else (lN u (decide (((p0.bE.length:Int))>=400)) p1 p0)) else (bif p1.bK == 5 then (bif !r1 then (jL u true p1 p0) else (bif p1.fN == 0 then (jL u true p1 p0) else ((c6 p0.fN p1.fN).bind λy9=>jL u (!y9.gS) p1 p0))) else (bif p1.bK == 6 then (bif !r1 then (jM u true p1 p0) else (bif p1.fN == 0 then (jM u true p1 p0) else ((c6 p0.fN p1.fN).bind λy10=>jM u y10.gS p1 p0))) else (bif p1.bK == 7 then ((qu u p0 p1.fP).bind λr11=>bif !r11 then (lO u true p1 p0) else (lO u (decide (((p0.bE.length:Int))>=400)) p1 p0)) else (some ((false,p0)))))))))
def sD(u:Nat)(x59:List cG)(x60:List Int)(x61 x62:Int)(x63 x64:Int)(x65 x66:Int)(x67 x68:List Int)(x69:List bg)(x70:List aK)(x71:List aA)(x72:List ak)(x73:List cg)(x74:Int)(r1:World×aG):Option (World×(List cG)×World×aG) :=
  some ((r1.1,x59,(World.mk ((ia.mk x63 x64 x65 x66)) ((cF.mk x67)) x68 x69 x70 x71 x72 x73 x74),(aG.mk x60 x61 x62)))
def gN(u:Nat)(G7:(List cG)->Int->(List Int)->Int->Int->Int->Int->Int->Int->(List Int)->(List Int)->(List bg)->(List aK)->(List aA)->(List ak)->(List cg)->Int->(World×aG)->Option (World×(List cG)×World×aG))(x21:List cG)(x22:Int)(x55:Bool)(x23:List Int)(x24 x25:Int)(x26 x27:Int)(x28 x29:Int)(x30 x31:List Int)(x32:List bg)(x33:List aK)(x34:List aA)(x35:List ak)(x36:List cg)(x37:Int)(r1:World×aG):Option (World×(List cG)×World×aG) :=
  bif x55 then ((si u ((aG.mk x23 x24 x25)) ((World.mk ((ia.mk x26 x27 x28 x29)) ((cF.mk x30)) x31 x32 x33 x34 x35 x36 x37))).bind λr56=>(c9 (decide ((x21.length+([r56.1]).length)*64<=140737488355328))).bind λ_=>(rr u ((World.mk ((ia.mk x26 x27 x28 x29)) ((cF.mk x30)) x31 x32 x33 x34 x35 x36 x37)) r56.1).bind λr58=>G7 (x21++([r56.1])) (dM .i64 x22 1) r56.2.fB r56.2.fI r56.2.fH r58.2.fC.aw r58.2.fC.bd r58.2.fC.aT r58.2.fC.a9 r58.2.fT.cf r58.2.b5 r58.2.bS r58.2.fN r58.2.fD r58.2.bE r58.2.bq r58.2.bB r1) else (sD u x21 x23 x24 x25 x26 x27 x28 x29 x30 x31 x32 x33 x34 x35 x36 x37 r1)
def de(u gz:Nat)(x21:List cG)(x22:Int)(x23:List Int)(x24 x25:Int)(x26 x27:Int)(x28 x29:Int)(x30 x31:List Int)(x32:List bg)(x33:List aK)(x34:List aA)(x35:List ak)(x36:List cg)(x37:Int)(r1:World×aG):Option (World×(List cG)×World×aG):=match gz with
  | 0=>none
  | gz+1=>bif decide (x22 > 0) then (gN u (λz0 z1 z2 z3 z4 z5 z6 z7 z8 z9 z10 z11 z12 z13 z14 z15 z16 z17=>de u gz z0 z1 z2 z3 z4 z5 z6 z7 z8 z9 z10 z11 z12 z13 z14 z15 z16 z17) x21 x22 (decide (((x21.length:Int)) < 400)) x23 x24 x25 x26 x27 x28 x29 x30 x31 x32 x33 x34 x35 x36 x37 r1) else (gN u (λz0 z1 z2 z3 z4 z5 z6 z7 z8 z9 z10 z11 z12 z13 z14 z15 z16 z17=>de u gz z0 z1 z2 z3 z4 z5 z6 z7 z8 z9 z10 z11 z12 z13 z14 z15 z16 z17) x21 x22 false x23 x24 x25 x26 x27 x28 x29 x30 x31 x32 x33 x34 x35 x36 x37 r1)
def uy(u:Nat)(p0:aG)(p1:Int):Option (World×(List cG)×World×aG) :=
  (un u p0).bind λr1=>(rX u r1.1).bind λr2=>(aX u r1.2 p1).bind λr3=>de u u (([]:List cG)) (aQ .i64 5 r3.1) r3.2.fB r3.2.fI r3.2.fH r2.fC.aw r2.fC.bd r2.fC.aT r2.fC.a9 r2.fT.cf r2.b5 r2.bS r2.fN r2.fD r2.bE r2.bq r2.bB r1
def nX(u:Nat)(p0:aG)(p1:Int):Option (World×aG) :=
  (uy u p0 p1).bind λr1=>some ((r1.2.2.1,r1.2.2.2))
def mt(u:Nat)(x7 x8:Int)(x9 x10:Int)(x11:List Int)(x12 x13:Int):Option (ia×aG) :=
  some (((ia.mk x7 x8 x9 x10),(aG.mk x11 x12 x13)))
def uA(u:Nat)(p0:aG):Option (ia×aG) :=
  (pg u p0).bind λr1=>(aX u r1.2 12).bind λr2=>bif r2.1 == 0 then ((c8 u r2.2 (([1,6,7]:List Int))).bind λr3=>mt u r3.1 r1.1.bd r1.1.aT r1.1.a9 r3.2.fB r3.2.fI r3.2.fH) else (bif r2.1 == 1 then ((c8 u r2.2 (([0,40,41]:List Int))).bind λr4=>mt u r1.1.aw r4.1 r1.1.aT r1.1.a9 r4.2.fB r4.2.fI r4.2.fH) else (bif r2.1 == 2 then ((c8 u r2.2 (([0,5,6]:List Int))).bind λr5=>mt u r1.1.aw r1.1.bd r5.1 r1.1.a9 r5.2.fB r5.2.fI r5.2.fH) else (bif r2.1 == 3 then ((c8 u r2.2 (([1,8,9]:List Int))).bind λr6=>mt u r1.1.aw r1.1.bd r1.1.aT r6.1 r6.2.fB r6.2.fI r6.2.fH) else (mt u r1.1.aw r1.1.bd r1.1.aT r1.1.a9 r2.2.fB r2.2.fI r2.2.fH))))
def sE(u:Nat)(x6 x7:List Int)(x8 x9:Int):Option (cF×aG) :=
  some (((cF.mk x6),(aG.mk x7 x8 x9)))
def uB(u:Nat)(p0:aG):Option (cF×aG) :=
  (pf u p0).bind λr1=>(aX u r1.2 8).bind λr2=>bif r2.1 == 0 then ((aX u r2.2 ((r1.1.cf.length:Int))).bind λr3=>(c8 u r3.2 (([-1,0,6,-2]:List Int))).bind λr4=>(c6 r1.1.cf r3.1).bind λy5=>sE u (r1.1.cf.set (sX r3.1) r4.1) r4.2.fB r4.2.fI r4.2.fH) else (bif r2.1 == 1 then (sE u (([]:List Int)) r2.2.fB r2.2.fI r2.2.fH) else (sE u r1.1.cf r2.2.fB r2.2.fI r2.2.fH))
def qy(u:Nat)(p0:aG):Option (dA×aG) :=
  (gZ u p0 4).bind λr1=>bif r1.1 then ((aX u r1.2 4).bind λr2=>(aX u r2.2 2).bind λr3=>(aX u r3.2 6).bind λr4=>some (((dA.mk 2 0 ([]) ((c7.mk r2.1 r3.1 r4.1))),r4.2))) else ((aX u r1.2 2).bind λr5=>(aX u r5.2 9).bind λr6=>(fQ u r6.2 5).bind λr7=>some (((dA.mk r5.1 r6.1 r7.1 ((c7.mk 0 0 0))),r7.2)))
def wt(u:Nat)(x47 x48:List Int)(x49 x50 x51:Int)(x52:List dA)(x53:List Int)(x54 x55:Int):Option (aA×aG) :=
  some (((aA.mk x47 x48 ((c7.mk x49 x50 x51)) x52),(aG.mk x53 x54 x55)))
def oN(u:Nat)(pT:Int->(List Int)->(List Int)->Int->Int->Int->(List dA)->(List Int)->Int->Int->Option (aA×aG))(x15:Int)(x41 x42:List Int)(x43 x44 x45:Int)(x46:List dA)(r38:Bool×aG):Option (aA×aG) :=
  pT (dM .i64 x15 1) x41 x42 x43 x44 x45 x46 r38.2.fB r38.2.fI r38.2.fH
def oO(u:Nat)(pT:Int->(List Int)->(List Int)->Int->Int->Int->(List dA)->(List Int)->Int->Int->Option (aA×aG))(x15:Int)(x40:Bool)(r36:aA×Bool)(r38:Bool×aG)(r37:aA):Option (aA×aG) :=
  bif x40 then (oN u pT x15 r37.fA r37.fB r37.fR.aS r37.fR.ch r37.fR.aY r37.fP r38) else (oN u pT x15 r36.1.fA r36.1.fB r36.1.fR.aS r36.1.fR.ch r36.1.fR.aY r36.1.fP r38)
def fF(u fb:Nat)(x15:Int)(x16 x17:List Int)(x18 x19 x20:Int)(x21:List dA)(x22:List Int)(x23 x24:Int):Option (aA×aG):=match fb with
  | 0=>none
  | fb+1=>bif decide (x15 > 0) then ((qy u ((aG.mk x22 x23 x24))).bind λr35=>(m0 u ((aA.mk x16 x17 ((c7.mk x18 x19 x20)) x21)) r35.1).bind λr36=>(pv u r36.1).bind λr37=>(gZ u r35.2 5).bind λr38=>bif r38.1 then ((jJ u r37).bind λr39=>oO u (λz0 z1 z2 z3 z4 z5 z6 z7 z8 z9=>fF u fb z0 z1 z2 z3 z4 z5 z6 z7 z8 z9) x15 r39 r36 r38 r37) else (oO u (λz0 z1 z2 z3 z4 z5 z6 z7 z8 z9=>fF u fb z0 z1 z2 z3 z4 z5 z6 z7 z8 z9) x15 false r36 r38 r37)) else (wt u x16 x17 x18 x19 x20 x21 x22 x23 x24)
def uC(u:Nat)(p0:aG):Option (aA×aG) :=
  (aX u p0 3).bind λr1=>(fQ u r1.2 9).bind λr2=>(lg u r1.1 r2.1).bind λr3=>(aX u r2.2 5).bind λr4=>fF u u r4.1 r3.fA r3.fB r3.fR.aS r3.fR.ch r3.fR.aY r3.fP r4.2.fB r4.2.fI r4.2.fH
def lP(u:Nat)(r1:aA×aG)(x8 x9 x10:Int)(x11:List dA)(x12:List Int)(x13 x14:Int):Option (aA×aG) :=
  some (((aA.mk r1.1.fA r1.1.fB ((c7.mk x8 x9 x10)) x11),(aG.mk x12 x13 x14)))
def tM(u:Nat)(p0:aG):Option (aA×aG) :=
  (uC u p0).bind λr1=>(aX u r1.2 12).bind λr2=>bif r2.1 == 0 then ((c8 u r2.2 (([-1,0,240,241]:List Int))).bind λr3=>lP u r1 r1.1.fR.aS r1.1.fR.ch r3.1 r1.1.fP r3.2.fB r3.2.fI r3.2.fH) else (bif r2.1 == 1 then ((c8 u r2.2 (([-1,1,2]:List Int))).bind λr4=>lP u r1 r1.1.fR.aS r4.1 r1.1.fR.aY r1.1.fP r4.2.fB r4.2.fI r4.2.fH) else (bif r2.1 == 2 then ((c8 u r2.2 (([-1,1000001]:List Int))).bind λr5=>lP u r1 r5.1 r1.1.fR.ch r1.1.fR.aY r1.1.fP r5.2.fB r5.2.fI r5.2.fH) else (bif r2.1 == 3 then ((c8 u r2.2 (([3,0,2]:List Int))).bind λr6=>(c8 u r6.2 (([-1,240,0]:List Int))).bind λr7=>(c9 (decide ((r1.1.fP.length+([(dA.mk r6.1 r7.1 (([1]:List Int)) ((c7.mk 0 0 0)))]).length)*64<=140737488355328))).bind λ_=>lP u r1 r1.1.fR.aS r1.1.fR.ch r1.1.fR.aY (r1.1.fP++([(dA.mk r6.1 r7.1 (([1]:List Int)) ((c7.mk 0 0 0)))])) r7.2.fB r7.2.fI r7.2.fH) else (lP u r1 r1.1.fR.aS r1.1.fR.ch r1.1.fR.aY r1.1.fP r2.2.fB r2.2.fI r2.2.fH))))
def jN(u:Nat)(x8 x9 x10:Int)(x11:List cn)(x12:List Int)(x13 x14:Int):Option (ag×aG) :=
  some (((ag.mk x8 x9 x10 x11),(aG.mk x12 x13 x14)))
def tN(u:Nat)(p0:aG):Option (ag×aG) :=
  (oD u p0).bind λr1=>(aX u r1.2.2 10).bind λr2=>bif r2.1 == 0 then ((c8 u r2.2 (([0,-1,1000000,1000001]:List Int))).bind λr3=>jN u r3.1 r1.1.aw r1.1.aY r1.1.aC r3.2.fB r3.2.fI r3.2.fH) else (bif r2.1 == 1 then ((c8 u r2.2 (([0,1,7]:List Int))).bind λr4=>jN u r1.1.aS r4.1 r1.1.aY r1.1.aC r4.2.fB r4.2.fI r4.2.fH) else (bif r2.1 == 2 then (jN u r1.1.aS r1.1.aw (aQ .i64 r1.1.aY 1) r1.1.aC r2.2.fB r2.2.fI r2.2.fH) else (bif r2.1 == 3 then ((c9 (decide ((r1.1.aC.length+([(cn.mk 1 257)]).length)*16<=140737488355328))).bind λ_=>jN u r1.1.aS r1.1.aw r1.1.aY (r1.1.aC++([(cn.mk 1 257)])) r2.2.fB r2.2.fI r2.2.fH) else (bif r2.1 == 4 then (bif decide (((r1.1.aC.length:Int)) > 0) then ((c6 r1.1.aC 0).bind λy6=>(c6 r1.1.aC 0).bind λy7=>jN u r1.1.aS r1.1.aw r1.1.aY (r1.1.aC.set (sX 0) ((cn.mk (aQ .i64 y6.fW 1) y7.fS))) r2.2.fB r2.2.fI r2.2.fH) else (jN u r1.1.aS r1.1.aw r1.1.aY r1.1.aC r2.2.fB r2.2.fI r2.2.fH)) else (jN u r1.1.aS r1.1.aw r1.1.aY r1.1.aC r2.2.fB r2.2.fI r2.2.fH)))))
def cQ(u:Nat)(x24:List Int)(x25 x26:Int)(x27 x28:Int)(x29 x30:Int)(x31 x32:List Int)(x33:List bg)(x34:List aK)(x35:List aA)(x36:List ak)(r1:World×aG)(x37:Int):Option (World×aG) :=
  some (((World.mk ((ia.mk x27 x28 x29 x30)) ((cF.mk x31)) x32 x33 x34 x35 x36 r1.1.bq x37),(aG.mk x24 x25 x26)))
def rA(u:Nat)(p0:aG)(p1:Int):Option (World×aG) :=
  (nX u p0 p1).bind λr1=>(aX u r1.2 ((r1.1.fN.length:Int))).bind λr2=>(aX u r2.2 40).bind λr3=>bif r3.1 == 0 then ((uA u r3.2).bind λr4=>cQ u r4.2.fB r4.2.fI r4.2.fH r4.1.aw r4.1.bd r4.1.aT r4.1.a9 r1.1.fT.cf r1.1.b5 r1.1.bS r1.1.fN r1.1.fD r1.1.bE r1 r1.1.bB) else (bif r3.1 == 1 then ((uB u r3.2).bind λr5=>cQ u r5.2.fB r5.2.fI r5.2.fH r1.1.fC.aw r1.1.fC.bd r1.1.fC.aT r1.1.fC.a9 r5.1.cf r1.1.b5 r1.1.bS r1.1.fN r1.1.fD r1.1.bE r1 r1.1.bB) else (bif r3.1 == 2 then ((k9 u r3.2).bind λr6=>cQ u r6.2.fB r6.2.fI r6.2.fH r1.1.fC.aw r1.1.fC.bd r1.1.fC.aT r1.1.fC.a9 r1.1.fT.cf r6.1 r1.1.bS r1.1.fN r1.1.fD r1.1.bE r1 r1.1.bB) else (bif r3.1 == 3 then ((aX u r3.2 7).bind λr7=>(c6 r1.1.fN r2.1).bind λy8=>cQ u r7.2.fB r7.2.fI r7.2.fH r1.1.fC.aw r1.1.fC.bd r1.1.fC.aT r1.1.fC.a9 r1.1.fT.cf r1.1.b5 r1.1.bS (r1.1.fN.set (sX r2.1) ((aK.mk y8.gS y8.bM y8.bF y8.aD y8.bw r7.1 y8.bf y8.br))) r1.1.fD r1.1.bE r1 r1.1.bB) else (bif r3.1 == 4 then ((aX u r3.2 7).bind λr9=>(c6 r1.1.fN r2.1).bind λy10=>cQ u r9.2.fB r9.2.fI r9.2.fH r1.1.fC.aw r1.1.fC.bd r1.1.fC.aT r1.1.fC.a9 r1.1.fT.cf r1.1.b5 r1.1.bS (r1.1.fN.set (sX r2.1) ((aK.mk y10.gS (dM .i64 r9.1 1) y10.bF y10.aD y10.bw y10.bi y10.bf y10.br))) r1.1.fD r1.1.bE r1 r1.1.bB) else (bif r3.1 == 5 then ((tM u r3.2).bind λr11=>(c6 r1.1.fD r2.1).bind λy12=>cQ u r11.2.fB r11.2.fI r11.2.fH r1.1.fC.aw r1.1.fC.bd r1.1.fC.aT r1.1.fC.a9 r1.1.fT.cf r1.1.b5 r1.1.bS r1.1.fN (r1.1.fD.set (sX r2.1) r11.1) r1.1.bE r1 r1.1.bB) else (bif r3.1 == 6 then ((tN u r3.2).bind λr13=>(c6 r1.1.fN r2.1).bind λy14=>cQ u r13.2.fB r13.2.fI r13.2.fH r1.1.fC.aw r1.1.fC.bd r1.1.fC.aT r1.1.fC.a9 r1.1.fT.cf r1.1.b5 r1.1.bS (r1.1.fN.set (sX r2.1) ((aK.mk y14.gS y14.bM y14.bF r13.1 y14.bw y14.bi y14.bf y14.br))) r1.1.fD r1.1.bE r1 r1.1.bB) else (bif r3.1 == 7 then ((aX u r3.2 9).bind λr15=>(aX u r15.2 9).bind λr16=>(c9 (decide ((r1.1.bE.length+([(ak.mk (dM .i64 r15.1 1) (dM .i64 r16.1 1) ([]))]).length)*40<=140737488355328))).bind λ_=>cQ u r16.2.fB r16.2.fI r16.2.fH r1.1.fC.aw r1.1.fC.bd r1.1.fC.aT r1.1.fC.a9 r1.1.fT.cf r1.1.b5 r1.1.bS r1.1.fN r1.1.fD (r1.1.bE++([(ak.mk (dM .i64 r15.1 1) (dM .i64 r16.1 1) ([]))])) r1 r1.1.bB) else (bif r3.1 == 8 then (cQ u r3.2.fB r3.2.fI r3.2.fH r1.1.fC.aw r1.1.fC.bd r1.1.fC.aT r1.1.fC.a9 r1.1.fT.cf r1.1.b5 r1.1.bS r1.1.fN r1.1.fD r1.1.bE r1 (-1)) else (bif r3.1 == 9 then ((c9 (cy 1 ((r1.1.fD.length:Int)) r1.1.fD.length)).bind λ_=>cQ u r3.2.fB r3.2.fI r3.2.fH r1.1.fC.aw r1.1.fC.bd r1.1.fC.aT r1.1.fC.a9 r1.1.fT.cf r1.1.b5 r1.1.bS r1.1.fN ((r1.1.fD.take (sX ((r1.1.fD.length:Int)))).drop (sX 1)) r1.1.bE r1 r1.1.bB) else (bif r3.1 == 10 then ((c6 r1.1.fN r2.1).bind λy19=>(c6 r1.1.fN r2.1).bind λy20=>cQ u r3.2.fB r3.2.fI r3.2.fH r1.1.fC.aw r1.1.fC.bd r1.1.fC.aT r1.1.fC.a9 r1.1.fT.cf r1.1.b5 r1.1.bS (r1.1.fN.set (sX r2.1) ((aK.mk (!y19.gS) y20.bM y20.bF y20.aD y20.bw y20.bi y20.bf y20.br))) r1.1.fD r1.1.bE r1 r1.1.bB) else (bif r3.1 == 11 then ((c6 r1.1.bS r2.1).bind λy21=>(c9 (decide ((y21.fB.length+(([1]:List Int)).length)*1<=140737488355328))).bind λ_=>(c6 r1.1.bS r2.1).bind λy23=>cQ u r3.2.fB r3.2.fI r3.2.fH r1.1.fC.aw r1.1.fC.bd r1.1.fC.aT r1.1.fC.a9 r1.1.fT.cf r1.1.b5 (r1.1.bS.set (sX r2.1) ((bg.mk (y21.fB++(([1]:List Int)))))) r1.1.fN r1.1.fD r1.1.bE r1 r1.1.bB) else (cQ u r3.2.fB r3.2.fI r3.2.fH r1.1.fC.aw r1.1.fC.bd r1.1.fC.aT r1.1.fC.a9 r1.1.fT.cf r1.1.b5 r1.1.bS r1.1.fN r1.1.fD r1.1.bE r1 r1.1.bB))))))))))))
def lp(u:Nat)(p0:List Int)(p1:Int):Option (aG×World) :=
  (wa u p0).bind λr1=>(rA u r1 p1).bind λr2=>some ((r2.2,r2.1))
def nC(u:Nat)(x3:Bool)(x4:List Int)(x5 x6:Int)(r1:aG×World):Option (World×Int×Int) :=
  bif x3 then ((aX u ((aG.mk x4 x5 x6)) ((r1.2.bq.length:Int))).bind λr7=>(c6 r1.2.bq r7.1).bind λy8=>some ((r1.2,y8.cm,y8.mK))) else ((aX u ((aG.mk x4 x5 x6)) 7).bind λr9=>(aX u r9.2 7).bind λr10=>some ((r1.2,r9.1,r10.1)))
def vI(u:Nat)(p0:List Int):Option (World×Int×Int) :=
  (lp u p0 120).bind λr1=>bif decide (((r1.2.bq.length:Int)) > 0) then ((gZ u r1.1 2).bind λr2=>nC u r2.1 r2.2.fB r2.2.fI r2.2.fH r1) else (nC u false r1.1.fB r1.1.fI r1.1.fH r1)
def kC(u:Nat)(p0:List Int):Option (World×Int×Int) :=
  (vI u p0).bind λr1=>some ((r1.1,r1.2.1,r1.2.2))
def kD(u:Nat)(p0:List Int):Option World :=
  (lp u p0 150).bind λr1=>some r1.2
def xe(u:Nat)(p0:List Int):Option (World×Int) :=
  (lp u p0 60).bind λr1=>(aX u r1.1 9).bind λr2=>some ((r1.2,dM .i64 r2.1 1))
def qz(u:Nat)(p0:List Int):Option (World×Int) :=
  (xe u p0).bind λr1=>some ((r1.1,r1.2))
def mu(u:Nat)(p0:List Int):Option World :=
  (lp u p0 30).bind λr1=>some r1.2
def oa(u:Nat)(x10:List Int):Option ((List Int)) :=
  some x10
def oc(u:Nat)(lV:Int->Int->(List Int)->World->Int->Option ((List Int)))(p1 p2:Int)(x9:List Int)(p0:World)(x4:Int):Option ((List Int)) :=
  lV p1 p2 x9 p0 (aQ .i64 x4 1)
def ja(u:Nat)(lV:Int->Int->(List Int)->World->Int->Option ((List Int)))(p1 p2:Int)(x3:List Int)(p0:World)(x4:Int)(x8:Bool)(y7:cg):Option ((List Int)) :=
  bif x8 then ((c9 (decide ((x3.length+(([y7.fI]:List Int)).length)*8<=140737488355328))).bind λ_=>oc u lV p1 p2 (x3++(([y7.fI]:List Int))) p0 x4) else (oc u lV p1 p2 x3 p0 x4)
def er(u dI:Nat)(p1 p2:Int)(x3:List Int)(p0:World)(x4:Int):Option ((List Int)):=match dI with
  | 0=>none
  | dI+1=>bif decide (x4 < ((p0.bq.length:Int))) then ((c6 p0.bq x4).bind λy7=>bif y7.cm == p1 then (ja u (λz0 z1 z2 z3 z4=>er u dI z0 z1 z2 z3 z4) p1 p2 x3 p0 x4 (y7.mK == p2) y7) else (ja u (λz0 z1 z2 z3 z4=>er u dI z0 z1 z2 z3 z4) p1 p2 x3 p0 x4 false y7)) else (oa u x3)
def iR(u:Nat)(p0:World)(p1 p2:Int):Option ((List Int)) :=
  er u u p1 p2 (([]:List Int)) p0 0
def pV(u:Nat)(p1 p2:Int)(p0:World)(s:(List Int)):Option ((List Int)):=(oa u s)
def pW(u:Nat)(p1 p2:Int)(p0:World)(y7:cg)(i_:Nat)(s:(List Int))(k_:((List Int))->Option ((List Int))):Option ((List Int)):=bif y7.cm == p1 then (ja u (λz0 z1 z2 z3 z4=>k_ z2) p1 p2 s p0 (i_:Int) (y7.mK == p2) y7) else (ja u (λz0 z1 z2 z3 z4=>k_ z2) p1 p2 s p0 (i_:Int) false y7)
theorem Cf(u:Nat)(p1 p2:Int)(p0:World)(s:(List Int))(k:Nat)(hn:p0.bq.length<=9223372036854775807)(hk:p0.bq.length < k):er u k p1 p2 s p0 0=Pu.bP (pV u p1 p2 p0) (pW u p1 p2 p0) p0.bq 0 s:=Pu.dh (λ(k:Nat) (s:(List Int)) (i:Int)=>er u k p1 p2 s p0 i) hn (λ_ _ _=>rfl) s hk
def od(u:Nat)(x12:List Int):Option ((List Int)) :=
  some x12
def oe(u:Nat)(lW:Int->Int->(List Int)->Int->World->Option ((List Int)))(p1 p2:Int)(x11:List Int)(x4:Int)(p0:World):Option ((List Int)) :=
  lW p1 p2 x11 (aQ .i64 x4 1) p0
def jb(u:Nat)(lW:Int->Int->(List Int)->Int->World->Option ((List Int)))(p1 p2:Int)(x3:List Int)(x4:Int)(x9:Bool)(p0:World):Option ((List Int)) :=
  bif x9 then ((c6 p0.bq x4).bind λy10=>(c9 (decide ((x3.length+(([y10.fI]:List Int)).length)*8<=140737488355328))).bind λ_=>oe u lW p1 p2 (x3++(([y10.fI]:List Int))) x4 p0) else (oe u lW p1 p2 x3 x4 p0)
def et(u dJ:Nat)(p1 p2:Int)(x3:List Int)(x4:Int)(p0:World):Option ((List Int)):=match dJ with
  | 0=>none
  | dJ+1=>bif decide (x4 < ((p0.bq.length:Int))) then ((c6 p0.bq x4).bind λy7=>bif y7.cm == p1 then ((c6 p0.bq x4).bind λy8=>jb u (λz0 z1 z2 z3 z4=>et u dJ z0 z1 z2 z3 z4) p1 p2 x3 x4 (y8.mK == p2) p0) else (jb u (λz0 z1 z2 z3 z4=>et u dJ z0 z1 z2 z3 z4) p1 p2 x3 x4 false p0)) else (od u x3)
def mv(u:Nat)(p0:World)(p1 p2:Int):Option ((List Int)) :=
  et u u p1 p2 (([]:List Int)) 0 p0
def pX(u:Nat)(p1 p2:Int)(p0:World)(s:(List Int)):Option ((List Int)):=(od u s)
def pY(u:Nat)(p1 p2:Int)(p0:World)(y7:cg)(i_:Nat)(s:(List Int))(k_:((List Int))->Option ((List Int))):Option ((List Int)):=bif y7.cm == p1 then ((c6 p0.bq (i_:Int)).bind λy8=>jb u (λz0 z1 z2 z3 z4=>k_ z2) p1 p2 s (i_:Int) (y8.mK == p2) p0) else (jb u (λz0 z1 z2 z3 z4=>k_ z2) p1 p2 s (i_:Int) false p0)
theorem Cg(u:Nat)(p1 p2:Int)(p0:World)(s:(List Int))(k:Nat)(hn:p0.bq.length<=9223372036854775807)(hk:p0.bq.length < k):et u k p1 p2 s 0 p0=Pu.bP (pX u p1 p2 p0) (pY u p1 p2 p0) p0.bq 0 s:=Pu.dh (λ(k:Nat) (s:(List Int)) (i:Int)=>et u k p1 p2 s i p0) hn (λ_ _ _=>rfl) s hk
def tO(u:Nat)  : Option Bool :=
  some true
def ka(u ir:Nat)(p0 p1:List Int)(x2:Int):Option Bool:=match ir with
  | 0=>none
  | ir+1=>bif decide (x2 < ((p0.length:Int))) then ((c6 p0 x2).bind λy4=>(c6 p1 x2).bind λy5=>bif y4 != y5 then (some false) else ((λz0 z1 z2=>ka u ir z0 z1 z2) p0 p1 (aQ .i64 x2 1))) else (tO u)
def qA(u:Nat)(p0 p1:List Int):Option Bool :=
  bif ((p0.length:Int)) != ((p1.length:Int)) then (some false) else (ka u u p0 p1 0)
def C2(u:Nat)(p0 p1:List Int)(s:Unit):Option Bool:=(tO u)
def wu(u:Nat)(p0 p1:List Int)(y4:Int)(i_:Nat)(s:Unit)(k_:Unit->Option Bool):Option Bool:=(c6 p1 (i_:Int)).bind λy5=>bif y4 != y5 then (some false) else ((λz0 z1 z2=>k_ ()) p0 p1 (aQ .i64 (i_:Int) 1))
theorem C3(u:Nat)(p0 p1:List Int)(s:Unit)(k:Nat)(hn:p0.length<=9223372036854775807)(hk:p0.length < k):ka u k p0 p1 0=Pu.bP (C2 u p0 p1) (wu u p0 p1) p0 0 s:=Pu.dh (λ(k:Nat) (s:Unit) (i:Int)=>ka u k p0 p1 i) hn (λ_ _ _=>rfl) s hk
def gB(x:cg):List Int:=[x.cm,x.mK,x.fI]
def gO(u p9:Nat)(x3:Int)(ks:List (List Int))(p0:World)(x4:Int):Option Int:=match p9 with
  | 0=>none
  | p9+1=>bif decide (x4 < ((p0.bq.length:Int))) then ((c6 p0.bq x4).bind λy7=>gO u p9 (bif ks.contains (gB y7) then aQ .i64 x3 1 else x3) (JP ks (gB y7)) p0 (aQ .i64 x4 1)) else (some x3)
def sF(u:Nat)(p0:World):Option Int :=
  gO u u 0 [] p0 0
def xg(u:Nat)(x18:Int):Option Int :=
  some x18
def og(u:Nat)(bI:Int->Int->World->Option Int)(x17 x4:Int)(p0:World):Option Int :=
  bI x17 (aQ .i64 x4 1) p0
def lq(u:Nat)(bI:Int->Int->World->Option Int)(x3 x4:Int)(x16:Bool)(p0:World):Option Int :=
  bif x16 then (og u bI (aQ .i64 x3 1) x4 p0) else (og u bI x3 x4 p0)
def gP(u:Nat)(bI:Int->Int->World->Option Int)(Cv:Int->Int->Bool->Int->World->Option Int)(x3 x4:Int)(x15:Bool)(x10:Int)(p0:World):Option Int :=
  Cv x3 x4 x15 (aQ .i64 x10 1) p0
def df(u:Nat)(bI:Int->Int->World->Option Int)(ei:Nat)(x3 x4:Int)(x9:Bool)(x10:Int)(p0:World):Option Int:=match ei with
  | 0=>none
  | ei+1=>bif decide (x10 < x4) then (bif x9 then (gP u bI (λz0 z1 z2 z3 z4=>df u bI ei z0 z1 z2 z3 z4) x3 x4 true x10 p0) else ((c6 p0.bq x10).bind λy13=>(c6 p0.bq x4).bind λy14=>gP u bI (λz0 z1 z2 z3 z4=>df u bI ei z0 z1 z2 z3 z4) x3 x4 ([y13.cm,y13.mK,y13.fI] == [y14.cm,y14.mK,y14.fI]) x10 p0)) else (lq u bI x3 x4 x9 p0)
def cK(u cR:Nat)(x3 x4:Int)(p0:World):Option Int:=match cR with
  | 0=>none
  | cR+1=>bif decide (x4 < ((p0.bq.length:Int))) then (df u (λz0 z1 z2=>cK u cR z0 z1 z2) u x3 x4 false 0 p0) else (xg u x3)
def sG(u:Nat)(p0:World):Option Int :=
  cK u u 0 0 p0
def Ch(u:Nat)(bI:Int->Int->World->Option Int)(x3 x4:Int)(p0:World)(s:Bool):Option Int:=(lq u bI x3 x4 s p0)
def Ci(u:Nat)(bI:Int->Int->World->Option Int)(x3 x4:Int)(p0:World)(i_:Nat)(s:Bool)(k_:Bool->Option Int):Option Int:=bif s then (gP u bI (λz0 z1 z2 z3 z4=>k_ z2) x3 x4 true (i_:Int) p0) else ((c6 p0.bq (i_:Int)).bind λy13=>(c6 p0.bq x4).bind λy14=>gP u bI (λz0 z1 z2 z3 z4=>k_ z2) x3 x4 ([y13.cm,y13.mK,y13.fI] == [y14.cm,y14.mK,y14.fI]) (i_:Int) p0)
theorem P1(u:Nat)(bI:Int->Int->World->Option Int)(x3 x4:Int)(p0:World)(s:Bool)(k:Nat)(hn:(x4:Int)<=9223372036854775807)(hk:sX (x4) < k):df u bI k x3 x4 s 0 p0=Pu.lS (Ch u bI x3 x4 p0) (Ci u bI x3 x4 p0) (sX (x4)) 0 s:=Pu.mB (λ(k:Nat) (s:Bool) (i:Int)=>df u bI k x3 x4 s i p0) hn (λ_ _ _=>rfl) s hk
def dE(u:Nat)(p0 p1 p2:Int):Option Bool :=
  bif decide (p0>=p1) then (some (decide (p0<=p2))) else (some false)
def rB(u:Nat)(p0 p1:Int):Option Bool :=
  (dE u p0 2 6).bind λr1=>bif r1 then ((dE u p1 0 (jC .i64 40 p0)).bind λr2=>some r2) else (some false)
def q6(u:Nat)(p0 p1:Int)(x3:Bool):Option Int :=
  bif x3 then (some 0) else ((c9 (!(p1 == 0))).bind λ_=>some (Qn .i64 (dM .i64 (aQ .i64 p0 p1) 1) p1))
def sH(u:Nat)(p0 p1:Int):Option Int :=
  (dE u p0 0 1000000000000).bind λr1=>bif !r1 then (q6 u p0 p1 true) else ((dE u p1 1 1000000000000).bind λr2=>q6 u p0 p1 (!r2))
def rC(u:Nat)(p0 p1:Int):Option Int :=
  (rB u p0 p1).bind λr1=>bif !r1 then (some 0) else ((sH u p1 p0).bind λr2=>some r2)
def lr(u:Nat)(p0 p1 p2:Int):Option (Int×Int) :=
  (rC u p0 p1).bind λr1=>(dE u p2 0 (dM .i64 r1 1)).bind λr2=>bif !r2 then (some ((0,0))) else (some ((jC .i64 p2 p0,if (dM .i64 p1 (jC .i64 p2 p0)) < p0 then (dM .i64 p1 (jC .i64 p2 p0)) else p0)))
def ef(u:Nat)(p0:World)(p1:Int):Option Int :=
  (lr u p0.fC.aw ((p0.b5.length:Int)) p1).bind λr1=>some r1.2
def sI(u:Nat)(x10:Int):Option Int :=
  some x10
def jc(u gW:Nat)(x4:Int)(r1:(List Int))(x5:Int)(p0:World):Option Int:=match gW with
  | 0=>none
  | gW+1=>bif decide (x5 < ((r1.length:Int))) then ((c6 r1 x5).bind λy8=>(ef u p0 y8).bind λr9=>(λz0 z1 z2 z3=>jc u gW z0 z1 z2 z3) (aQ .i64 x4 r9) r1 (aQ .i64 x5 1) p0) else (sI u x4)
def mw(u:Nat)(p0:World)(p1 p2:Int):Option Int :=
  (iR u p0 p1 p2).bind λr1=>jc u u 0 r1 0 p0
def vu(u:Nat)(r1:(List Int))(p0:World)(s:Int):Option Int:=(sI u s)
def pZ(u:Nat)(r1:(List Int))(p0:World)(y8:Int)(i_:Nat)(s:Int)(k_:Int->Option Int):Option Int:=(ef u p0 y8).bind λr9=>(λz0 z1 z2 z3=>k_ z0) (aQ .i64 s r9) r1 (aQ .i64 (i_:Int) 1) p0
theorem Cj(u:Nat)(r1:(List Int))(p0:World)(s:Int)(k:Nat)(hn:r1.length<=9223372036854775807)(hk:r1.length < k):jc u k s r1 0 p0=Pu.bP (vu u r1 p0) (pZ u r1 p0) r1 0 s:=Pu.dh (λ(k:Nat) (s i:Int)=>jc u k s r1 i p0) hn (λ_ _ _=>rfl) s hk
def jO(u:Nat)(p0:World)(p1:Int):Option Int :=
  (dB u p0.fC.aw ((p0.b5.length:Int)) p1).bind λr1=>some r1.2
def sJ(u:Nat)(x10:Int):Option Int :=
  some x10
def jd(u gX:Nat)(x4:Int)(r1:(List Int))(x5:Int)(p0:World):Option Int:=match gX with
  | 0=>none
  | gX+1=>bif decide (x5 < ((r1.length:Int))) then ((c6 r1 x5).bind λy8=>(jO u p0 y8).bind λr9=>(λz0 z1 z2 z3=>jd u gX z0 z1 z2 z3) (aQ .i64 x4 r9) r1 (aQ .i64 x5 1) p0) else (sJ u x4)
def oP(u:Nat)(p0:World)(p1 p2:Int):Option Int :=
  (mv u p0 p1 p2).bind λr1=>jd u u 0 r1 0 p0
def vw(u:Nat)(r1:(List Int))(p0:World)(s:Int):Option Int:=(sJ u s)
def p5(u:Nat)(r1:(List Int))(p0:World)(y8:Int)(i_:Nat)(s:Int)(k_:Int->Option Int):Option Int:=(jO u p0 y8).bind λr9=>(λz0 z1 z2 z3=>k_ z0) (aQ .i64 s r9) r1 (aQ .i64 (i_:Int) 1) p0
theorem Ck(u:Nat)(r1:(List Int))(p0:World)(s:Int)(k:Nat)(hn:r1.length<=9223372036854775807)(hk:r1.length < k):jd u k s r1 0 p0=Pu.bP (vw u r1 p0) (p5 u r1 p0) r1 0 s:=Pu.dh (λ(k:Nat) (s i:Int)=>jd u k s r1 i p0) hn (λ_ _ _=>rfl) s hk
def zk(u:Nat)(x10:Int):Option Int :=
  some x10
def pD(u:Nat)(Ln:Int->Int->World->Int->Option Int)(p1 x9:Int)(p0:World)(x4:Int):Option Int :=
  Ln p1 x9 p0 (aQ .i64 x4 1)
def lu(u i3:Nat)(p1 x3:Int)(p0:World)(x4:Int):Option Int:=match i3 with
  | 0=>none
  | i3+1=>bif decide (x4 < ((p0.bq.length:Int))) then ((c6 p0.bq x4).bind λy7=>bif y7.mK == p1 then ((ef u p0 y7.fI).bind λr8=>pD u (λz0 z1 z2 z3=>lu u i3 z0 z1 z2 z3) p1 (aQ .i64 x3 r8) p0 x4) else (pD u (λz0 z1 z2 z3=>lu u i3 z0 z1 z2 z3) p1 x3 p0 x4)) else (zk u x3)
def vR(u:Nat)(p0:World)(p1:Int):Option Int :=
  lu u u p1 0 p0 0
def AO(u:Nat)(p1:Int)(p0:World)(s:Int):Option Int:=(zk u s)
def wv(u:Nat)(p1:Int)(p0:World)(y7:cg)(i_:Nat)(s:Int)(k_:Int->Option Int):Option Int:=bif y7.mK == p1 then ((ef u p0 y7.fI).bind λr8=>pD u (λz0 z1 z2 z3=>k_ z1) p1 (aQ .i64 s r8) p0 (i_:Int)) else (pD u (λz0 z1 z2 z3=>k_ z1) p1 s p0 (i_:Int))
theorem Jh(u:Nat)(p1:Int)(p0:World)(s:Int)(k:Nat)(hn:p0.bq.length<=9223372036854775807)(hk:p0.bq.length < k):lu u k p1 s p0 0=Pu.bP (AO u p1 p0) (wv u p1 p0) p0.bq 0 s:=Pu.dh (λ(k:Nat) (s i:Int)=>lu u k p1 s p0 i) hn (λ_ _ _=>rfl) s hk
def zl(u:Nat)(x11:Int):Option Int :=
  some x11
def pE(u:Nat)(Lq:Int->Int->Int->World->Option Int)(p1 x10 x4:Int)(p0:World):Option Int :=
  Lq p1 x10 (aQ .i64 x4 1) p0
def ly(u i7:Nat)(p1 x3 x4:Int)(p0:World):Option Int:=match i7 with
  | 0=>none
  | i7+1=>bif decide (x4 < ((p0.bq.length:Int))) then ((c6 p0.bq x4).bind λy7=>bif y7.mK == p1 then ((c6 p0.bq x4).bind λy8=>(jO u p0 y8.fI).bind λr9=>pE u (λz0 z1 z2 z3=>ly u i7 z0 z1 z2 z3) p1 (aQ .i64 x3 r9) x4 p0) else (pE u (λz0 z1 z2 z3=>ly u i7 z0 z1 z2 z3) p1 x3 x4 p0)) else (zl u x3)
def yz(u:Nat)(p0:World)(p1:Int):Option Int :=
  ly u u p1 0 0 p0
def AP(u:Nat)(p1:Int)(p0:World)(s:Int):Option Int:=(zl u s)
def ww(u:Nat)(p1:Int)(p0:World)(y7:cg)(i_:Nat)(s:Int)(k_:Int->Option Int):Option Int:=bif y7.mK == p1 then ((c6 p0.bq (i_:Int)).bind λy8=>(jO u p0 y8.fI).bind λr9=>pE u (λz0 z1 z2 z3=>k_ z1) p1 (aQ .i64 s r9) (i_:Int) p0) else (pE u (λz0 z1 z2 z3=>k_ z1) p1 s (i_:Int) p0)
theorem Ji(u:Nat)(p1:Int)(p0:World)(s:Int)(k:Nat)(hn:p0.bq.length<=9223372036854775807)(hk:p0.bq.length < k):ly u k p1 s 0 p0=Pu.bP (AP u p1 p0) (ww u p1 p0) p0.bq 0 s:=Pu.dh (λ(k:Nat) (s i:Int)=>ly u k p1 s i p0) hn (λ_ _ _=>rfl) s hk
def uD(u:Nat)(p0:List Int):Option ((List Int)) :=
  (c9 (decide (0<=((p0.length:Int))) && (0 == 0 || 0 == ((p0.length:Int))))).bind λ_=>(c9 (decide (sX ((p0.length:Int))*1<=140737488355328))).bind λ_=>(c9 (decide (((zQg (sX 0) (0:Int)).length+p0.length)*1<=140737488355328))).bind λ_=>some ((zQg (sX 0) (0:Int))++p0)
def t9(u:Nat)(p0:List Int)(p1 p2:Int)(x3:Bool):Option ((List Int)×Bool) :=
  bif x3 then (some (([],false))) else ((c9 (cy p1 (aQ .i64 p1 p2) p0.length)).bind λ_=>(uD u ((p0.take (sX (aQ .i64 p1 p2))).drop (sX p1))).bind λr5=>some ((r5,true)))
def wx(u:Nat)(p0:List Int)(p1 p2:Int):Option ((List Int)×Bool) :=
  (dE u p1 0 ((p0.length:Int))).bind λr1=>bif !r1 then (t9 u p0 p1 p2 true) else ((dE u p2 0 (dM .i64 ((p0.length:Int)) p1)).bind λr2=>t9 u p0 p1 p2 (!r2))
def pF(u:Nat)(p0:List Int)(p1 p2:Int):Option ((List Int)×Bool) :=
  (lr u p1 ((p0.length:Int)) p2).bind λr1=>bif r1.2 == 0 then (some (([],false))) else ((wx u p0 r1.1 r1.2).bind λr2=>some ((r2.1,r2.2)))
def vS(u:Nat)(p0 p1:Int):Option Int :=
  (dE u p1 1 1000000000000).bind λr1=>bif !r1 then (some 0) else ((c9 (!(p1 == 0))).bind λ_=>(c9 (!(p1 == 0))).bind λ_=>some (mA .i64 (aQ .i64 (mA .i64 p0 p1) p1) p1))
def yA(u:Nat)(p0 p1:Int):Option Int :=
  (vS u p0 251).bind λr1=>(vS u p1 251).bind λr2=>some (aQ .i64 r1 (jC .i64 251 r2))
def oQ(u:Nat)(x11 x12:Int):Option Int :=
  (yA u x11 x12).bind λr13=>some r13
def mx(u ki:Nat)(x4 x5:Int)(p0:List Int)(x6:Int):Option Int:=match ki with
  | 0=>none
  | ki+1=>bif decide (x6 < ((p0.length:Int))) then ((c6 p0 x6).bind λy10=>(λz0 z1 z2 z3=>mx u ki z0 z1 z2 z3) (mA .i64 (aQ .i64 x4 (IntKind.wrap .i64 y10)) 251) (mA .i64 (aQ .i64 x5 (mA .i64 (aQ .i64 x4 (IntKind.wrap .i64 y10)) 251)) 251) p0 (aQ .i64 x6 1)) else (oQ u x4 x5)
def uE(u:Nat)(p0:List Int):Option Int :=
  mx u u 0 0 p0 0
def yB(u:Nat)(p0:List Int)(s:Int×Int):Option Int:=(oQ u s.1 s.2)
def tP(u:Nat)(p0:List Int)(y10:Int)(i_:Nat)(s:Int×Int)(k_:(Int×Int)->Option Int):Option Int:=(λz0 z1 z2 z3=>k_ (z0,z1)) (mA .i64 (aQ .i64 s.1 (IntKind.wrap .i64 y10)) 251) (mA .i64 (aQ .i64 s.2 (mA .i64 (aQ .i64 s.1 (IntKind.wrap .i64 y10)) 251)) 251) p0 (aQ .i64 (i_:Int) 1)
theorem FR(u:Nat)(p0:List Int)(s:Int×Int)(k:Nat)(hn:p0.length<=9223372036854775807)(hk:p0.length < k):mx u k s.1 s.2 p0 0=Pu.bP (yB u p0) (tP u p0) p0 0 s:=Pu.dh (λ(k:Nat) (s:Int×Int) (i:Int)=>mx u k s.1 s.2 p0 i) hn (λ_ _ _=>rfl) s hk
def qB(u:Nat)(p0:List Int)(x8:Int):Option cn :=
  (uE u p0).bind λr9=>some ((cn.mk r9 x8))
def nY(u kZ:Nat)(p0:List Int)(x3 x4:Int):Option cn:=match kZ with
  | 0=>none
  | kZ+1=>bif decide (x4 < ((p0.length:Int))) then ((c6 p0 x4).bind λy7=>(λz0 z1 z2=>nY u kZ z0 z1 z2) p0 (vL .i64 (iT .i64 x3 8) (IntKind.wrap .i64 y7)) (aQ .i64 x4 1)) else (qB u p0 x3)
def oS(u:Nat)(p0:List Int):Option cn :=
  bif decide (((p0.length:Int)) > 6) then (some ((cn.mk 0 0))) else (nY u u p0 1 0)
def Ad(u:Nat)(p0:List Int)(s:Int):Option cn:=(qB u p0 s)
def u3(u:Nat)(p0:List Int)(y7:Int)(i_:Nat)(s:Int)(k_:Int->Option cn):Option cn:=(λz0 z1 z2=>k_ z1) p0 (vL .i64 (iT .i64 s 8) (IntKind.wrap .i64 y7)) (aQ .i64 (i_:Int) 1)
theorem HN(u:Nat)(p0:List Int)(s:Int)(k:Nat)(hn:p0.length<=9223372036854775807)(hk:p0.length < k):nY u k p0 s 0=Pu.bP (Ad u p0) (u3 u p0) p0 0 s:=Pu.dh (λ(k:Nat) (s i:Int)=>nY u k p0 s i) hn (λ_ _ _=>rfl) s hk
def wy(u:Nat)(x10:List cn):Option ((List cn)) :=
  some x10
def my(u kh:Nat)(p0:List Int)(p1:Int)(x4:List cn)(r1 x5:Int):Option ((List cn)):=match kh with
  | 0=>none
  | kh+1=>bif decide (x5 < r1) then ((pF u p0 p1 x5).bind λr8=>(oS u r8.1).bind λr9=>(c9 (decide ((x4.length+([r9]).length)*16<=140737488355328))).bind λ_=>(λz0 z1 z2 z3 z4=>my u kh z0 z1 z2 z3 z4) p0 p1 (x4++([r9])) r1 (aQ .i64 x5 1)) else (wy u x4)
def uF(u:Nat)(p0:List Int)(p1:Int):Option ((List cn)) :=
  (rC u p1 ((p0.length:Int))).bind λr1=>my u u p0 p1 (([]:List cn)) r1 0
def FS(u:Nat)(p0:List Int)(p1 r1:Int)(s:(List cn)):Option ((List cn)):=(wy u s)
def yC(u:Nat)(p0:List Int)(p1 r1:Int)(i_:Nat)(s:(List cn))(k_:((List cn))->Option ((List cn))):Option ((List cn)):=(pF u p0 p1 (i_:Int)).bind λr8=>(oS u r8.1).bind λr9=>(c9 (decide ((s.length+([r9]).length)*16<=140737488355328))).bind λ_=>(λz0 z1 z2 z3 z4=>k_ z2) p0 p1 (s++([r9])) r1 (aQ .i64 (i_:Int) 1)
theorem FT(u:Nat)(p0:List Int)(p1 r1:Int)(s:(List cn))(k:Nat)(hn:(r1:Int)<=9223372036854775807)(hk:sX (r1) < k):my u k p0 p1 s r1 0=Pu.lS (FS u p0 p1 r1) (yC u p0 p1 r1) (sX (r1)) 0 s:=Pu.mB (λ(k:Nat) (s:(List cn)) (i:Int)=>my u k p0 p1 s r1 i) hn (λ_ _ _=>rfl) s hk
def ua(u:Nat)(p0:Int)(p1:List Int)(p2:Int)(x3:Bool):Option ag :=
  bif x3 then (some ((ag.mk 0 0 0 ([])))) else ((uF u p1 p2).bind λr4=>some ((ag.mk p0 p2 ((p1.length:Int)) r4)))
def wz(u:Nat)(p0:Int)(p1:List Int)(p2:Int):Option ag :=
  (dE u p0 1 1000000).bind λr1=>bif !r1 then (ua u p0 p1 p2 true) else ((rB u p2 ((p1.length:Int))).bind λr2=>ua u p0 p1 p2 (!r2))
def wA(u:Nat)(p0:World):Option ag :=
  (wz u 1 p0.b5 p0.fC.aw).bind λr1=>some r1
def u4(u:Nat)  : Option Int :=
  some (-1)
def jv(u ji:Nat)(p0:List Int)(p2 x3:Int)(p1:cn):Option Int:=match ji with
  | 0=>none
  | ji+1=>bif decide ((aQ .i64 x3 p2)<=((p0.length:Int))) then ((c9 (cy x3 (aQ .i64 x3 p2) p0.length)).bind λ_=>(oS u ((p0.take (sX (aQ .i64 x3 p2))).drop (sX x3))).bind λr6=>bif [r6.fW,r6.fS] == [p1.fW,p1.fS] then (some x3) else ((λz0 z1 z2 z3=>jv u ji z0 z1 z2 z3) p0 p2 (aQ .i64 x3 1) p1)) else (u4 u)
def sK(u:Nat)(p0:List Int)(p1:cn)(p2:Int):Option Int :=
  (dE u p2 1 6).bind λr1=>bif !r1 then (some (-1)) else (jv u u p0 p2 0 p1)
def pG(u:Nat)(p0:List Int)(p1:ag)(p2:Int):Option Int :=
  (lr u p1.aw p1.aY p2).bind λr1=>(dE u p2 0 (dM .i64 ((p1.aC.length:Int)) 1)).bind λr2=>bif !r2 then (some (-1)) else ((c6 p1.aC p2).bind λy3=>(sK u p0 y3 r1.2).bind λr4=>some r4)
def wB(u:Nat)(x9:Int):Option Int :=
  some x9
def kE(u:Nat)(G2:(List Int)->Bool->Int->ag->Int->Option Int)(p0:List Int)(p2:Bool)(x8:Int)(p1:ag)(x4:Int):Option Int :=
  G2 p0 p2 x8 p1 (aQ .i64 x4 1)
def iS(u gr:Nat)(p0:List Int)(p2:Bool)(x3:Int)(p1:ag)(x4:Int):Option Int:=match gr with
  | 0=>none
  | gr+1=>bif decide (x4 < (if ((p1.aC.length:Int)) < 40 then ((p1.aC.length:Int)) else 40)) then ((pG u p0 p1 x4).bind λr7=>bif (decide (r7>=0)) == p2 then ((c9 (decide (0<=x4))).bind λ_=>kE u (λz0 z1 z2 z3 z4=>iS u gr z0 z1 z2 z3 z4) p0 p2 (vL .i64 x3 (iT .i64 1 x4)) p1 x4) else (kE u (λz0 z1 z2 z3 z4=>iS u gr z0 z1 z2 z3 z4) p0 p2 x3 p1 x4)) else (wB u x3)
def uG(u:Nat)(p0:List Int)(p1:ag)(p2:Bool):Option Int :=
  iS u u p0 p2 0 p1 0
def FU(u:Nat)(p0:List Int)(p2:Bool)(p1:ag)(s:Int):Option Int:=(wB u s)
def yD(u:Nat)(p0:List Int)(p2:Bool)(p1:ag)(i_:Nat)(s:Int)(k_:Int->Option Int):Option Int:=(pG u p0 p1 (i_:Int)).bind λr7=>bif (decide (r7>=0)) == p2 then ((c9 (decide (0<=(i_:Int)))).bind λ_=>kE u (λz0 z1 z2 z3 z4=>k_ z2) p0 p2 (vL .i64 s (iT .i64 1 (i_:Int))) p1 (i_:Int)) else (kE u (λz0 z1 z2 z3 z4=>k_ z2) p0 p2 s p1 (i_:Int))
theorem FV(u:Nat)(p0:List Int)(p2:Bool)(p1:ag)(s:Int)(k:Nat)(hn:((if ((p1.aC.length:Int)) < 40 then ((p1.aC.length:Int)) else 40):Int)<=9223372036854775807)(hk:sX ((if ((p1.aC.length:Int)) < 40 then ((p1.aC.length:Int)) else 40)) < k):iS u k p0 p2 s p1 0=Pu.lS (FU u p0 p2 p1) (yD u p0 p2 p1) (sX ((if ((p1.aC.length:Int)) < 40 then ((p1.aC.length:Int)) else 40))) 0 s:=Pu.mB (λ(k:Nat) (s i:Int)=>iS u k p0 p2 s p1 i) hn (λ_ _ _=>rfl) s hk
def sL(u:Nat)(p0:List Int)(p1:ag):Option Int :=
  (uG u p0 p1 false).bind λr1=>some r1
def wC(u:Nat)(p0:Int):Option Bool :=
  (dE u p0 0 1099511627775).bind λr1=>some r1
def sM(u:Nat)(p0:Int):Option Bool :=
  (dE u p0 0 39).bind λr1=>some r1
def tQ(u:Nat)(p0 p1:Int):Option Bool :=
  (wC u p0).bind λr1=>bif r1 then ((sM u p1).bind λr2=>bif r2 then ((c9 (decide (0<=p1))).bind λ_=>some ((gE .i64 (rJ .i64 p0 p1) 1) == 1)) else (some false)) else (some false)
def q7(u:Nat)(x9:List Int):Option ((List Int)) :=
  some x9
def jw(u:Nat)(Fv:Int->(List Int)->Int->Option ((List Int)))(p0:Int)(x8:List Int)(x4:Int):Option ((List Int)) :=
  Fv p0 x8 (aQ .i64 x4 1)
def hJ(u fo:Nat)(p0:Int)(x3:List Int)(x4:Int):Option ((List Int)):=match fo with
  | 0=>none
  | fo+1=>bif decide (x4 < 40) then ((tQ u p0 x4).bind λr7=>bif r7 then ((c9 (decide ((x3.length+(([x4]:List Int)).length)*8<=140737488355328))).bind λ_=>jw u (λz0 z1 z2=>hJ u fo z0 z1 z2) p0 (x3++(([x4]:List Int))) x4) else (jw u (λz0 z1 z2=>hJ u fo z0 z1 z2) p0 x3 x4)) else (q7 u x3)
def sN(u:Nat)(p0:Int):Option ((List Int)) :=
  hJ u u p0 (([]:List Int)) 0
def xh(u:Nat)(p0:Int)(s:(List Int)):Option ((List Int)):=(q7 u s)
def xi(u:Nat)(p0:Int)(i_:Nat)(s:(List Int))(k_:((List Int))->Option ((List Int))):Option ((List Int)):=(tQ u p0 (i_:Int)).bind λr7=>bif r7 then ((c9 (decide ((s.length+(([(i_:Int)]:List Int)).length)*8<=140737488355328))).bind λ_=>jw u (λz0 z1 z2=>k_ z1) p0 (s++(([(i_:Int)]:List Int))) (i_:Int)) else (jw u (λz0 z1 z2=>k_ z1) p0 s (i_:Int))
theorem D8(u:Nat)(p0:Int)(s:(List Int))(k:Nat)(hn:(40:Int)<=9223372036854775807)(hk:sX (40) < k):hJ u k p0 s 0=Pu.lS (xh u p0) (xi u p0) (sX (40)) 0 s:=Pu.mB (λ(k:Nat) (s:(List Int)) (i:Int)=>hJ u k p0 s i) hn (λ_ _ _=>rfl) s hk
def lz(u:Nat)(x11:Int):Option Int :=
  some x11
def gl(u eW:Nat)(x5:Int)(r2:(List Int))(x6:Int)(p1:ag):Option Int:=match eW with
  | 0=>none
  | eW+1=>bif decide (x6 < ((r2.length:Int))) then ((c6 r2 x6).bind λy9=>(lr u p1.aw p1.aY y9).bind λr10=>(λz0 z1 z2 z3=>gl u eW z0 z1 z2 z3) (aQ .i64 x5 r10.2) r2 (aQ .i64 x6 1) p1) else (lz u x5)
def lA(u:Nat)(p0:List Int)(p1:ag):Option Int :=
  (sL u p0 p1).bind λr1=>(sN u r1).bind λr2=>gl u u 0 r2 0 p1
def m7(u:Nat)(r2:(List Int))(p1:ag)(s:Int):Option Int:=(lz u s)
def m8(u:Nat)(r2:(List Int))(p1:ag)(y9:Int)(i_:Nat)(s:Int)(k_:Int->Option Int):Option Int:=(lr u p1.aw p1.aY y9).bind λr10=>(λz0 z1 z2 z3=>k_ z0) (aQ .i64 s r10.2) r2 (aQ .i64 (i_:Int) 1) p1
theorem zn(u:Nat)(r2:(List Int))(p1:ag)(s:Int)(k:Nat)(hn:r2.length<=9223372036854775807)(hk:r2.length < k):gl u k s r2 0 p1=Pu.bP (m7 u r2 p1) (m8 u r2 p1) r2 0 s:=Pu.dh (λ(k:Nat) (s i:Int)=>gl u k s r2 i p1) hn (λ_ _ _=>rfl) s hk
def oT(u:Nat)(p0:World)(p1:Int):Option Int :=
  (dE u p1 0 (dM .i64 ((p0.bS.length:Int)) 1)).bind λr1=>bif !r1 then (some 0) else ((c6 p0.bS p1).bind λy2=>(wA u p0).bind λr3=>(lA u y2.fB r3).bind λr4=>some r4)
def xT(u:Nat)(x11:Int):Option Int :=
  some x11
def ub(u:Nat)(ri:(List Int)->Int->Int->ag->Option Int)(p0:List Int)(x10 x4:Int)(p1:ag):Option Int :=
  ri p0 x10 (aQ .i64 x4 1) p1
def qC(u:Nat)(ri:(List Int)->Int->Int->ag->Option Int)(p0:List Int)(x3 x4:Int)(x7:Bool)(p1:ag):Option Int :=
  bif x7 then ((mV u p0 p1 x4).bind λr8=>bif decide (r8>=0) then ((d8 u x3 x4).bind λr9=>ub u ri p0 r9 x4 p1) else (ub u ri p0 x3 x4 p1)) else (xT u x3)
def gG(u f6:Nat)(p0:List Int)(x3 x4:Int)(p1:ag):Option Int:=match f6 with
  | 0=>none
  | f6+1=>bif decide (x4 < ((p1.aC.length:Int))) then (qC u (λz0 z1 z2 z3=>gG u f6 z0 z1 z2 z3) p0 x3 x4 (decide (x4 < 40)) p1) else (qC u (λz0 z1 z2 z3=>gG u f6 z0 z1 z2 z3) p0 x3 x4 false p1)
def zo(u:Nat)(p0:List Int)(p1:ag):Option Int :=
  gG u u p0 0 0 p1
def sO(u:Nat)(p0:List Int)(p1:ag):Option Int :=
  (rk u ((p1.aC.length:Int)) 40).bind λr1=>(mY u r1).bind λr2=>(zo u p0 p1).bind λr3=>(li u r2 r3).bind λr4=>some r4
def lB(u:Nat)(x11:Int):Option Int :=
  some x11
def gm(u eX:Nat)(x5:Int)(r2:(List Int))(x6:Int)(p1:ag):Option Int:=match eX with
  | 0=>none
  | eX+1=>bif decide (x6 < ((r2.length:Int))) then ((c6 r2 x6).bind λy9=>(dB u p1.aw p1.aY y9).bind λr10=>(λz0 z1 z2 z3=>gm u eX z0 z1 z2 z3) (aQ .i64 x5 r10.2) r2 (aQ .i64 x6 1) p1) else (lB u x5)
def lC(u:Nat)(p0:List Int)(p1:ag):Option Int :=
  (sO u p0 p1).bind λr1=>(pz u r1).bind λr2=>gm u u 0 r2 0 p1
def m9(u:Nat)(r2:(List Int))(p1:ag)(s:Int):Option Int:=(lB u s)
def na(u:Nat)(r2:(List Int))(p1:ag)(y9:Int)(i_:Nat)(s:Int)(k_:Int->Option Int):Option Int:=(dB u p1.aw p1.aY y9).bind λr10=>(λz0 z1 z2 z3=>k_ z0) (aQ .i64 s r10.2) r2 (aQ .i64 (i_:Int) 1) p1
theorem zp(u:Nat)(r2:(List Int))(p1:ag)(s:Int)(k:Nat)(hn:r2.length<=9223372036854775807)(hk:r2.length < k):gm u k s r2 0 p1=Pu.bP (m9 u r2 p1) (na u r2 p1) r2 0 s:=Pu.dh (λ(k:Nat) (s i:Int)=>gm u k s r2 i p1) hn (λ_ _ _=>rfl) s hk
def oU(u:Nat)(p0:World)(p1:Int):Option Int :=
  (bG u p1 0 (dM .i64 ((p0.bS.length:Int)) 1)).bind λr1=>bif !r1 then (some 0) else ((c6 p0.bS p1).bind λy2=>(kv u p0).bind λr3=>(lC u y2.fB r3).bind λr4=>some r4)
def q8(u:Nat)(x8:Int):Option Int :=
  some x8
def eP(u jj:Nat)(x3 x4:Int)(p0:World):Option Int:=match jj with
  | 0=>none
  | jj+1=>bif decide (x4 < ((p0.bS.length:Int))) then ((oT u p0 x4).bind λr7=>(λz0 z1 z2=>eP u jj z0 z1 z2) (aQ .i64 x3 r7) (aQ .i64 x4 1) p0) else (q8 u x3)
def sP(u:Nat)(p0:World):Option Int :=
  eP u u 0 1 p0
def D9(u:Nat)(p0:World)(s:Int):Option Int:=(q8 u s)
def Ea(u:Nat)(p0:World)(i_:Nat)(s:Int)(k_:Int->Option Int):Option Int:=(oT u p0 (i_:Int)).bind λr7=>(λz0 z1 z2=>k_ z0) (aQ .i64 s r7) (aQ .i64 (i_:Int) 1) p0
theorem Rk(u:Nat)(p0:World)(s:Int)(k:Nat)(hn:(((p0.bS.length:Int)):Int)<=9223372036854775807)(hk:sX (((p0.bS.length:Int))) < k):eP u k s 0 p0=Pu.lS (D9 u p0) (Ea u p0) (sX (((p0.bS.length:Int)))) 0 s:=Pu.mB (λ(k:Nat) (s i:Int)=>eP u k s i p0) hn (λ_ _ _=>rfl) s hk
def q9(u:Nat)(x8:Int):Option Int :=
  some x8
def eQ(u jm:Nat)(x3 x4:Int)(p0:World):Option Int:=match jm with
  | 0=>none
  | jm+1=>bif decide (x4 < ((p0.bS.length:Int))) then ((oU u p0 x4).bind λr7=>(λz0 z1 z2=>eQ u jm z0 z1 z2) (aQ .i64 x3 r7) (aQ .i64 x4 1) p0) else (q9 u x3)
def sQ(u:Nat)(p0:World):Option Int :=
  eQ u u 0 1 p0
def Eb(u:Nat)(p0:World)(s:Int):Option Int:=(q9 u s)
def Ec(u:Nat)(p0:World)(i_:Nat)(s:Int)(k_:Int->Option Int):Option Int:=(oU u p0 (i_:Int)).bind λr7=>(λz0 z1 z2=>k_ z0) (aQ .i64 s r7) (aQ .i64 (i_:Int) 1) p0
theorem Rl(u:Nat)(p0:World)(s:Int)(k:Nat)(hn:(((p0.bS.length:Int)):Int)<=9223372036854775807)(hk:sX (((p0.bS.length:Int))) < k):eQ u k s 0 p0=Pu.lS (Eb u p0) (Ec u p0) (sX (((p0.bS.length:Int)))) 0 s:=Pu.mB (λ(k:Nat) (s i:Int)=>eQ u k s i p0) hn (λ_ _ _=>rfl) s hk
def nD(u:Nat)(r2:World×Int×Int)(x34:Int):Option Bool :=
  bif decide (x34<=((r2.1.bq.length:Int))) then ((mw u r2.1 r2.2.1 r2.2.2).bind λr35=>(vR u r2.1 r2.2.2).bind λr36=>some (decide (r35<=r36))) else (some false)
def ra(u:Nat)(cW:(World×Int×Int)->Int->Int->Option Bool)(r2:World×Int×Int)(x33 x23:Int):Option Bool :=
  cW r2 x33 (aQ .i64 x23 1)
def fY(u:Nat)(cW:(World×Int×Int)->Int->Int->Option Bool)(jk:Nat)(r2:World×Int×Int)(x28 x23 x29:Int):Option Bool:=match jk with
  | 0=>none
  | jk+1=>bif decide (x29 < 7) then ((iR u r2.1 x23 x29).bind λr32=>(λz0 z1 z2 z3=>fY u cW jk z0 z1 z2 z3) r2 (aQ .i64 x28 ((r32.length:Int))) x23 (aQ .i64 x29 1)) else (ra u cW r2 x28 x23)
def dZ(u fp:Nat)(r2:World×Int×Int)(x22 x23:Int):Option Bool:=match fp with
  | 0=>none
  | fp+1=>bif decide (x23 < 7) then (fY u (λz0 z1 z2=>dZ u fp z0 z1 z2) u r2 x22 x23 0) else (nD u r2 x22)
def hP(u:Nat)(r2:World×Int×Int)(x19:Bool):Option Bool :=
  bif x19 then (some false) else (dZ u u r2 0 0)
def pH(u:Nat)(p0:List Int):Option Bool :=
  (DP u p0).bind λr1=>bif r1 then (some true) else ((kC u p0).bind λr2=>(kD u p0).bind λr3=>(qz u p0).bind λr4=>(mu u p0).bind λr5=>(iR u r2.1 r2.2.1 r2.2.2).bind λr6=>(mv u r2.1 r2.2.1 r2.2.2).bind λr7=>(qA u r6 r7).bind λr8=>bif !r8 then (hP u r2 true) else ((sF u r3).bind λr9=>(sG u r3).bind λr10=>bif r9 != r10 then (hP u r2 true) else ((mw u r2.1 r2.2.1 r2.2.2).bind λr11=>(oP u r2.1 r2.2.1 r2.2.2).bind λr12=>bif r11 != r12 then (hP u r2 true) else ((vR u r4.1 r4.2).bind λr13=>(yz u r4.1 r4.2).bind λr14=>bif r13 != r14 then (hP u r2 true) else ((oT u r4.1 r4.2).bind λr15=>(oU u r4.1 r4.2).bind λr16=>bif r15 != r16 then (hP u r2 true) else ((sP u r5).bind λr17=>(sQ u r5).bind λr18=>hP u r2 (r17 != r18)))))))
def Ed(u:Nat)(cW:(World×Int×Int)->Int->Int->Option Bool)(r2:World×Int×Int)(x23 s:Int):Option Bool:=(ra u cW r2 s x23)
def Ee(u:Nat)(cW:(World×Int×Int)->Int->Int->Option Bool)(r2:World×Int×Int)(x23:Int)(i_:Nat)(s:Int)(k_:Int->Option Bool):Option Bool:=(iR u r2.1 x23 (i_:Int)).bind λr32=>(λz0 z1 z2 z3=>k_ z1) r2 (aQ .i64 s ((r32.length:Int))) x23 (aQ .i64 (i_:Int) 1)
theorem Rm(u:Nat)(cW:(World×Int×Int)->Int->Int->Option Bool)(r2:World×Int×Int)(x23 s:Int)(k:Nat)(hn:(7:Int)<=9223372036854775807)(hk:sX (7) < k):fY u cW k r2 s x23 0=Pu.lS (Ed u cW r2 x23) (Ee u cW r2 x23) (sX (7)) 0 s:=Pu.mB (λ(k:Nat) (s i:Int)=>fY u cW k r2 s x23 i) hn (λ_ _ _=>rfl) s hk
end Go.Tm
