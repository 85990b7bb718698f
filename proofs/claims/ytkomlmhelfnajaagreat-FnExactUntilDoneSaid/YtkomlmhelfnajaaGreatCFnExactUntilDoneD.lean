/- Go functions as pure functions. -/
import Derived.Test.YtkomlmhelfnajaaGreatCFnExactUntilDoneF3
set_option maxRecDepth 100000
set_option maxHeartbeats 20000000
set_option linter.unusedVariables false
set_option linter.unusedSimpArgs false
open Int renaming toNat->sY
open List renaming replicate->zQV
open Nat renaming beq->zWz
open Go.IntKind renaming wrap->zm
namespace Go.Tm
structure eG where
  aG:Int
  bi:Int
  a9:Int
  bd:Int
  deriving DecidableEq
def ie(x:eG):List T:=[.int .i64 x.aG,.int .i64 x.bi,.int .i64 x.a9,.int .i64 x.bd]
def eG.wf(x:eG):Prop:=(lU .i64) x.aG/\(lU .i64) x.bi/\(lU .i64) x.a9/\(lU .i64) x.bd/\True
structure bV where
  bP:List Int
  deriving DecidableEq
def gE(x:bV):List T:=[.sl 1 (x.bP.map (aB .i64))]
def bV.wf(x:bV):Prop:=(LI (lU .i64)) x.bP/\True
structure aM where
  fB:List Int
  deriving DecidableEq
def aR(x:aM):List T:=[.sl 1 (x.fB.map (aB .u8))]
def aM.wf(x:aM):Prop:=(LI (lU .u8)) x.fB/\True
structure bQ where
  fW:Int
  fS:Int
  deriving DecidableEq
def aJ(x:bQ):List T:=[.int .i64 x.fW,.int .i64 x.fS]
def bQ.wf(x:bQ):Prop:=(lU .i64) x.fW/\(lU .i64) x.fS/\True
structure ae where
  aN:Int
  aG:Int
  aV:Int
  aI:List bQ
  deriving DecidableEq
def al(x:ae):List T:=[.int .i64 x.aN,.int .i64 x.aG,.int .i64 x.aV,.sl 2 (x.aI.map aJ)]
def ae.wf(x:ae):Prop:=(lU .i64) x.aN/\(lU .i64) x.aG/\(lU .i64) x.aV/\(LI bQ.wf) x.aI/\True
structure aY where
  aT:Int
  bj:List Int
  deriving DecidableEq
def cO(x:aY):List T:=[.int .i64 x.aT,.sl 1 (x.bj.map (aB .u8))]
def aY.wf(x:aY):Prop:=(lU .i64) x.aT/\(LI (lU .u8)) x.bj/\True
structure Kid where
  gj:Int
  bJ:Int
  bG:Int
  mg:Int
  ef:Int
  deriving DecidableEq
def av(x:Kid):List T:=[.int .i64 x.gj,.int .i64 x.bJ,.int .i64 x.bG,.int .i64 x.mg,.int .i64 x.ef]
def Kid.wf(x:Kid):Prop:=(lU .i64) x.gj/\(lU .i64) x.bJ/\(lU .i64) x.bG/\(lU .i64) x.mg/\(lU .i64) x.ef/\True
structure aA where
  eh:Bool
  bh:Int
  ba:Int
  ay:ae
  aZ:aY
  aH:Int
  aW:List Kid
  a7:Int
  deriving DecidableEq
def au(x:aA):List T:=[.bool x.eh,.int .i64 x.bh,.int .i64 x.ba,.int .i64 x.ay.aN,.int .i64 x.ay.aG,.int .i64 x.ay.aV,.sl 2 (x.ay.aI.map aJ),.int .i64 x.aZ.aT,.sl 1 (x.aZ.bj.map (aB .u8)),.int .i64 x.aH,.sl 5 (x.aW.map av),.int .i64 x.a7]
def aA.wf(x:aA):Prop:=(λ_=>True) x.eh/\(lU .i64) x.bh/\(lU .i64) x.ba/\ae.wf x.ay/\aY.wf x.aZ/\(lU .i64) x.aH/\(LI Kid.wf) x.aW/\(lU .i64) x.a7/\True
structure ct where
  aN:Int
  b9:Int
  aV:Int
  deriving DecidableEq
def fq(x:ct):List T:=[.int .i64 x.aN,.int .i64 x.b9,.int .i64 x.aV]
def ct.wf(x:ct):Prop:=(lU .i64) x.aN/\(lU .i64) x.b9/\(lU .i64) x.aV/\True
structure bR where
  eK:Int
  Gl:Int
  fB:List Int
  fR:ct
  deriving DecidableEq
def aP(x:bR):List T:=[.int .i64 x.eK,.int .i64 x.Gl,.sl 1 (x.fB.map (aB .u8)),.int .i64 x.fR.aN,.int .i64 x.fR.b9,.int .i64 x.fR.aV]
def bR.wf(x:bR):Prop:=(lU .i64) x.eK/\(lU .i64) x.Gl/\(LI (lU .u8)) x.fB/\ct.wf x.fR/\True
structure ar where
  fA:List Int
  fB:List Int
  fR:ct
  fP:List bR
  deriving DecidableEq
def ai(x:ar):List T:=[.sl 1 (x.fA.map (aB .u8)),.sl 1 (x.fB.map (aB .u8)),.int .i64 x.fR.aN,.int .i64 x.fR.b9,.int .i64 x.fR.aV,.sl 6 (x.fP.map aP)]
def ar.wf(x:ar):Prop:=(LI (lU .u8)) x.fA/\(LI (lU .u8)) x.fB/\ct.wf x.fR/\(LI bR.wf) x.fP/\True
structure ah where
  cM:Int
  w9:Int
  fB:List Int
  deriving DecidableEq
def ak(x:ah):List T:=[.int .i64 x.cM,.int .i64 x.w9,.sl 1 (x.fB.map (aB .u8))]
def ah.wf(x:ah):Prop:=(lU .i64) x.cM/\(lU .i64) x.w9/\(LI (lU .u8)) x.fB/\True
structure br where
  cM:Int
  w9:Int
  fI:Int
  deriving DecidableEq
def bf(x:br):List T:=[.int .i64 x.cM,.int .i64 x.w9,.int .i64 x.fI]
def br.wf(x:br):Prop:=(lU .i64) x.cM/\(lU .i64) x.w9/\(lU .i64) x.fI/\True
structure World where
  fC:eG
  fT:bV
  cF:List Int
  cu:List aM
  fN:List aA
  fD:List ar
  bM:List ah
  dv:List br
  ch:Int
  deriving DecidableEq
def a8(x:World):List T:=[.int .i64 x.fC.aG,.int .i64 x.fC.bi,.int .i64 x.fC.a9,.int .i64 x.fC.bd,.sl 1 (x.fT.bP.map (aB .i64)),.sl 1 (x.cF.map (aB .u8)),.sl 1 (x.cu.map aR),.sl 12 (x.fN.map au),.sl 6 (x.fD.map ai),.sl 3 (x.bM.map ak),.sl 3 (x.dv.map bf),.int .i64 x.ch]
def World.wf(x:World):Prop:=eG.wf x.fC/\bV.wf x.fT/\(LI (lU .u8)) x.cF/\(LI aM.wf) x.cu/\(LI aA.wf) x.fN/\(LI ar.wf) x.fD/\(LI ah.wf) x.bM/\(LI br.wf) x.dv/\(lU .i64) x.ch/\True
structure eC where
  bp:Int
  aN:Int
  ay:ae
  bJ:Int
  bG:Int
  fI:Int
  fB:List Int
  deriving DecidableEq
def dx(x:eC):List T:=[.int .i64 x.bp,.int .i64 x.aN,.int .i64 x.ay.aN,.int .i64 x.ay.aG,.int .i64 x.ay.aV,.sl 2 (x.ay.aI.map aJ),.int .i64 x.bJ,.int .i64 x.bG,.int .i64 x.fI,.sl 1 (x.fB.map (aB .u8))]
def eC.wf(x:eC):Prop:=(lU .i64) x.bp/\(lU .i64) x.aN/\ae.wf x.ay/\(lU .i64) x.bJ/\(lU .i64) x.bG/\(lU .i64) x.fI/\(LI (lU .u8)) x.fB/\True
structure H5 where
  fN:aA
  fD:ar
  nr:List ah
  deriving DecidableEq
def qbd(x:H5):List T:=[.bool x.fN.eh,.int .i64 x.fN.bh,.int .i64 x.fN.ba,.int .i64 x.fN.ay.aN,.int .i64 x.fN.ay.aG,.int .i64 x.fN.ay.aV,.sl 2 (x.fN.ay.aI.map aJ),.int .i64 x.fN.aZ.aT,.sl 1 (x.fN.aZ.bj.map (aB .u8)),.int .i64 x.fN.aH,.sl 5 (x.fN.aW.map av),.int .i64 x.fN.a7,.sl 1 (x.fD.fA.map (aB .u8)),.sl 1 (x.fD.fB.map (aB .u8)),.int .i64 x.fD.fR.aN,.int .i64 x.fD.fR.b9,.int .i64 x.fD.fR.aV,.sl 6 (x.fD.fP.map aP),.sl 3 (x.nr.map ak)]
def H5.wf(x:H5):Prop:=aA.wf x.fN/\ar.wf x.fD/\(LI ah.wf) x.nr/\True
structure Act where
  fN:aA
  nr:List ah
  deriving DecidableEq
def xb(x:Act):List T:=[.bool x.fN.eh,.int .i64 x.fN.bh,.int .i64 x.fN.ba,.int .i64 x.fN.ay.aN,.int .i64 x.fN.ay.aG,.int .i64 x.fN.ay.aV,.sl 2 (x.fN.ay.aI.map aJ),.int .i64 x.fN.aZ.aT,.sl 1 (x.fN.aZ.bj.map (aB .u8)),.int .i64 x.fN.aH,.sl 5 (x.fN.aW.map av),.int .i64 x.fN.a7,.sl 3 (x.nr.map ak)]
def Act.wf(x:Act):Prop:=aA.wf x.fN/\(LI ah.wf) x.nr/\True
structure AT where
  bp:Int
  fN:Int
  fS:Int
  fP:ah
  deriving DecidableEq
def KI(x:AT):List T:=[.int .i64 x.bp,.int .i64 x.fN,.int .i64 x.fS,.int .i64 x.fP.cM,.int .i64 x.fP.w9,.sl 1 (x.fP.fB.map (aB .u8))]
def AT.wf(x:AT):Prop:=(lU .i64) x.bp/\(lU .i64) x.fN/\(lU .i64) x.fS/\ah.wf x.fP/\True
def Fo(u:Nat)(p0:List Int)(p1:Int):Option Int:=
 bif decide (cJ .i64 p1 (p0.length:Int) < 0) then some (-1) else some (cJ .i64 p1 (p0.length:Int))
def BW(u:Nat)(p0:bV)(p1:Int):Option Int:=
 (Fo u p0.bP p1).bind λr1=>bif decide (r1 < 0) then some (-1) else some r1
def i6(u:Nat)(p0:List Int)(p1:Int):Option Int:=
 bif decide (cJ .i64 p1 (p0.length:Int) < 0) then some (-1) else some (cJ .i64 p1 (p0.length:Int))
def uP(u:Nat)(p0:aM)(p1:Int):Option Int:=
 (i6 u p0.fB p1).bind λr1=>bif decide (r1 < 0) then some (-1) else some r1
def AV(u:Nat)(x9:Int):Option Int:=
 some x9
def kS(u lm:Nat)(p0:List aM)(x3 x4:Int):Option Int:=match lm with
  | 0=>none
  | lm+1=>bif decide (x4 < (p0.length:Int)) then (ce p0 x4).bind λy7=>(uP u y7 x3).bind λr8=>bif decide (r8 < 0) then some (-1) else kS u lm p0 r8 (aS .i64 x4 1) else AV u x3
def sH(u:Nat)(p0:List aM)(p1:Int):Option Int:=
 bif decide (cJ .i64 p1 (p0.length:Int) < 0) then some (-1) else kS u u p0 (cJ .i64 p1 (p0.length:Int)) 0
def Ma(u:Nat)(p0:List aM)(s:Int):Option Int:=AV u s
def D9(u:Nat)(p0:List aM)(y7:aM)(i_:Nat)(s:Int)(k_:Int->Option Int):Option Int:=(uP u y7 s).bind λr8=>bif decide (r8 < 0) then some (-1) else k_ r8
theorem Mb(u:Nat)(p0:List aM)(s:Int)(k:Nat)(hn:p0.length<=9223372036854775807)(hk:p0.length < k):kS u k p0 s 0=Pu.bn (Ma u p0) (D9 u p0) p0 0 s:=Pu.bw (λ(k:Nat) (s i:Int)=>kS u k p0 s i) hn (λ_ _ _=>rfl) s hk
def Fq(u:Nat)(p0:List bQ)(p1:Int):Option Int:=
 bif decide (cJ .i64 p1 (p0.length:Int) < 0) then some (-1) else some (cJ .i64 p1 (p0.length:Int))
def rZ(u:Nat)(p0:ae)(p1:Int):Option Int:=
 (Fq u p0.aI p1).bind λr1=>bif decide (r1 < 0) then some (-1) else some r1
def uQ(u:Nat)(p0:aY)(p1:Int):Option Int:=
 (i6 u p0.bj p1).bind λr1=>bif decide (r1 < 0) then some (-1) else some r1
def yv(u:Nat)(p0:List Kid)(p1:Int):Option Int:=
 bif decide (cJ .i64 p1 (p0.length:Int) < 0) then some (-1) else some (cJ .i64 p1 (p0.length:Int))
def yw(u:Nat)(p0:aA)(p1:Int):Option Int:=
 (rZ u p0.ay p1).bind λr1=>bif decide (r1 < 0) then some (-1) else (uQ u p0.aZ r1).bind λr2=>bif decide (r2 < 0) then some (-1) else (yv u p0.aW r2).bind λr3=>bif decide (r3 < 0) then some (-1) else some r3
def CI(u:Nat)(x9:Int):Option Int:=
 some x9
def mS(u mI:Nat)(p0:List aA)(x3 x4:Int):Option Int:=match mI with
  | 0=>none
  | mI+1=>bif decide (x4 < (p0.length:Int)) then (ce p0 x4).bind λy7=>(yw u y7 x3).bind λr8=>bif decide (r8 < 0) then some (-1) else mS u mI p0 r8 (aS .i64 x4 1) else CI u x3
def rD(u:Nat)(p0:List aA)(p1:Int):Option Int:=
 bif decide (cJ .i64 p1 (p0.length:Int) < 0) then some (-1) else mS u u p0 (cJ .i64 p1 (p0.length:Int)) 0
def Nf(u:Nat)(p0:List aA)(s:Int):Option Int:=CI u s
def Fs(u:Nat)(p0:List aA)(y7:aA)(i_:Nat)(s:Int)(k_:Int->Option Int):Option Int:=(yw u y7 s).bind λr8=>bif decide (r8 < 0) then some (-1) else k_ r8
theorem Ng(u:Nat)(p0:List aA)(s:Int)(k:Nat)(hn:p0.length<=9223372036854775807)(hk:p0.length < k):mS u k p0 s 0=Pu.bn (Nf u p0) (Fs u p0) p0 0 s:=Pu.bw (λ(k:Nat) (s i:Int)=>mS u k p0 s i) hn (λ_ _ _=>rfl) s hk
def AW(u:Nat)(p0:bR)(p1:Int):Option Int:=
 (i6 u p0.fB p1).bind λr1=>bif decide (r1 < 0) then some (-1) else some r1
def Ea(u:Nat)(x9:Int):Option Int:=
 some x9
def oA(u n9:Nat)(p0:List bR)(x3 x4:Int):Option Int:=match n9 with
  | 0=>none
  | n9+1=>bif decide (x4 < (p0.length:Int)) then (ce p0 x4).bind λy7=>(AW u y7 x3).bind λr8=>bif decide (r8 < 0) then some (-1) else oA u n9 p0 r8 (aS .i64 x4 1) else Ea u x3
def yx(u:Nat)(p0:List bR)(p1:Int):Option Int:=
 bif decide (cJ .i64 p1 (p0.length:Int) < 0) then some (-1) else oA u u p0 (cJ .i64 p1 (p0.length:Int)) 0
def P4(u:Nat)(p0:List bR)(s:Int):Option Int:=Ea u s
def GT(u:Nat)(p0:List bR)(y7:bR)(i_:Nat)(s:Int)(k_:Int->Option Int):Option Int:=(AW u y7 s).bind λr8=>bif decide (r8 < 0) then some (-1) else k_ r8
theorem P5(u:Nat)(p0:List bR)(s:Int)(k:Nat)(hn:p0.length<=9223372036854775807)(hk:p0.length < k):oA u k p0 s 0=Pu.bn (P4 u p0) (GT u p0) p0 0 s:=Pu.bw (λ(k:Nat) (s i:Int)=>oA u k p0 s i) hn (λ_ _ _=>rfl) s hk
def yy(u:Nat)(p0:ar)(p1:Int):Option Int:=
 (i6 u p0.fA p1).bind λr1=>bif decide (r1 < 0) then some (-1) else (i6 u p0.fB r1).bind λr2=>bif decide (r2 < 0) then some (-1) else (yx u p0.fP r2).bind λr3=>bif decide (r3 < 0) then some (-1) else some r3
def CJ(u:Nat)(x9:Int):Option Int:=
 some x9
def mT(u mH:Nat)(p0:List ar)(x3 x4:Int):Option Int:=match mH with
  | 0=>none
  | mH+1=>bif decide (x4 < (p0.length:Int)) then (ce p0 x4).bind λy7=>(yy u y7 x3).bind λr8=>bif decide (r8 < 0) then some (-1) else mT u mH p0 r8 (aS .i64 x4 1) else CJ u x3
def pK(u:Nat)(p0:List ar)(p1:Int):Option Int:=
 bif decide (cJ .i64 p1 (p0.length:Int) < 0) then some (-1) else mT u u p0 (cJ .i64 p1 (p0.length:Int)) 0
def Nh(u:Nat)(p0:List ar)(s:Int):Option Int:=CJ u s
def Ft(u:Nat)(p0:List ar)(y7:ar)(i_:Nat)(s:Int)(k_:Int->Option Int):Option Int:=(yy u y7 s).bind λr8=>bif decide (r8 < 0) then some (-1) else k_ r8
theorem Ni(u:Nat)(p0:List ar)(s:Int)(k:Nat)(hn:p0.length<=9223372036854775807)(hk:p0.length < k):mT u k p0 s 0=Pu.bn (Nh u p0) (Ft u p0) p0 0 s:=Pu.bw (λ(k:Nat) (s i:Int)=>mT u k p0 s i) hn (λ_ _ _=>rfl) s hk
def sI(u:Nat)(p0:ah)(p1:Int):Option Int:=
 (i6 u p0.fB p1).bind λr1=>bif decide (r1 < 0) then some (-1) else some r1
def yY(u:Nat)(x9:Int):Option Int:=
 some x9
def jQ(u ko:Nat)(p0:List ah)(x3 x4:Int):Option Int:=match ko with
  | 0=>none
  | ko+1=>bif decide (x4 < (p0.length:Int)) then (ce p0 x4).bind λy7=>(sI u y7 x3).bind λr8=>bif decide (r8 < 0) then some (-1) else jQ u ko p0 r8 (aS .i64 x4 1) else yY u x3
def jR(u:Nat)(p0:List ah)(p1:Int):Option Int:=
 bif decide (cJ .i64 p1 (p0.length:Int) < 0) then some (-1) else jQ u u p0 (cJ .i64 p1 (p0.length:Int)) 0
def K2(u:Nat)(p0:List ah)(s:Int):Option Int:=yY u s
def Do(u:Nat)(p0:List ah)(y7:ah)(i_:Nat)(s:Int)(k_:Int->Option Int):Option Int:=(sI u y7 s).bind λr8=>bif decide (r8 < 0) then some (-1) else k_ r8
theorem K3(u:Nat)(p0:List ah)(s:Int)(k:Nat)(hn:p0.length<=9223372036854775807)(hk:p0.length < k):jQ u k p0 s 0=Pu.bn (K2 u p0) (Do u p0) p0 0 s:=Pu.bw (λ(k:Nat) (s i:Int)=>jQ u k p0 s i) hn (λ_ _ _=>rfl) s hk
def lx(u:Nat)(p0:List br)(p1:Int):Option Int:=
 bif decide (cJ .i64 p1 (p0.length:Int) < 0) then some (-1) else some (cJ .i64 p1 (p0.length:Int))
def yZ(u:Nat)(p0:World)(p1:Int):Option Int:=
 (BW u p0.fT p1).bind λr1=>bif decide (r1 < 0) then some (-1) else (i6 u p0.cF r1).bind λr2=>bif decide (r2 < 0) then some (-1) else (sH u p0.cu r2).bind λr3=>bif decide (r3 < 0) then some (-1) else (rD u p0.fN r3).bind λr4=>bif decide (r4 < 0) then some (-1) else (pK u p0.fD r4).bind λr5=>bif decide (r5 < 0) then some (-1) else (jR u p0.bM r5).bind λr6=>bif decide (r6 < 0) then some (-1) else (lx u p0.dv r6).bind λr7=>bif decide (r7 < 0) then some (-1) else some r7
def BX(u:Nat)(p0:eG):Option eG:=
 some p0
def Eb(u:Nat)(x11:List Int):Option (List Int):=
 some x11
def qA(u oa:Nat)(p0 x5:List Int)(x6:Int):Option (List Int):=match oa with
  | 0=>none
  | oa+1=>bif decide (x6 < (p0.length:Int)) then (ce p0 x6).bind λy9=>(ce x5 x6).bind λy10=>qA u oa p0 (x5.set (sY x6) y9) (aS .i64 x6 1) else Eb u x5
def BY(u:Nat)(p0:List Int):Option (List Int):=
 (de (decide (0<=(p0.length:Int)) && ((p0.length:Int) == 0 || (p0.length:Int) == (p0.length:Int)))).bind λ_=>(de (decide (sY (p0.length:Int)*8<=140737488355328))).bind λ_=>qA u u p0 (zQV (sY (p0.length:Int)) (0:Int)) 0
def P6(u:Nat)(p0:List Int)(s:List Int):Option (List Int):=Eb u s
def GU(u:Nat)(p0:List Int)(y9:Int)(i_:Nat)(s:List Int)(k_:List Int->Option (List Int)):Option (List Int):=(ce s (i_:Int)).bind λy10=>k_ (s.set (sY (i_:Int)) y9)
theorem P7(u:Nat)(p0:List Int)(s:List Int)(k:Nat)(hn:p0.length<=9223372036854775807)(hk:p0.length < k):qA u k p0 s 0=Pu.bn (P6 u p0) (GU u p0) p0 0 s:=Pu.bw (λ(k:Nat) (s:List Int) (i:Int)=>qA u k p0 s i) hn (λ_ _ _=>rfl) s hk
def BZ(u:Nat)(p0:bV):Option bV:=
 (BY u p0.bP).bind λr1=>some (bV.mk r1)
def CK(u:Nat)(x11:List Int):Option (List Int):=
 some x11
def o5(u mJ:Nat)(p0 x5:List Int)(x6:Int):Option (List Int):=match mJ with
  | 0=>none
  | mJ+1=>bif decide (x6 < (p0.length:Int)) then (ce p0 x6).bind λy9=>(ce x5 x6).bind λy10=>o5 u mJ p0 (x5.set (sY x6) y9) (aS .i64 x6 1) else CK u x5
def jS(u:Nat)(p0:List Int):Option (List Int):=
 (de (decide (0<=(p0.length:Int)) && ((p0.length:Int) == 0 || (p0.length:Int) == (p0.length:Int)))).bind λ_=>(de (decide (sY (p0.length:Int)*1<=140737488355328))).bind λ_=>o5 u u p0 (zQV (sY (p0.length:Int)) (0:Int)) 0
def Nj(u:Nat)(p0:List Int)(s:List Int):Option (List Int):=CK u s
def Fu(u:Nat)(p0:List Int)(y9:Int)(i_:Nat)(s:List Int)(k_:List Int->Option (List Int)):Option (List Int):=(ce s (i_:Int)).bind λy10=>k_ (s.set (sY (i_:Int)) y9)
theorem Nk(u:Nat)(p0:List Int)(s:List Int)(k:Nat)(hn:p0.length<=9223372036854775807)(hk:p0.length < k):o5 u k p0 s 0=Pu.bn (Nj u p0) (Fu u p0) p0 0 s:=Pu.bw (λ(k:Nat) (s:List Int) (i:Int)=>o5 u k p0 s i) hn (λ_ _ _=>rfl) s hk
def uR(u:Nat)(p0:aM):Option aM:=
 (jS u p0.fB).bind λr1=>some (aM.mk r1)
def AX(u:Nat)(x12:List aM):Option (List aM):=
 some x12
def nL(u lp:Nat)(p0 x5:List aM)(x6:Int):Option (List aM):=match lp with
  | 0=>none
  | lp+1=>bif decide (x6 < (p0.length:Int)) then (ce p0 x6).bind λy9=>(uR u y9).bind λr10=>(ce x5 x6).bind λy11=>nL u lp p0 (x5.set (sY x6) r10) (aS .i64 x6 1) else AX u x5
def wm(u:Nat)(p0:List aM):Option (List aM):=
 (de (decide (0<=(p0.length:Int)) && ((p0.length:Int) == 0 || (p0.length:Int) == (p0.length:Int)))).bind λ_=>(de (decide (sY (p0.length:Int)*24<=140737488355328))).bind λ_=>nL u u p0 (zQV (sY (p0.length:Int)) ((aM.mk []):aM)) 0
def Mc(u:Nat)(p0:List aM)(s:List aM):Option (List aM):=AX u s
def Ec(u:Nat)(p0:List aM)(y9:aM)(i_:Nat)(s:List aM)(k_:List aM->Option (List aM)):Option (List aM):=(uR u y9).bind λr10=>(ce s (i_:Int)).bind λy11=>k_ (s.set (sY (i_:Int)) r10)
theorem Md(u:Nat)(p0:List aM)(s:List aM)(k:Nat)(hn:p0.length<=9223372036854775807)(hk:p0.length < k):nL u k p0 s 0=Pu.bn (Mc u p0) (Ec u p0) p0 0 s:=Pu.bw (λ(k:Nat) (s:List aM) (i:Int)=>nL u k p0 s i) hn (λ_ _ _=>rfl) s hk
def AY(u:Nat)(p0:bQ):Option bQ:=
 some p0
def Ed(u:Nat)(x12:List bQ):Option (List bQ):=
 some x12
def qB(u oe:Nat)(p0 x5:List bQ)(x6:Int):Option (List bQ):=match oe with
  | 0=>none
  | oe+1=>bif decide (x6 < (p0.length:Int)) then (ce p0 x6).bind λy9=>(AY u y9).bind λr10=>(ce x5 x6).bind λy11=>qB u oe p0 (x5.set (sY x6) r10) (aS .i64 x6 1) else Ed u x5
def B0(u:Nat)(p0:List bQ):Option (List bQ):=
 (de (decide (0<=(p0.length:Int)) && ((p0.length:Int) == 0 || (p0.length:Int) == (p0.length:Int)))).bind λ_=>(de (decide (sY (p0.length:Int)*16<=140737488355328))).bind λ_=>qB u u p0 (zQV (sY (p0.length:Int)) ((bQ.mk 0 0):bQ)) 0
def P8(u:Nat)(p0:List bQ)(s:List bQ):Option (List bQ):=Ed u s
def GV(u:Nat)(p0:List bQ)(y9:bQ)(i_:Nat)(s:List bQ)(k_:List bQ->Option (List bQ)):Option (List bQ):=(AY u y9).bind λr10=>(ce s (i_:Int)).bind λy11=>k_ (s.set (sY (i_:Int)) r10)
theorem P9(u:Nat)(p0:List bQ)(s:List bQ)(k:Nat)(hn:p0.length<=9223372036854775807)(hk:p0.length < k):qB u k p0 s 0=Pu.bn (P8 u p0) (GV u p0) p0 0 s:=Pu.bw (λ(k:Nat) (s:List bQ) (i:Int)=>qB u k p0 s i) hn (λ_ _ _=>rfl) s hk
def sd(u:Nat)(p0:ae):Option ae:=
 (B0 u p0.aI).bind λr1=>some (ae.mk p0.aN p0.aG p0.aV r1)
def y0(u:Nat)(p0:aY):Option aY:=
 (jS u p0.bj).bind λr1=>some (aY.mk p0.aT r1)
def AZ(u:Nat)(p0:Kid):Option Kid:=
 some p0
def Ee(u:Nat)(x12:List Kid):Option (List Kid):=
 some x12
def qC(u oc:Nat)(p0 x5:List Kid)(x6:Int):Option (List Kid):=match oc with
  | 0=>none
  | oc+1=>bif decide (x6 < (p0.length:Int)) then (ce p0 x6).bind λy9=>(AZ u y9).bind λr10=>(ce x5 x6).bind λy11=>qC u oc p0 (x5.set (sY x6) r10) (aS .i64 x6 1) else Ee u x5
def B1(u:Nat)(p0:List Kid):Option (List Kid):=
 (de (decide (0<=(p0.length:Int)) && ((p0.length:Int) == 0 || (p0.length:Int) == (p0.length:Int)))).bind λ_=>(de (decide (sY (p0.length:Int)*40<=140737488355328))).bind λ_=>qC u u p0 (zQV (sY (p0.length:Int)) ((Kid.mk 0 0 0 0 0):Kid)) 0
def Qa(u:Nat)(p0:List Kid)(s:List Kid):Option (List Kid):=Ee u s
def GW(u:Nat)(p0:List Kid)(y9:Kid)(i_:Nat)(s:List Kid)(k_:List Kid->Option (List Kid)):Option (List Kid):=(AZ u y9).bind λr10=>(ce s (i_:Int)).bind λy11=>k_ (s.set (sY (i_:Int)) r10)
theorem Qb(u:Nat)(p0:List Kid)(s:List Kid)(k:Nat)(hn:p0.length<=9223372036854775807)(hk:p0.length < k):qC u k p0 s 0=Pu.bn (Qa u p0) (GW u p0) p0 0 s:=Pu.bw (λ(k:Nat) (s:List Kid) (i:Int)=>qC u k p0 s i) hn (λ_ _ _=>rfl) s hk
def yz(u:Nat)(p0:aA):Option aA:=
 (sd u p0.ay).bind λr1=>(y0 u p0.aZ).bind λr2=>(B1 u p0.aW).bind λr3=>some (aA.mk p0.eh p0.bh p0.ba r1 r2 p0.aH r3 p0.a7)
def CL(u:Nat)(x12:List aA):Option (List aA):=
 some x12
def o6(u mL:Nat)(p0 x5:List aA)(x6:Int):Option (List aA):=match mL with
  | 0=>none
  | mL+1=>bif decide (x6 < (p0.length:Int)) then (ce p0 x6).bind λy9=>(yz u y9).bind λr10=>(ce x5 x6).bind λy11=>o6 u mL p0 (x5.set (sY x6) r10) (aS .i64 x6 1) else CL u x5
def za(u:Nat)(p0:List aA):Option (List aA):=
 (de (decide (0<=(p0.length:Int)) && ((p0.length:Int) == 0 || (p0.length:Int) == (p0.length:Int)))).bind λ_=>(de (decide (sY (p0.length:Int)*144<=140737488355328))).bind λ_=>o6 u u p0 (zQV (sY (p0.length:Int)) ((aA.mk false 0 0 (ae.mk 0 0 0 []) (aY.mk 0 []) 0 [] 0):aA)) 0
def Nl(u:Nat)(p0:List aA)(s:List aA):Option (List aA):=CL u s
def Fv(u:Nat)(p0:List aA)(y9:aA)(i_:Nat)(s:List aA)(k_:List aA->Option (List aA)):Option (List aA):=(yz u y9).bind λr10=>(ce s (i_:Int)).bind λy11=>k_ (s.set (sY (i_:Int)) r10)
theorem Nm(u:Nat)(p0:List aA)(s:List aA)(k:Nat)(hn:p0.length<=9223372036854775807)(hk:p0.length < k):o6 u k p0 s 0=Pu.bn (Nl u p0) (Fv u p0) p0 0 s:=Pu.bw (λ(k:Nat) (s:List aA) (i:Int)=>o6 u k p0 s i) hn (λ_ _ _=>rfl) s hk
def sJ(u:Nat)(p0:ct):Option ct:=
 some p0
def A0(u:Nat)(p0:bR):Option bR:=
 (jS u p0.fB).bind λr1=>(sJ u p0.fR).bind λr2=>some (bR.mk p0.eK p0.Gl r1 r2)
def Ef(u:Nat)(x12:List bR):Option (List bR):=
 some x12
def qD(u od:Nat)(p0 x5:List bR)(x6:Int):Option (List bR):=match od with
  | 0=>none
  | od+1=>bif decide (x6 < (p0.length:Int)) then (ce p0 x6).bind λy9=>(A0 u y9).bind λr10=>(ce x5 x6).bind λy11=>qD u od p0 (x5.set (sY x6) r10) (aS .i64 x6 1) else Ef u x5
def B2(u:Nat)(p0:List bR):Option (List bR):=
 (de (decide (0<=(p0.length:Int)) && ((p0.length:Int) == 0 || (p0.length:Int) == (p0.length:Int)))).bind λ_=>(de (decide (sY (p0.length:Int)*64<=140737488355328))).bind λ_=>qD u u p0 (zQV (sY (p0.length:Int)) ((bR.mk 0 0 [] (ct.mk 0 0 0)):bR)) 0
def Qc(u:Nat)(p0:List bR)(s:List bR):Option (List bR):=Ef u s
def GX(u:Nat)(p0:List bR)(y9:bR)(i_:Nat)(s:List bR)(k_:List bR->Option (List bR)):Option (List bR):=(A0 u y9).bind λr10=>(ce s (i_:Int)).bind λy11=>k_ (s.set (sY (i_:Int)) r10)
theorem Qd(u:Nat)(p0:List bR)(s:List bR)(k:Nat)(hn:p0.length<=9223372036854775807)(hk:p0.length < k):qD u k p0 s 0=Pu.bn (Qc u p0) (GX u p0) p0 0 s:=Pu.bw (λ(k:Nat) (s:List bR) (i:Int)=>qD u k p0 s i) hn (λ_ _ _=>rfl) s hk
def yA(u:Nat)(p0:ar):Option ar:=
 (jS u p0.fA).bind λr1=>(jS u p0.fB).bind λr2=>(sJ u p0.fR).bind λr3=>(B2 u p0.fP).bind λr4=>some (ar.mk r1 r2 r3 r4)
def CM(u:Nat)(x12:List ar):Option (List ar):=
 some x12
def o7(u mK:Nat)(p0 x5:List ar)(x6:Int):Option (List ar):=match mK with
  | 0=>none
  | mK+1=>bif decide (x6 < (p0.length:Int)) then (ce p0 x6).bind λy9=>(yA u y9).bind λr10=>(ce x5 x6).bind λy11=>o7 u mK p0 (x5.set (sY x6) r10) (aS .i64 x6 1) else CM u x5
def zb(u:Nat)(p0:List ar):Option (List ar):=
 (de (decide (0<=(p0.length:Int)) && ((p0.length:Int) == 0 || (p0.length:Int) == (p0.length:Int)))).bind λ_=>(de (decide (sY (p0.length:Int)*96<=140737488355328))).bind λ_=>o7 u u p0 (zQV (sY (p0.length:Int)) ((ar.mk [] [] (ct.mk 0 0 0) []):ar)) 0
def Nn(u:Nat)(p0:List ar)(s:List ar):Option (List ar):=CM u s
def Fw(u:Nat)(p0:List ar)(y9:ar)(i_:Nat)(s:List ar)(k_:List ar->Option (List ar)):Option (List ar):=(yA u y9).bind λr10=>(ce s (i_:Int)).bind λy11=>k_ (s.set (sY (i_:Int)) r10)
theorem No(u:Nat)(p0:List ar)(s:List ar)(k:Nat)(hn:p0.length<=9223372036854775807)(hk:p0.length < k):o7 u k p0 s 0=Pu.bn (Nn u p0) (Fw u p0) p0 0 s:=Pu.bw (λ(k:Nat) (s:List ar) (i:Int)=>o7 u k p0 s i) hn (λ_ _ _=>rfl) s hk
def sK(u:Nat)(p0:ah):Option ah:=
 (jS u p0.fB).bind λr1=>some (ah.mk p0.cM p0.w9 r1)
def zd(u:Nat)(x12:List ah):Option (List ah):=
 some x12
def mh(u kp:Nat)(p0 x5:List ah)(x6:Int):Option (List ah):=match kp with
  | 0=>none
  | kp+1=>bif decide (x6 < (p0.length:Int)) then (ce p0 x6).bind λy9=>(sK u y9).bind λr10=>(ce x5 x6).bind λy11=>mh u kp p0 (x5.set (sY x6) r10) (aS .i64 x6 1) else zd u x5
def tF(u:Nat)(p0:List ah):Option (List ah):=
 (de (decide (0<=(p0.length:Int)) && ((p0.length:Int) == 0 || (p0.length:Int) == (p0.length:Int)))).bind λ_=>(de (decide (sY (p0.length:Int)*40<=140737488355328))).bind λ_=>mh u u p0 (zQV (sY (p0.length:Int)) ((ah.mk 0 0 []):ah)) 0
def K4(u:Nat)(p0:List ah)(s:List ah):Option (List ah):=zd u s
def Dp(u:Nat)(p0:List ah)(y9:ah)(i_:Nat)(s:List ah)(k_:List ah->Option (List ah)):Option (List ah):=(sK u y9).bind λr10=>(ce s (i_:Int)).bind λy11=>k_ (s.set (sY (i_:Int)) r10)
theorem K5(u:Nat)(p0:List ah)(s:List ah)(k:Nat)(hn:p0.length<=9223372036854775807)(hk:p0.length < k):mh u k p0 s 0=Pu.bn (K4 u p0) (Dp u p0) p0 0 s:=Pu.bw (λ(k:Nat) (s:List ah) (i:Int)=>mh u k p0 s i) hn (λ_ _ _=>rfl) s hk
def yB(u:Nat)(p0:br):Option br:=
 some p0
def CN(u:Nat)(x12:List br):Option (List br):=
 some x12
def o8(u mM:Nat)(p0 x5:List br)(x6:Int):Option (List br):=match mM with
  | 0=>none
  | mM+1=>bif decide (x6 < (p0.length:Int)) then (ce p0 x6).bind λy9=>(yB u y9).bind λr10=>(ce x5 x6).bind λy11=>o8 u mM p0 (x5.set (sY x6) r10) (aS .i64 x6 1) else CN u x5
def ze(u:Nat)(p0:List br):Option (List br):=
 (de (decide (0<=(p0.length:Int)) && ((p0.length:Int) == 0 || (p0.length:Int) == (p0.length:Int)))).bind λ_=>(de (decide (sY (p0.length:Int)*24<=140737488355328))).bind λ_=>o8 u u p0 (zQV (sY (p0.length:Int)) ((br.mk 0 0 0):br)) 0
def Np(u:Nat)(p0:List br)(s:List br):Option (List br):=CN u s
def Fx(u:Nat)(p0:List br)(y9:br)(i_:Nat)(s:List br)(k_:List br->Option (List br)):Option (List br):=(yB u y9).bind λr10=>(ce s (i_:Int)).bind λy11=>k_ (s.set (sY (i_:Int)) r10)
theorem Nq(u:Nat)(p0:List br)(s:List br)(k:Nat)(hn:p0.length<=9223372036854775807)(hk:p0.length < k):o8 u k p0 s 0=Pu.bn (Np u p0) (Fx u p0) p0 0 s:=Pu.bw (λ(k:Nat) (s:List br) (i:Int)=>o8 u k p0 s i) hn (λ_ _ _=>rfl) s hk
def rE(u:Nat)(p0:World):Option World:=
 (BX u p0.fC).bind λr1=>(BZ u p0.fT).bind λr2=>(jS u p0.cF).bind λr3=>(wm u p0.cu).bind λr4=>(za u p0.fN).bind λr5=>(zb u p0.fD).bind λr6=>(tF u p0.bM).bind λr7=>(ze u p0.dv).bind λr8=>some (World.mk r1 r2 r3 r4 r5 r6 r7 r8 p0.ch)
def zf(u:Nat)(x8:List aM):Option (List aM):=
 some x8
def mi(u kv:Nat)(p0 x3:List aM)(x4:Int):Option (List aM):=match kv with
  | 0=>none
  | kv+1=>bif decide (x4 < (p0.length:Int)) then (ce p0 x4).bind λy7=>(de (decide ((([]:List Int).length+y7.fB.length)*1<=140737488355328))).bind λ_=>(de (decide ((x3.length+([(aM.mk (([]:List Int)++y7.fB))]).length)*24<=140737488355328))).bind λ_=>mi u kv p0 (x3++([(aM.mk (([]:List Int)++y7.fB))])) (aS .i64 x4 1) else zf u x3
def tG(u:Nat)(p0:List aM):Option (List aM):=
 mi u u p0 ([]:List aM) 0
def K6(u:Nat)(p0:List aM)(s:List aM):Option (List aM):=zf u s
def Dq(u:Nat)(p0:List aM)(y7:aM)(i_:Nat)(s:List aM)(k_:List aM->Option (List aM)):Option (List aM):=(de (decide ((([]:List Int).length+y7.fB.length)*1<=140737488355328))).bind λ_=>(de (decide ((s.length+([(aM.mk (([]:List Int)++y7.fB))]).length)*24<=140737488355328))).bind λ_=>k_ (s++([(aM.mk (([]:List Int)++y7.fB))]))
theorem K7(u:Nat)(p0:List aM)(s:List aM)(k:Nat)(hn:p0.length<=9223372036854775807)(hk:p0.length < k):mi u k p0 s 0=Pu.bn (K6 u p0) (Dq u p0) p0 0 s:=Pu.bw (λ(k:Nat) (s:List aM) (i:Int)=>mi u k p0 s i) hn (λ_ _ _=>rfl) s hk
def yC(u:Nat)(p0:ae):Option ae:=
 (de (decide ((([]:List bQ).length+p0.aI.length)*16<=140737488355328))).bind λ_=>some (ae.mk p0.aN p0.aG p0.aV (([]:List bQ)++p0.aI))
def yD(u:Nat)(p0:aY):Option aY:=
 (de (decide ((([]:List Int).length+p0.bj.length)*1<=140737488355328))).bind λ_=>some (aY.mk p0.aT (([]:List Int)++p0.bj))
def eL(u:Nat)(p0:aA):Option aA:=
 (yC u p0.ay).bind λr1=>(yD u p0.aZ).bind λr2=>(de (decide ((([]:List Kid).length+p0.aW.length)*40<=140737488355328))).bind λ_=>some (aA.mk p0.eh p0.bh p0.ba r1 r2 p0.aH (([]:List Kid)++p0.aW) p0.a7)
def lG(u:Nat)(p0:bR):Option bR:=
 (de (decide ((([]:List Int).length+p0.fB.length)*1<=140737488355328))).bind λ_=>some (bR.mk p0.eK p0.Gl (([]:List Int)++p0.fB) p0.fR)
def Eg(u:Nat)(p0:ar)(x11:List bR):Option ar:=
 some (ar.mk (([]:List Int)++p0.fA) (([]:List Int)++p0.fB) p0.fR x11)
def qE(u oz:Nat)(x5:Int)(p0:ar)(x6:List bR):Option ar:=match oz with
  | 0=>none
  | oz+1=>bif decide (x5 < (p0.fP.length:Int)) then (ce p0.fP x5).bind λy9=>(lG u y9).bind λr10=>(de (decide ((x6.length+[r10].length)*64<=140737488355328))).bind λ_=>qE u oz (aS .i64 x5 1) p0 (x6++[r10]) else Eg u p0 x6
def gF(u:Nat)(p0:ar):Option ar:=
 (de (decide ((([]:List Int).length+p0.fA.length)*1<=140737488355328))).bind λ_=>(de (decide ((([]:List Int).length+p0.fB.length)*1<=140737488355328))).bind λ_=>qE u u 0 p0 ([]:List bR)
def Qe(u:Nat)(p0:ar)(s:List bR):Option ar:=Eg u p0 s
def GY(u:Nat)(p0:ar)(y9:bR)(i_:Nat)(s:List bR)(k_:List bR->Option ar):Option ar:=(lG u y9).bind λr10=>(de (decide ((s.length+[r10].length)*64<=140737488355328))).bind λ_=>k_ (s++[r10])
theorem Qf(u:Nat)(p0:ar)(s:List bR)(k:Nat)(hn:p0.fP.length<=9223372036854775807)(hk:p0.fP.length < k):qE u k 0 p0 s=Pu.bn (Qe u p0) (GY u p0) p0.fP 0 s:=Pu.bw (λ(k:Nat) (s:List bR) (i:Int)=>qE u k i p0 s) hn (λ_ _ _=>rfl) s hk
def rF(u:Nat)(x10:List ah):Option (List ah):=
 some x10
def gW(u fY:Nat)(p0 x3:List ah)(x4:Int):Option (List ah):=match fY with
  | 0=>none
  | fY+1=>bif decide (x4 < (p0.length:Int)) then (ce p0 x4).bind λy7=>(ce p0 x4).bind λy8=>(ce p0 x4).bind λy9=>(de (decide ((([]:List Int).length+y9.fB.length)*1<=140737488355328))).bind λ_=>(de (decide ((x3.length+([(ah.mk y7.cM y8.w9 (([]:List Int)++y9.fB))]).length)*40<=140737488355328))).bind λ_=>gW u fY p0 (x3++([(ah.mk y7.cM y8.w9 (([]:List Int)++y9.fB))])) (aS .i64 x4 1) else rF u x3
def nj(u:Nat)(p0:List ah):Option (List ah):=
 gW u u p0 ([]:List ah) 0
def Gm(u:Nat)(p0:List ah)(s:List ah):Option (List ah):=rF u s
def wn(u:Nat)(p0:List ah)(y7:ah)(i_:Nat)(s:List ah)(k_:List ah->Option (List ah)):Option (List ah):=(ce p0 (i_:Int)).bind λy8=>(ce p0 (i_:Int)).bind λy9=>(de (decide ((([]:List Int).length+y9.fB.length)*1<=140737488355328))).bind λ_=>(de (decide ((s.length+([(ah.mk y7.cM y8.w9 (([]:List Int)++y9.fB))]).length)*40<=140737488355328))).bind λ_=>k_ (s++([(ah.mk y7.cM y8.w9 (([]:List Int)++y9.fB))]))
theorem Gn(u:Nat)(p0:List ah)(s:List ah)(k:Nat)(hn:p0.length<=9223372036854775807)(hk:p0.length < k):gW u k p0 s 0=Pu.bn (Gm u p0) (wn u p0) p0 0 s:=Pu.bw (λ(k:Nat) (s:List ah) (i:Int)=>gW u k p0 s i) hn (λ_ _ _=>rfl) s hk
def xd(u:Nat)(p0:World)(r3:List aM)(x12:List aA)(x21:List ar):Option World:=
 (nj u p0.bM).bind λr22=>(de (decide ((([]:List br).length+p0.dv.length)*24<=140737488355328))).bind λ_=>some (World.mk p0.fC (bV.mk (([]:List Int)++p0.fT.bP)) (([]:List Int)++p0.cF) r3 x12 x21 r22 (([]:List br)++p0.dv) p0.ch)
def o9(u mP:Nat)(x15:Int)(p0:World)(r3:List aM)(x12:List aA)(x16:List ar):Option World:=match mP with
  | 0=>none
  | mP+1=>bif decide (x15 < (p0.fD.length:Int)) then (ce p0.fD x15).bind λy19=>(gF u y19).bind λr20=>(de (decide ((x16.length+[r20].length)*96<=140737488355328))).bind λ_=>o9 u mP (aS .i64 x15 1) p0 r3 x12 (x16++[r20]) else xd u p0 r3 x12 x16
def xe(u:Nat)(p0:World)(r3:List aM)(x12:List aA):Option World:=
 o9 u u 0 p0 r3 x12 ([]:List ar)
def pa(u mQ:Nat)(x6:Int)(p0:World)(r3:List aM)(x7:List aA):Option World:=match mQ with
  | 0=>none
  | mQ+1=>bif decide (x6 < (p0.fN.length:Int)) then (ce p0.fN x6).bind λy10=>(eL u y10).bind λr11=>(de (decide ((x7.length+[r11].length)*144<=140737488355328))).bind λ_=>pa u mQ (aS .i64 x6 1) p0 r3 (x7++[r11]) else xe u p0 r3 x7
def zg(u:Nat)(p0:World):Option World:=
 (de (decide ((([]:List Int).length+p0.fT.bP.length)*8<=140737488355328))).bind λ_=>(de (decide ((([]:List Int).length+p0.cF.length)*1<=140737488355328))).bind λ_=>(tG u p0.cu).bind λr3=>pa u u 0 p0 r3 ([]:List aA)
def Fy(u:Nat)(p0:World)(r3:List aM)(x12:List aA)(s:List ar):Option World:=xd u p0 r3 x12 s
def Fz(u:Nat)(p0:World)(r3:List aM)(x12:List aA)(y19:ar)(i_:Nat)(s:List ar)(k_:List ar->Option World):Option World:=(gF u y19).bind λr20=>(de (decide ((s.length+[r20].length)*96<=140737488355328))).bind λ_=>k_ (s++[r20])
theorem Nr(u:Nat)(p0:World)(r3:List aM)(x12:List aA)(s:List ar)(k:Nat)(hn:p0.fD.length<=9223372036854775807)(hk:p0.fD.length < k):o9 u k 0 p0 r3 x12 s=Pu.bn (Fy u p0 r3 x12) (Fz u p0 r3 x12) p0.fD 0 s:=Pu.bw (λ(k:Nat) (s:List ar) (i:Int)=>o9 u k i p0 r3 x12 s) hn (λ_ _ _=>rfl) s hk
def FA(u:Nat)(p0:World)(r3:List aM)(s:List aA):Option World:=xe u p0 r3 s
def FB(u:Nat)(p0:World)(r3:List aM)(y10:aA)(i_:Nat)(s:List aA)(k_:List aA->Option World):Option World:=(eL u y10).bind λr11=>(de (decide ((s.length+[r11].length)*144<=140737488355328))).bind λ_=>k_ (s++[r11])
theorem Ns(u:Nat)(p0:World)(r3:List aM)(s:List aA)(k:Nat)(hn:p0.fN.length<=9223372036854775807)(hk:p0.fN.length < k):pa u k 0 p0 r3 s=Pu.bn (FA u p0 r3) (FB u p0 r3) p0.fN 0 s:=Pu.bw (λ(k:Nat) (s:List aA) (i:Int)=>pa u k i p0 r3 s) hn (λ_ _ _=>rfl) s hk
def bL(u:Nat)(p0 p1 p2:Int):Option Bool:=
 bif decide (p0>=p1) then some (decide (p0<=p2)) else some false
def B3(u:Nat)(p0:eG):Option Bool:=
 (bL u p0.aG 2 6).bind λr1=>bif r1 then (bL u p0.bi 1 40).bind λr2=>bif r2 then (bL u p0.a9 1 5).bind λr3=>bif r3 then (bL u p0.bd 2 8).bind λr4=>some r4 else some false else some false else some false
def Eh(u:Nat)  : Option Bool:=
 some true
def lH(u oo:Nat)(x5:Int)(p0:bV):Option Bool:=match oo with
  | 0=>none
  | oo+1=>bif decide (x5 < (p0.bP.length:Int)) then (ce p0.bP x5).bind λy7=>(bL u y7 0 (cJ .i64 x5 1)).bind λr8=>bif !r8 then some false else lH u oo (aS .i64 x5 1) p0 else Eh u
def zh(u:Nat)(x3:Bool)(p0:bV):Option Bool:=
 bif x3 then some false else lH u u 1 p0
def tH(u:Nat)(p0:bV):Option Bool:=
 (bL u (p0.bP.length:Int) 1 7).bind λr1=>bif !r1 then zh u true p0 else (ce p0.bP 0).bind λy2=>zh u (y2 != (-1)) p0
def GZ(u:Nat)(p0:bV)(s:Unit):Option Bool:=Eh u
def A2(u:Nat)(p0:bV)(y7:Int)(i_:Nat)(s:Unit)(k_:Unit->Option Bool):Option Bool:=(bL u y7 0 (cJ .i64 (i_:Int) 1)).bind λr8=>bif !r8 then some false else k_ ()
theorem qd7(u:Nat)(p0:bV)(s:Unit)(k:Nat)(hn:p0.bP.length<=9223372036854775807)(hk:p0.bP.length < k):lH u k 0 p0=Pu.bn (GZ u p0) (A2 u p0) p0.bP 0 s:=Pu.bw (λ(k:Nat) (s:Unit) (i:Int)=>lH u k i p0) hn (λ_ _ _=>rfl) s hk
def pL(u:Nat)(p0 p1:Int):Option Bool:=
 (bL u p0 2 6).bind λr1=>bif r1 then (bL u p1 0 (ip .i64 p0 40)).bind λr2=>some r2 else some false
def CO(u:Nat)(p0:List aM)(p1:Int):Option Bool:=
 some ((p0.length:Int) == p1)
def pb(u mR:Nat)(p0:List aM)(p1 x2:Int):Option Bool:=match mR with
  | 0=>none
  | mR+1=>bif decide (x2 < (p0.length:Int)) then (ce p0 x2).bind λy4=>bif decide ((y4.fB.length:Int) > 240) then some false else pb u mR p0 p1 (aS .i64 x2 1) else CO u p0 p1
def zi(u:Nat)(p0:List aM)(p1:Int):Option Bool:=
 pb u u p0 p1 0
def Nt(u:Nat)(p0:List aM)(p1:Int)(s:Unit):Option Bool:=CO u p0 p1
def FC(u:Nat)(p0:List aM)(p1:Int)(y4:aM)(i_:Nat)(s:Unit)(k_:Unit->Option Bool):Option Bool:=bif decide ((y4.fB.length:Int) > 240) then some false else k_ ()
theorem Nu(u:Nat)(p0:List aM)(p1:Int)(s:Unit)(k:Nat)(hn:p0.length<=9223372036854775807)(hk:p0.length < k):pb u k p0 p1 0=Pu.bn (Nt u p0 p1) (FC u p0 p1) p0 0 s:=Pu.bw (λ(k:Nat) (s:Unit) (i:Int)=>pb u k p0 p1 i) hn (λ_ _ _=>rfl) s hk
def xg(u:Nat)(p0 p1:Int)(x3:Bool):Option Int:=
 bif x3 then some 0 else (de (!(p1 == 0))).bind λ_=>some (qcO .i64 (cJ .i64 (aS .i64 p0 p1) 1) p1)
def zj(u:Nat)(p0 p1:Int):Option Int:=
 (bL u p0 0 1000000000000).bind λr1=>bif !r1 then xg u p0 p1 true else (bL u p1 1 1000000000000).bind λr2=>xg u p0 p1 (!r2)
def pM(u:Nat)(p0 p1:Int):Option Int:=
 (pL u p0 p1).bind λr1=>bif !r1 then some 0 else (zj u p1 p0).bind λr2=>some r2
def Ei(u:Nat)(p0 p1:Int):Option Int:=
 bif decide (p1 < p0) then some p1 else some p0
def gG(u:Nat)(p0 p1 p2:Int):Option (Int×Int):=
 (pM u p0 p1).bind λr1=>(bL u p2 0 (cJ .i64 r1 1)).bind λr2=>bif !r2 then some (0,0) else (Ei u p0 (cJ .i64 p1 (ip .i64 p2 p0))).bind λr3=>some (ip .i64 p2 p0,r3)
def rG(u:Nat)(p0:List Int)(p1 p2:Int):Option ((List Int)×Bool):=
 (gG u p1 (p0.length:Int) p2).bind λr1=>bif r1.2 == 0 then some (([]:List Int),false) else (de (dW r1.1 (aS .i64 r1.1 r1.2) p0.length)).bind λ_=>(de (decide ((([]:List Int).length+((p0.take (sY (aS .i64 r1.1 r1.2))).drop (sY r1.1)).length)*1<=140737488355328))).bind λ_=>some (([]:List Int)++((p0.take (sY (aS .i64 r1.1 r1.2))).drop (sY r1.1)),true)
def tJ(u:Nat)(x11 x12:Int):Option Int:=
 some (aS .i64 x11 (ip .i64 251 x12))
def qF(u oq:Nat)(p0:List Int)(x4 x5 x6:Int):Option Int:=match oq with
  | 0=>none
  | oq+1=>bif decide (x6 < (p0.length:Int)) then (ce p0 x6).bind λy10=>qF u oq p0 (ut .i64 (aS .i64 x4 (zm .i64 y10)) 251) (ut .i64 (aS .i64 x5 (ut .i64 (aS .i64 x4 (zm .i64 y10)) 251)) 251) (aS .i64 x6 1) else tJ u x4 x5
def rv(u:Nat)(p0:List Int):Option Int:=
 qF u u p0 0 0 0
def G0(u:Nat)(p0:List Int)(s:Int×Int):Option Int:=tJ u s.1 s.2
def A3(u:Nat)(p0:List Int)(y10:Int)(i_:Nat)(s:Int×Int)(k_:(Int×Int)->Option Int):Option Int:=k_ (ut .i64 (aS .i64 s.1 (zm .i64 y10)) 251,ut .i64 (aS .i64 s.2 (ut .i64 (aS .i64 s.1 (zm .i64 y10)) 251)) 251)
theorem Qg(u:Nat)(p0:List Int)(s:Int×Int)(k:Nat)(hn:p0.length<=9223372036854775807)(hk:p0.length < k):qF u k p0 s.1 s.2 0=Pu.bn (G0 u p0) (A3 u p0) p0 0 s:=Pu.bw (λ(k:Nat) (s:Int×Int) (i:Int)=>qF u k p0 s.1 s.2 i) hn (λ_ _ _=>rfl) s hk
def wo(u:Nat)(p0:List Int)(x8:Int):Option bQ:=
 (rv u p0).bind λr9=>some (bQ.mk r9 x8)
def sL(u pG:Nat)(p0:List Int)(x3 x4:Int):Option bQ:=match pG with
  | 0=>none
  | pG+1=>bif decide (x4 < (p0.length:Int)) then (ce p0 x4).bind λy7=>sL u pG p0 (aS .i64 (ip .i64 256 x3) (zm .i64 y7)) (aS .i64 x4 1) else wo u p0 x3
def je(u:Nat)(p0:List Int):Option bQ:=
 bif decide ((p0.length:Int) > 6) then some (bQ.mk 0 0) else sL u u p0 1 0
def IM(u:Nat)(p0:List Int)(s:Int):Option bQ:=wo u p0 s
def CP(u:Nat)(p0:List Int)(y7:Int)(i_:Nat)(s:Int)(k_:Int->Option bQ):Option bQ:=k_ (aS .i64 (ip .i64 256 s) (zm .i64 y7))
theorem SX(u:Nat)(p0:List Int)(s:Int)(k:Nat)(hn:p0.length<=9223372036854775807)(hk:p0.length < k):sL u k p0 s 0=Pu.bn (IM u p0) (CP u p0) p0 0 s:=Pu.bw (λ(k:Nat) (s i:Int)=>sL u k p0 s i) hn (λ_ _ _=>rfl) s hk
def Ej(u:Nat)(x10:List bQ):Option (List bQ):=
 some x10
def qG(u om:Nat)(p0:List Int)(p1:Int)(x3:List bQ)(x4:Int):Option (List bQ):=match om with
  | 0=>none
  | om+1=>(pM u p1 (p0.length:Int)).bind λr7=>bif decide (x4 < r7) then (rG u p0 p1 x4).bind λr8=>(je u r8.1).bind λr9=>(de (decide ((x3.length+[r9].length)*16<=140737488355328))).bind λ_=>qG u om p0 p1 (x3++[r9]) (aS .i64 x4 1) else Ej u x3
def yE(u:Nat)(p0:List Int)(p1:Int):Option (List bQ):=
 qG u u p0 p1 ([]:List bQ) 0
def BD(u:Nat)(p0:Int)(p1:List Int)(p2:Int)(x3:Bool):Option ae:=
 bif x3 then some (ae.mk 0 0 0 []) else (yE u p1 p2).bind λr4=>some (ae.mk p0 p2 (p1.length:Int) r4)
def Ek(u:Nat)(p0:Int)(p1:List Int)(p2:Int):Option ae:=
 (bL u p0 1 1000000).bind λr1=>bif !r1 then BD u p0 p1 p2 true else (pL u p2 (p1.length:Int)).bind λr2=>BD u p0 p1 p2 (!r2)
def El(u:Nat)(p0:World):Option ae:=
 (Ek u 1 p0.cF p0.fC.aG).bind λr1=>some r1
def xW(u:Nat)  : Option Bool:=
 some true
def kT(u jz:Nat)(p0 p1:List bQ)(x2:Int):Option Bool:=match jz with
  | 0=>none
  | jz+1=>bif decide (x2 < (p0.length:Int)) then (ce p0 x2).bind λy4=>(ce p1 x2).bind λy5=>bif !([y4.fW,y4.fS] == [y5.fW,y5.fS]) then some false else kT u jz p0 p1 (aS .i64 x2 1) else xW u
def pc(u:Nat)(p0 p1:List bQ):Option Bool:=
 bif (p0.length:Int) != (p1.length:Int) then some false else kT u u p0 p1 0
def JD(u:Nat)(p0 p1:List bQ)(s:Unit):Option Bool:=xW u
def B4(u:Nat)(p0 p1:List bQ)(y4:bQ)(i_:Nat)(s:Unit)(k_:Unit->Option Bool):Option Bool:=(ce p1 (i_:Int)).bind λy5=>bif !([y4.fW,y4.fS] == [y5.fW,y5.fS]) then some false else k_ ()
theorem JE(u:Nat)(p0 p1:List bQ)(s:Unit)(k:Nat)(hn:p0.length<=9223372036854775807)(hk:p0.length < k):kT u k p0 p1 0=Pu.bn (JD u p0 p1) (B4 u p0 p1) p0 0 s:=Pu.bw (λ(k:Nat) (s:Unit) (i:Int)=>kT u k p0 p1 i) hn (λ_ _ _=>rfl) s hk
def nt(u:Nat)(p0 p1:ae):Option Bool:=
 bif p0.aN == p1.aN then bif p0.aG == p1.aG then bif p0.aV == p1.aV then (pc u p0.aI p1.aI).bind λr1=>some r1 else some false else some false else some false
def uS(u:Nat)(p0:aA):Option Bool:=
 (nt u p0.ay (ae.mk 0 0 0 [])).bind λr1=>bif r1 then bif p0.aZ.aT == 0 then some ((p0.aZ.bj.length:Int) == 0) else some false else some false
def zk(u:Nat)(x11:List Int):Option (List Int):=
 some x11
def tK(u:Nat)(Sw:Int->List Int->bV->Option (List Int))(x3:Int)(x4:List Int)(x8:Bool)(p0:bV):Option (List Int):=
 bif x8 then (de (decide ((x4.length+([x3]:List Int).length)*8<=140737488355328))).bind λ_=>(ce p0.bP x3).bind λy10=>Sw y10 (x4++([x3]:List Int)) p0 else zk u x4
def jT(u jx:Nat)(x3:Int)(x4:List Int)(p0:bV):Option (List Int):=match jx with
  | 0=>none
  | jx+1=>(bL u x3 0 (cJ .i64 (p0.bP.length:Int) 1)).bind λr7=>bif r7 then tK u (jT u jx) x3 x4 (decide ((x4.length:Int) < (p0.bP.length:Int))) p0 else tK u (jT u jx) x3 x4 false p0
def B5(u:Nat)(p0:bV)(p1:Int):Option (List Int):=
 jT u u p1 ([]:List Int) p0
def Em(u:Nat)  : Option Bool:=
 some false
def qH(u ot:Nat)(p0:List Int)(p1 x2:Int):Option Bool:=match ot with
  | 0=>none
  | ot+1=>bif decide (x2 < (p0.length:Int)) then (ce p0 x2).bind λy4=>bif y4 == p1 then some true else qH u ot p0 p1 (aS .i64 x2 1) else Em u
def B6(u:Nat)(p0:List Int)(p1:Int):Option Bool:=
 qH u u p0 p1 0
def G1(u:Nat)(p0:List Int)(p1:Int)(s:Unit):Option Bool:=Em u
def A4(u:Nat)(p0:List Int)(p1 y4:Int)(i_:Nat)(s:Unit)(k_:Unit->Option Bool):Option Bool:=bif y4 == p1 then some true else k_ ()
theorem Qh(u:Nat)(p0:List Int)(p1:Int)(s:Unit)(k:Nat)(hn:p0.length<=9223372036854775807)(hk:p0.length < k):qH u k p0 p1 0=Pu.bn (G1 u p0 p1) (A4 u p0 p1) p0 0 s:=Pu.bw (λ(k:Nat) (s:Unit) (i:Int)=>qH u k p0 p1 i) hn (λ_ _ _=>rfl) s hk
def qf(u:Nat)(p0:bV)(p1 p2:Int):Option Bool:=
 bif p1 != p2 then (B5 u p0 p2).bind λr1=>(B6 u r1 p1).bind λr2=>some r2 else some false
def cK(u:Nat)(p0:Int):Option Bool:=
 (bL u p0 0 1099511627775).bind λr1=>some r1
def Eo(u:Nat)  : Option Bool:=
 some true
def cD(u:Nat)(Su:List Kid->Int->Option Bool)(p0:List Kid)(x2:Int)(x22:Bool):Option Bool:=
 bif x22 then some false else Su p0 (aS .i64 x2 1)
def dI(u da:Nat)(p0:List Kid)(x2:Int):Option Bool:=match da with
  | 0=>none
  | da+1=>bif decide (x2 < (p0.length:Int)) then (ce p0 x2).bind λy4=>(bL u y4.gj 0 6).bind λr5=>bif !r5 then cD u (dI u da) p0 x2 true else bif decide (x2 > 0) then (ce p0 (cJ .i64 x2 1)).bind λy6=>(ce p0 x2).bind λy7=>bif decide (y6.gj>=y7.gj) then cD u (dI u da) p0 x2 true else (ce p0 x2).bind λy8=>(cK u y8.bJ).bind λr9=>bif !r9 then cD u (dI u da) p0 x2 true else (ce p0 x2).bind λy10=>(cK u y10.bG).bind λr11=>bif !r11 then cD u (dI u da) p0 x2 true else (ce p0 x2).bind λy12=>(cK u y12.ef).bind λr13=>bif !r13 then cD u (dI u da) p0 x2 true else (ce p0 x2).bind λy14=>cD u (dI u da) p0 x2 (decide (y14.mg < 0)) else (ce p0 x2).bind λy15=>(cK u y15.bJ).bind λr16=>bif !r16 then cD u (dI u da) p0 x2 true else (ce p0 x2).bind λy17=>(cK u y17.bG).bind λr18=>bif !r18 then cD u (dI u da) p0 x2 true else (ce p0 x2).bind λy19=>(cK u y19.ef).bind λr20=>bif !r20 then cD u (dI u da) p0 x2 true else (ce p0 x2).bind λy21=>cD u (dI u da) p0 x2 (decide (y21.mg < 0)) else Eo u
def rx(u:Nat)(p0:List Kid):Option Bool:=
 dI u u p0 0
def Qi(u:Nat)(p0:List Kid)(s:Unit):Option Bool:=Eo u
def G2(u:Nat)(p0:List Kid)(y4:Kid)(i_:Nat)(s:Unit)(k_:Unit->Option Bool):Option Bool:=(bL u y4.gj 0 6).bind λr5=>bif !r5 then cD u (λz0 z1=>k_ ()) p0 (i_:Int) true else bif decide ((i_:Int) > 0) then (ce p0 (cJ .i64 (i_:Int) 1)).bind λy6=>(ce p0 (i_:Int)).bind λy7=>bif decide (y6.gj>=y7.gj) then cD u (λz0 z1=>k_ ()) p0 (i_:Int) true else (ce p0 (i_:Int)).bind λy8=>(cK u y8.bJ).bind λr9=>bif !r9 then cD u (λz0 z1=>k_ ()) p0 (i_:Int) true else (ce p0 (i_:Int)).bind λy10=>(cK u y10.bG).bind λr11=>bif !r11 then cD u (λz0 z1=>k_ ()) p0 (i_:Int) true else (ce p0 (i_:Int)).bind λy12=>(cK u y12.ef).bind λr13=>bif !r13 then cD u (λz0 z1=>k_ ()) p0 (i_:Int) true else (ce p0 (i_:Int)).bind λy14=>cD u (λz0 z1=>k_ ()) p0 (i_:Int) (decide (y14.mg < 0)) else (ce p0 (i_:Int)).bind λy15=>(cK u y15.bJ).bind λr16=>bif !r16 then cD u (λz0 z1=>k_ ()) p0 (i_:Int) true else (ce p0 (i_:Int)).bind λy17=>(cK u y17.bG).bind λr18=>bif !r18 then cD u (λz0 z1=>k_ ()) p0 (i_:Int) true else (ce p0 (i_:Int)).bind λy19=>(cK u y19.ef).bind λr20=>bif !r20 then cD u (λz0 z1=>k_ ()) p0 (i_:Int) true else (ce p0 (i_:Int)).bind λy21=>cD u (λz0 z1=>k_ ()) p0 (i_:Int) (decide (y21.mg < 0))
theorem Qj(u:Nat)(p0:List Kid)(s:Unit)(k:Nat)(hn:p0.length<=9223372036854775807)(hk:p0.length < k):dI u k p0 0=Pu.bn (Qi u p0) (G2 u p0) p0 0 s:=Pu.bw (λ(k:Nat) (s:Unit) (i:Int)=>dI u k p0 i) hn (λ_ _ _=>rfl) s hk
def CQ(u:Nat)(x8:List Int):Option ((List Int)×Bool):=
 some (x8,true)
def pd(u mN:Nat)(x4:Int)(x5:List Int):Option ((List Int)×Bool):=match mN with
  | 0=>none
  | mN+1=>bif decide (x4 > 1) then bif decide (x4 < 256) then some (([]:List Int),false) else (de (decide ((([zm .u8 (gU .i64 x4 255)]:List Int).length+x5.length)*1<=140737488355328))).bind λ_=>pd u mN (qm .i64 x4 8) (([zm .u8 (gU .i64 x4 255)]:List Int)++x5) else CQ u x5
def rH(u:Nat)(p0:Int):Option ((List Int)×Bool):=
 (bL u p0 1 562949953421311).bind λr1=>bif !r1 then some (([]:List Int),false) else pd u u p0 ([]:List Int)
def Gp(u:Nat)  : Option Bool:=
 some true
def nC(u:Nat)(U6:Int->ae->Option Bool)(x6:Int)(x13:Bool)(p0:ae):Option Bool:=
 bif x13 then some false else U6 (aS .i64 x6 1) p0
def ly(u jc:Nat)(x6:Int)(p0:ae):Option Bool:=match jc with
  | 0=>none
  | jc+1=>bif decide (x6 < (p0.aI.length:Int)) then (ce p0.aI x6).bind λy8=>(rH u y8.fS).bind λr9=>(gG u p0.aG p0.aV x6).bind λr10=>bif !r9.2 then nC u (ly u jc) x6 true p0 else bif (r9.1.length:Int) != r10.2 then nC u (ly u jc) x6 true p0 else (je u r9.1).bind λr11=>(ce p0.aI x6).bind λy12=>nC u (ly u jc) x6 (!([r11.fW,r11.fS] == [y12.fW,y12.fS])) p0 else Gp u
def wq(u:Nat)(x4:Bool)(p0:ae):Option Bool:=
 bif x4 then some false else ly u u 0 p0
def kU(u:Nat)(p0:ae):Option Bool:=
 bif p0.aN == 0 then bif p0.aG == 0 then bif p0.aV == 0 then some ((p0.aI.length:Int) == 0) else some false else some false else (bL u p0.aN 1 1000000).bind λr1=>bif !r1 then wq u true p0 else (pL u p0.aG p0.aV).bind λr2=>bif !r2 then wq u true p0 else (pM u p0.aG p0.aV).bind λr3=>wq u ((p0.aI.length:Int) != r3) p0
def IN(u:Nat)(p0:ae)(s:Unit):Option Bool:=Gp u
def CR(u:Nat)(p0:ae)(y8:bQ)(i_:Nat)(s:Unit)(k_:Unit->Option Bool):Option Bool:=(rH u y8.fS).bind λr9=>(gG u p0.aG p0.aV (i_:Int)).bind λr10=>bif !r9.2 then nC u (λz0 z1=>k_ ()) (i_:Int) true p0 else bif (r9.1.length:Int) != r10.2 then nC u (λz0 z1=>k_ ()) (i_:Int) true p0 else (je u r9.1).bind λr11=>(ce p0.aI (i_:Int)).bind λy12=>nC u (λz0 z1=>k_ ()) (i_:Int) (!([r11.fW,r11.fS] == [y12.fW,y12.fS])) p0
theorem SY(u:Nat)(p0:ae)(s:Unit)(k:Nat)(hn:p0.aI.length<=9223372036854775807)(hk:p0.aI.length < k):ly u k 0 p0=Pu.bn (IN u p0) (CR u p0) p0.aI 0 s:=Pu.bw (λ(k:Nat) (s:Unit) (i:Int)=>ly u k i p0) hn (λ_ _ _=>rfl) s hk
def uT(u:Nat)(p0:Int):Option Int:=
 (bL u p0 0 40).bind λr1=>bif !r1 then some 0 else (de (decide (0<=p0))).bind λ_=>some (cJ .i64 (iq .i64 1 p0) 1)
def sM(u:Nat)(p0:ae):Option Int:=
 (uT u (p0.aI.length:Int)).bind λr1=>some r1
def xh(u:Nat)(p0 p1:Int)(x3:Bool):Option Int:=
 bif x3 then some 0 else some (DV .i64 p0 p1)
def uU(u:Nat)(p0 p1:Int):Option Int:=
 (cK u p0).bind λr1=>bif !r1 then xh u p0 p1 true else (cK u p1).bind λr2=>xh u p0 p1 (!r2)
def gH(u:Nat)(p0 p1:Int):Option Bool:=
 (cK u p0).bind λr1=>bif r1 then (bL u p1 0 39).bind λr2=>bif r2 then (de (decide (0<=p1))).bind λ_=>some (gU .i64 (qm .i64 p0 p1) 1 == 1) else some false else some false
def Ep(u:Nat)  : Option Bool:=
 some true
def qI(u ou:Nat)(p0:List Int)(x2:Int):Option Bool:=match ou with
  | 0=>none
  | ou+1=>bif decide (x2 < (p0.length:Int)) then (ce p0 x2).bind λy4=>bif y4 != 0 then some false else qI u ou p0 (aS .i64 x2 1) else Ep u
def ry(u:Nat)(p0:List Int):Option Bool:=
 qI u u p0 0
def Qk(u:Nat)(p0:List Int)(s:Unit):Option Bool:=Ep u
def G3(u:Nat)(p0:List Int)(y4:Int)(i_:Nat)(s:Unit)(k_:Unit->Option Bool):Option Bool:=bif y4 != 0 then some false else k_ ()
theorem Ql(u:Nat)(p0:List Int)(s:Unit)(k:Nat)(hn:p0.length<=9223372036854775807)(hk:p0.length < k):qI u k p0 0=Pu.bn (Qk u p0) (G3 u p0) p0 0 s:=Pu.bw (λ(k:Nat) (s:Unit) (i:Int)=>qI u k p0 i) hn (λ_ _ _=>rfl) s hk
def CS(u:Nat)  : Option Bool:=
 some true
def eM(u:Nat)(PX:Int->ae->aY->Option Bool)(x7:Int)(x18:Bool)(p0:ae)(p1:aY):Option Bool:=
 bif x18 then some false else PX (aS .i64 x7 1) p0 p1
def fw(u ez:Nat)(x7:Int)(p0:ae)(p1:aY):Option Bool:=match ez with
  | 0=>none
  | ez+1=>bif decide (x7 < (p0.aI.length:Int)) then (gG u p0.aG p0.aV x7).bind λr9=>(de (dW r9.1 (aS .i64 r9.1 r9.2) p1.bj.length)).bind λ_=>(gH u p1.aT x7).bind λr11=>bif r11 then (je u ((p1.bj.take (sY (aS .i64 r9.1 r9.2))).drop (sY r9.1))).bind λr12=>(ce p0.aI x7).bind λy13=>bif !([r12.fW,r12.fS] == [y13.fW,y13.fS]) then eM u (fw u ez) x7 true p0 p1 else (gH u p1.aT x7).bind λr14=>bif !r14 then (ry u ((p1.bj.take (sY (aS .i64 r9.1 r9.2))).drop (sY r9.1))).bind λr15=>eM u (fw u ez) x7 (!r15) p0 p1 else eM u (fw u ez) x7 false p0 p1 else (gH u p1.aT x7).bind λr16=>bif !r16 then (ry u ((p1.bj.take (sY (aS .i64 r9.1 r9.2))).drop (sY r9.1))).bind λr17=>eM u (fw u ez) x7 (!r17) p0 p1 else eM u (fw u ez) x7 false p0 p1 else CS u
def pe(u:Nat)(x5:Bool)(p0:ae)(p1:aY):Option Bool:=
 bif x5 then some false else fw u u 0 p0 p1
def pN(u:Nat)(p0:ae)(p1:aY):Option Bool:=
 (kU u p0).bind λr1=>bif !r1 then pe u true p0 p1 else (cK u p1.aT).bind λr2=>bif !r2 then pe u true p0 p1 else (sM u p0).bind λr3=>(uU u p1.aT r3).bind λr4=>bif r4 != 0 then pe u true p0 p1 else pe u ((p1.bj.length:Int) != p0.aV) p0 p1
def Nv(u:Nat)(p0:ae)(p1:aY)(s:Unit):Option Bool:=CS u
def FD(u:Nat)(p0:ae)(p1:aY)(i_:Nat)(s:Unit)(k_:Unit->Option Bool):Option Bool:=(gG u p0.aG p0.aV (i_:Int)).bind λr9=>(de (dW r9.1 (aS .i64 r9.1 r9.2) p1.bj.length)).bind λ_=>(gH u p1.aT (i_:Int)).bind λr11=>bif r11 then (je u ((p1.bj.take (sY (aS .i64 r9.1 r9.2))).drop (sY r9.1))).bind λr12=>(ce p0.aI (i_:Int)).bind λy13=>bif !([r12.fW,r12.fS] == [y13.fW,y13.fS]) then eM u (λz0 z1 z2=>k_ ()) (i_:Int) true p0 p1 else (gH u p1.aT (i_:Int)).bind λr14=>bif !r14 then (ry u ((p1.bj.take (sY (aS .i64 r9.1 r9.2))).drop (sY r9.1))).bind λr15=>eM u (λz0 z1 z2=>k_ ()) (i_:Int) (!r15) p0 p1 else eM u (λz0 z1 z2=>k_ ()) (i_:Int) false p0 p1 else (gH u p1.aT (i_:Int)).bind λr16=>bif !r16 then (ry u ((p1.bj.take (sY (aS .i64 r9.1 r9.2))).drop (sY r9.1))).bind λr17=>eM u (λz0 z1 z2=>k_ ()) (i_:Int) (!r17) p0 p1 else eM u (λz0 z1 z2=>k_ ()) (i_:Int) false p0 p1
theorem Nw(u:Nat)(p0:ae)(p1:aY)(s:Unit)(k:Nat)(hn:((p0.aI.length:Int):Int)<=9223372036854775807)(hk:sY (p0.aI.length:Int) < k):fw u k 0 p0 p1=Pu.qn (Nv u p0 p1) (FD u p0 p1) (sY (p0.aI.length:Int)) 0 s:=Pu.o3 (λ(k:Nat) (s:Unit) (i:Int)=>fw u k i p0 p1) hn (λ_ _ _=>rfl) s hk
def uV(u:Nat)(p0:ae)(p1:aY):Option Int:=
 (sM u p0).bind λr1=>(uU u r1 p1.aT).bind λr2=>some r2
def A5(u:Nat)(p0:ae)(p1:aY):Option Bool:=
 bif p0.aN != 0 then (pN u p0 p1).bind λr1=>bif r1 then (uV u p0 p1).bind λr2=>some (r2 == 0) else some false else some false
def tL(u:Nat)(p2:aA):Option Bool:=
 bif p2.aH == 0 then (uS u p2).bind λr18=>some r18 else bif p2.aH == 1 then bif p2.ay.aN != 0 then (pN u p2.ay p2.aZ).bind λr19=>some r19 else some false else (bL u p2.aH 2 6).bind λr20=>bif r20 then (A5 u p2.ay p2.aZ).bind λr21=>some r21 else some false
def qJ(u:Nat)(Sv:Int->Int->bV->aA->Option Bool)(p1 x13:Int)(x17:Bool)(p0:bV)(p2:aA):Option Bool:=
 bif x17 then some false else Sv p1 (aS .i64 x13 1) p0 p2
def jU(u jw:Nat)(p1 x13:Int)(p0:bV)(p2:aA):Option Bool:=match jw with
  | 0=>none
  | jw+1=>bif decide (x13 < (p2.aW.length:Int)) then (ce p2.aW x13).bind λy15=>bif y15.gj == p1 then qJ u (jU u jw) p1 x13 true p0 p2 else (ce p2.aW x13).bind λy16=>qJ u (jU u jw) p1 x13 (decide (y16.gj>=(p0.bP.length:Int))) p0 p2 else tL u p2
def cL(u:Nat)(p1:Int)(x11:Bool)(p0:bV)(p2:aA):Option Bool:=
 bif x11 then some false else jU u u p1 0 p0 p2
def zl(u:Nat)(p1:Int)(x3:Bool)(p0:bV)(p2:aA):Option Bool:=
 bif x3 then some false else bif !p2.eh then bif p2.bh == 0 then bif p2.ba == 0 then (uS u p2).bind λr4=>bif r4 then bif p2.aH == 0 then bif (p2.aW.length:Int) == 0 then some (p2.a7 == 0) else some false else some false else some false else some false else some false else bif p1 == 0 then bif p2.bh != (-1) then cL u p1 true p0 p2 else bif decide (p1 > 0) then (qf u p0 p2.bh p1).bind λr5=>bif !r5 then cL u p1 true p0 p2 else bif decide (p2.ba < 0) then cL u p1 true p0 p2 else bif decide (p2.a7 < 0) then cL u p1 true p0 p2 else bif !((p2.aH == 6) == (p1 == 0)) then cL u p1 true p0 p2 else (rx u p2.aW).bind λr6=>cL u p1 (!r6) p0 p2 else bif decide (p2.ba < 0) then cL u p1 true p0 p2 else bif decide (p2.a7 < 0) then cL u p1 true p0 p2 else bif !((p2.aH == 6) == (p1 == 0)) then cL u p1 true p0 p2 else (rx u p2.aW).bind λr7=>cL u p1 (!r7) p0 p2 else bif decide (p1 > 0) then (qf u p0 p2.bh p1).bind λr8=>bif !r8 then cL u p1 true p0 p2 else bif decide (p2.ba < 0) then cL u p1 true p0 p2 else bif decide (p2.a7 < 0) then cL u p1 true p0 p2 else bif !((p2.aH == 6) == (p1 == 0)) then cL u p1 true p0 p2 else (rx u p2.aW).bind λr9=>cL u p1 (!r9) p0 p2 else bif decide (p2.ba < 0) then cL u p1 true p0 p2 else bif decide (p2.a7 < 0) then cL u p1 true p0 p2 else bif !((p2.aH == 6) == (p1 == 0)) then cL u p1 true p0 p2 else (rx u p2.aW).bind λr10=>cL u p1 (!r10) p0 p2
def yF(u:Nat)(p0:bV)(p1:Int)(p2:aA):Option Bool:=
 (tH u p0).bind λr1=>bif !r1 then zl u p1 true p0 p2 else (bL u p1 0 (cJ .i64 (p0.bP.length:Int) 1)).bind λr2=>zl u p1 (!r2) p0 p2
def Qm(u:Nat)(p1:Int)(p0:bV)(p2:aA)(s:Unit):Option Bool:=tL u p2
def G4(u:Nat)(p1:Int)(p0:bV)(p2:aA)(y15:Kid)(i_:Nat)(s:Unit)(k_:Unit->Option Bool):Option Bool:=bif y15.gj == p1 then qJ u (λz0 z1 z2 z3=>k_ ()) p1 (i_:Int) true p0 p2 else (ce p2.aW (i_:Int)).bind λy16=>qJ u (λz0 z1 z2 z3=>k_ ()) p1 (i_:Int) (decide (y16.gj>=(p0.bP.length:Int))) p0 p2
theorem Qn(u:Nat)(p1:Int)(p0:bV)(p2:aA)(s:Unit)(k:Nat)(hn:p2.aW.length<=9223372036854775807)(hk:p2.aW.length < k):jU u k p1 0 p0 p2=Pu.bn (Qm u p1 p0 p2) (G4 u p1 p0 p2) p2.aW 0 s:=Pu.bw (λ(k:Nat) (s:Unit) (i:Int)=>jU u k p1 i p0 p2) hn (λ_ _ _=>rfl) s hk
def sN(u:Nat)(p0:ct):Option Bool:=
 (bL u p0.aN 0 1000000).bind λr1=>bif r1 then (bL u p0.b9 0 1).bind λr2=>bif r2 then (bL u p0.aV 0 240).bind λr3=>some r3 else some false else some false
def rz(u:Nat)(p0:ar)(p1:Int):Option (List Int):=
 bif p1 == 1 then some p0.fB else some p0.fA
def xX(u:Nat)(p0:bR):Option Bool:=
 bif p0.eK == 2 then bif p0.Gl == 0 then bif (p0.fB.length:Int) == 0 then (sN u p0.fR).bind λr1=>some r1 else some false else some false else (bL u p0.eK 0 1).bind λr2=>bif r2 then (bL u p0.Gl 0 240).bind λr3=>bif r3 then bif decide ((p0.fB.length:Int)<=(cJ .i64 240 p0.Gl)) then some ([p0.fR.aN,p0.fR.b9,p0.fR.aV] == [0,0,0]) else some false else some false else some false
def Er(u:Nat)  : Option Bool:=
 some true
def oB(u og:Nat)(x5:Int)(p0:ar):Option Bool:=match og with
  | 0=>none
  | og+1=>bif decide (x5 < (p0.fP.length:Int)) then (ce p0.fP x5).bind λy7=>(xX u y7).bind λr8=>bif !r8 then some false else oB u og (aS .i64 x5 1) p0 else Er u
def oC(u:Nat)(x3:Bool)(p0:ar):Option Bool:=
 bif x3 then some false else oB u u 0 p0
def nD(u:Nat)(p0:ar):Option Bool:=
 bif decide ((p0.fA.length:Int) > 240) then oC u true p0 else bif decide ((p0.fB.length:Int) > 240) then oC u true p0 else (sN u p0.fR).bind λr1=>bif !r1 then oC u true p0 else (rz u p0 p0.fR.b9).bind λr2=>bif decide (p0.fR.aV > (r2.length:Int)) then oC u true p0 else oC u (decide ((p0.fP.length:Int) > 200)) p0
def G5(u:Nat)(p0:ar)(s:Unit):Option Bool:=Er u
def A6(u:Nat)(p0:ar)(y7:bR)(i_:Nat)(s:Unit)(k_:Unit->Option Bool):Option Bool:=(xX u y7).bind λr8=>bif !r8 then some false else k_ ()
theorem Qo(u:Nat)(p0:ar)(s:Unit)(k:Nat)(hn:p0.fP.length<=9223372036854775807)(hk:p0.fP.length < k):oB u k 0 p0=Pu.bn (G5 u p0) (A6 u p0) p0.fP 0 s:=Pu.bw (λ(k:Nat) (s:Unit) (i:Int)=>oB u k i p0) hn (λ_ _ _=>rfl) s hk
def uW(u:Nat)(p0:ar):Option (Int×(List Int)):=
 (nD u p0).bind λr1=>bif !r1 then some (0,([]:List Int)) else (rz u p0 p0.fR.b9).bind λr2=>(de (dW 0 p0.fR.aV r2.length)).bind λ_=>(de (decide ((([]:List Int).length+((r2.take (sY p0.fR.aV)).drop (sY 0)).length)*1<=140737488355328))).bind λ_=>some (p0.fR.aN,([]:List Int)++((r2.take (sY p0.fR.aV)).drop (sY 0)))
def tM(u:Nat)(p0 p1:List Int):Option Bool:=
 some ((strOfNums p0).toList == (strOfNums p1).toList)
def qg(u:Nat)(p0:ar)(p1:Int)(p2:List Int):Option Bool:=
 (uW u p0).bind λr1=>bif r1.1 == p1 then (tM u r1.2 p2).bind λr2=>some r2 else some false
def ws(u:Nat)(p0:ar)(p1:List Int)(p2:Int)(p3:List Int):Option Bool:=
 (qg u p0 0 p1).bind λr1=>bif r1 then some true else (qg u p0 p2 p3).bind λr2=>some r2
def qh(u:Nat)(p0:ar):Option Int:=
 some (cJ .i64 1 p0.fR.b9)
def BE(u:Nat)(x14:List Int):Option (List Int):=
 some x14
def sO(u pI:Nat)(p1:Int)(p2 x8:List Int)(x9:Int):Option (List Int):=match pI with
  | 0=>none
  | pI+1=>bif decide (x9 < (p2.length:Int)) then (ce p2 x9).bind λy12=>(ce x8 (aS .i64 p1 x9)).bind λy13=>sO u pI p1 p2 (x8.set (sY (aS .i64 p1 x9)) y12) (aS .i64 x9 1) else BE u x8
def BF(u:Nat)(p1:Int)(p2 x5:List Int):Option (List Int):=
 sO u u p1 p2 x5 0
def wt(u pJ:Nat)(p1:Int)(p2 x3:List Int):Option (List Int):=match pJ with
  | 0=>none
  | pJ+1=>bif decide ((x3.length:Int) < (aS .i64 p1 (p2.length:Int))) then (de (decide ((x3.length+([0]:List Int).length)*1<=140737488355328))).bind λ_=>wt u pJ p1 p2 (x3++([0]:List Int)) else BF u p1 p2 x3
def A7(u:Nat)(p0:List Int)(p1:Int)(p2:List Int):Option (List Int):=
 (de (decide ((([]:List Int).length+p0.length)*1<=140737488355328))).bind λ_=>wt u u p1 p2 (([]:List Int)++p0)
def CT(u:Nat)(p1:Int)(p2:List Int)(s:List Int):Option (List Int):=BE u s
def CU(u:Nat)(p1:Int)(p2:List Int)(y12:Int)(i_:Nat)(s:List Int)(k_:List Int->Option (List Int)):Option (List Int):=(ce s (aS .i64 p1 (i_:Int))).bind λy13=>k_ (s.set (sY (aS .i64 p1 (i_:Int))) y12)
theorem SZ(u:Nat)(p1:Int)(p2:List Int)(s:List Int)(k:Nat)(hn:p2.length<=9223372036854775807)(hk:p2.length < k):sO u k p1 p2 s 0=Pu.bn (CT u p1 p2) (CU u p1 p2) p2 0 s:=Pu.bw (λ(k:Nat) (s:List Int) (i:Int)=>sO u k p1 p2 s i) hn (λ_ _ _=>rfl) s hk
def tN(u:Nat)(x5 x6:List Int)(x7 x8 x9:Int)(r1:ar):Option ar:=
 some (ar.mk x5 x6 (ct.mk x7 x8 x9) r1.fP)
def tO(u:Nat)(p0:ar)(p1:bR):Option ar:=
 (gF u p0).bind λr1=>(xX u p1).bind λr2=>bif !r2 then tN u r1.fA r1.fB r1.fR.aN r1.fR.b9 r1.fR.aV r1 else bif p1.eK == 0 then (A7 u p0.fA p1.Gl p1.fB).bind λr3=>tN u r3 r1.fB r1.fR.aN r1.fR.b9 r1.fR.aV r1 else bif p1.eK == 1 then (A7 u p0.fB p1.Gl p1.fB).bind λr4=>tN u r1.fA r4 r1.fR.aN r1.fR.b9 r1.fR.aV r1 else tN u r1.fA r1.fB p1.fR.aN p1.fR.b9 p1.fR.aV r1
def H6(u:Nat)(x26 x27:List Int)(x28 x29 x30:Int)(x31:List bR):Option ar:=
 some (ar.mk x26 x27 (ct.mk x28 x29 x30) ([]:List bR))
def uX(u rt:Nat)(x10:Int)(p0:ar)(x11 x12:List Int)(x13 x14 x15:Int)(x16:List bR):Option ar:=match rt with
  | 0=>none
  | rt+1=>bif decide (x10 < (p0.fP.length:Int)) then (ce p0.fP x10).bind λy24=>(tO u (ar.mk x11 x12 (ct.mk x13 x14 x15) x16) y24).bind λr25=>uX u rt (aS .i64 x10 1) p0 r25.fA r25.fB r25.fR.aN r25.fR.b9 r25.fR.aV r25.fP else H6 u x11 x12 x13 x14 x15 x16
def A8(u:Nat)(p0:ar):Option ar:=
 (gF u p0).bind λr1=>(nD u p0).bind λr2=>bif !r2 then some r1 else uX u u 0 p0 r1.fA r1.fB r1.fR.aN r1.fR.b9 r1.fR.aV r1.fP
def Es(u:Nat)(p0:ar)(s:(List Int)×(List Int)×Int×Int×Int×(List bR)):Option ar:=H6 u s.1 s.2.1 s.2.2.1 s.2.2.2.1 s.2.2.2.2.1 s.2.2.2.2.2
def Et(u:Nat)(p0:ar)(y24:bR)(i_:Nat)(s:(List Int)×(List Int)×Int×Int×Int×(List bR))(k_:((List Int)×(List Int)×Int×Int×Int×(List bR))->Option ar):Option ar:=(tO u (ar.mk s.1 s.2.1 (ct.mk s.2.2.1 s.2.2.2.1 s.2.2.2.2.1) s.2.2.2.2.2) y24).bind λr25=>k_ (r25.fA,r25.fB,r25.fR.aN,r25.fR.b9,r25.fR.aV,r25.fP)
theorem Vi(u:Nat)(p0:ar)(s:(List Int)×(List Int)×Int×Int×Int×(List bR))(k:Nat)(hn:p0.fP.length<=9223372036854775807)(hk:p0.fP.length < k):uX u k 0 p0 s.1 s.2.1 s.2.2.1 s.2.2.2.1 s.2.2.2.2.1 s.2.2.2.2.2=Pu.bn (Es u p0) (Et u p0) p0.fP 0 s:=Pu.bw (λ(k:Nat) (s:(List Int)×(List Int)×Int×Int×Int×(List bR)) (i:Int)=>uX u k i p0 s.1 s.2.1 s.2.2.1 s.2.2.2.1 s.2.2.2.2.1 s.2.2.2.2.2) hn (λ_ _ _=>rfl) s hk
def oD(u:Nat)(p0 p1:List Int):Option Bool:=
 bif decide ((p0.length:Int)>=(p1.length:Int)) then (de (dW 0 (p1.length:Int) p0.length)).bind λ_=>(tM u ((p0.take (sY (p1.length:Int))).drop (sY 0)) p1).bind λr2=>some r2 else some false
def ti(u:Nat)(p0:ar)(p2:aY):Option Bool:=
 (A8 u p0).bind λr8=>(qh u p0).bind λr9=>(rz u r8 r9).bind λr10=>(oD u r10 p2.bj).bind λr11=>some r11
def jV(u kt:Nat)(x4:Int)(p0:ar)(p2:aY):Option Bool:=match kt with
  | 0=>none
  | kt+1=>bif decide (x4 < (p0.fP.length:Int)) then (ce p0.fP x4).bind λy6=>(qh u p0).bind λr7=>bif y6.eK != r7 then some false else jV u kt (aS .i64 x4 1) p0 p2 else ti u p0 p2
def tP(u:Nat)(p0:ar)(p1:ae)(p2:aY)(p3:Int):Option Bool:=
 (qh u p0).bind λr1=>(rz u p0 r1).bind λr2=>bif p3 == 2 then jV u u 0 p0 p2 else bif p3 == 3 then bif (p0.fP.length:Int) == 0 then (oD u r2 p2.bj).bind λr8=>some r8 else some false else bif p3 == 4 then (qh u p0).bind λr9=>bif (p0.fP.length:Int) == 1 then (ce p0.fP 0).bind λy10=>bif y10.eK == 2 then (ce p0.fP 0).bind λy11=>bif [y11.fR.aN,y11.fR.b9,y11.fR.aV] == [p1.aN,r9,p1.aV] then (oD u r2 p2.bj).bind λr12=>some r12 else some false else some false else some false else some false
def vS(u:Nat)(p0:ar)(p2:aY)(s:Unit):Option Bool:=ti u p0 p2
def Dr(u:Nat)(p0:ar)(p2:aY)(y6:bR)(i_:Nat)(s:Unit)(k_:Unit->Option Bool):Option Bool:=(qh u p0).bind λr7=>bif y6.eK != r7 then some false else k_ ()
theorem K8(u:Nat)(p0:ar)(p2:aY)(s:Unit)(k:Nat)(hn:p0.fP.length<=9223372036854775807)(hk:p0.fP.length < k):jV u k 0 p0 p2=Pu.bn (vS u p0 p2) (Dr u p0 p2) p0.fP 0 s:=Pu.bw (λ(k:Nat) (s:Unit) (i:Int)=>jV u k i p0 p2) hn (λ_ _ _=>rfl) s hk
def jW(u:Nat)(p0:World)(p1:Int):Option Bool:=
 (ce p0.fN p1).bind λy1=>(ce p0.fD p1).bind λy2=>bif p1 == 0 then bif y1.eh then (ce p0.cu 0).bind λy3=>(qg u y2 0 y3.fB).bind λr4=>bif r4 then some ((y2.fP.length:Int) == 0) else some false else some false else (ce p0.cu p1).bind λy5=>(ws u y2 y5.fB 1 p0.cF).bind λr6=>bif !r6 then some false else bif y1.aH == 0 then some ((y2.fP.length:Int) == 0) else bif y1.aH == 1 then bif (y2.fP.length:Int) == 0 then (ce p0.cu p1).bind λy7=>(qg u y2 0 y7.fB).bind λr8=>some r8 else some false else bif y1.aH == 5 then bif (y2.fP.length:Int) == 0 then (qg u y2 1 p0.cF).bind λr9=>some r9 else some false else (ce p0.cu p1).bind λy10=>(qg u y2 0 y10.fB).bind λr11=>bif r11 then (tP u y2 y1.ay y1.aZ y1.aH).bind λr12=>some r12 else some false
def CW(u:Nat)  : Option Bool:=
 some true
def pf(u:Nat)(P0:World->Int->Option Bool)(p0:World)(x21:Int)(x27:Bool):Option Bool:=
 bif x27 then some false else P0 p0 (aS .i64 x21 1)
def kz(u iH:Nat)(p0:World)(x21:Int):Option Bool:=match iH with
  | 0=>none
  | iH+1=>bif decide (x21 < (p0.bM.length:Int)) then (ce p0.bM x21).bind λy23=>(bL u y23.cM 0 (cJ .i64 (p0.fT.bP.length:Int) 1)).bind λr24=>bif !r24 then pf u (kz u iH) p0 x21 true else (ce p0.bM x21).bind λy25=>(bL u y25.w9 0 (cJ .i64 (p0.fT.bP.length:Int) 1)).bind λr26=>pf u (kz u iH) p0 x21 (!r26) else CW u
def se(u:Nat)(p0:World):Option Bool:=
 kz u u p0 0
def eN(u:Nat)(P1:World->Int->ae->Option Bool)(p0:World)(x8:Int)(x19:Bool)(r6:ae):Option Bool:=
 bif x19 then some false else P1 p0 (aS .i64 x8 1) r6
def eO(u eA:Nat)(p0:World)(x8:Int)(r6:ae):Option Bool:=match eA with
  | 0=>none
  | eA+1=>bif decide (x8 < (p0.fT.bP.length:Int)) then (ce p0.fN x8).bind λy10=>(yF u p0.fT x8 y10).bind λr11=>bif !r11 then eN u (eO u eA) p0 x8 true r6 else (ce p0.fD x8).bind λy12=>(nD u y12).bind λr13=>bif !r13 then eN u (eO u eA) p0 x8 true r6 else (ce p0.fN x8).bind λy14=>bif y14.aH != 0 then (ce p0.fN x8).bind λy15=>(nt u y15.ay r6).bind λr16=>bif !r16 then eN u (eO u eA) p0 x8 true r6 else (jW u p0 x8).bind λr17=>eN u (eO u eA) p0 x8 (!r17) r6 else (jW u p0 x8).bind λr18=>eN u (eO u eA) p0 x8 (!r18) r6 else se u p0
def eP(u:Nat)(p0:World)(x5:Bool):Option Bool:=
 bif x5 then some false else (El u p0).bind λr6=>eO u u p0 0 r6
def zn(u:Nat)(p0:World):Option Bool:=
 (B3 u p0.fC).bind λr1=>bif !r1 then eP u p0 true else (tH u p0.fT).bind λr2=>bif !r2 then eP u p0 true else (pL u p0.fC.aG (p0.cF.length:Int)).bind λr3=>bif !r3 then eP u p0 true else (zi u p0.cu (p0.fT.bP.length:Int)).bind λr4=>bif !r4 then eP u p0 true else bif (p0.fN.length:Int) != (p0.fT.bP.length:Int) then eP u p0 true else bif (p0.fD.length:Int) != (p0.fT.bP.length:Int) then eP u p0 true else bif decide ((p0.bM.length:Int) > 400) then eP u p0 true else bif decide ((p0.dv.length:Int) > 3000) then eP u p0 true else eP u p0 (decide (p0.ch < 0))
def Nx(u:Nat)(p0:World)(s:Unit):Option Bool:=CW u
def FE(u:Nat)(p0:World)(y23:ah)(i_:Nat)(s:Unit)(k_:Unit->Option Bool):Option Bool:=(bL u y23.cM 0 (cJ .i64 (p0.fT.bP.length:Int) 1)).bind λr24=>bif !r24 then pf u (λz0 z1=>k_ ()) p0 (i_:Int) true else (ce p0.bM (i_:Int)).bind λy25=>(bL u y25.w9 0 (cJ .i64 (p0.fT.bP.length:Int) 1)).bind λr26=>pf u (λz0 z1=>k_ ()) p0 (i_:Int) (!r26)
theorem Ny(u:Nat)(p0:World)(s:Unit)(k:Nat)(hn:p0.bM.length<=9223372036854775807)(hk:p0.bM.length < k):kz u k p0 0=Pu.bn (Nx u p0) (FE u p0) p0.bM 0 s:=Pu.bw (λ(k:Nat) (s:Unit) (i:Int)=>kz u k p0 i) hn (λ_ _ _=>rfl) s hk
def Nz(u:Nat)(p0:World)(r6:ae)(s:Unit):Option Bool:=se u p0
def FF(u:Nat)(p0:World)(r6:ae)(i_:Nat)(s:Unit)(k_:Unit->Option Bool):Option Bool:=(ce p0.fN (i_:Int)).bind λy10=>(yF u p0.fT (i_:Int) y10).bind λr11=>bif !r11 then eN u (λz0 z1 z2=>k_ ()) p0 (i_:Int) true r6 else (ce p0.fD (i_:Int)).bind λy12=>(nD u y12).bind λr13=>bif !r13 then eN u (λz0 z1 z2=>k_ ()) p0 (i_:Int) true r6 else (ce p0.fN (i_:Int)).bind λy14=>bif y14.aH != 0 then (ce p0.fN (i_:Int)).bind λy15=>(nt u y15.ay r6).bind λr16=>bif !r16 then eN u (λz0 z1 z2=>k_ ()) p0 (i_:Int) true r6 else (jW u p0 (i_:Int)).bind λr17=>eN u (λz0 z1 z2=>k_ ()) p0 (i_:Int) (!r17) r6 else (jW u p0 (i_:Int)).bind λr18=>eN u (λz0 z1 z2=>k_ ()) p0 (i_:Int) (!r18) r6
theorem NA(u:Nat)(p0:World)(r6:ae)(s:Unit)(k:Nat)(hn:((p0.fT.bP.length:Int):Int)<=9223372036854775807)(hk:sY (p0.fT.bP.length:Int) < k):eO u k p0 0 r6=Pu.qn (Nz u p0 r6) (FF u p0 r6) (sY (p0.fT.bP.length:Int)) 0 s:=Pu.o3 (λ(k:Nat) (s:Unit) (i:Int)=>eO u k p0 i r6) hn (λ_ _ _=>rfl) s hk
def CX(u:Nat)  : Option Bool:=
 some true
def pg(u:Nat)(P3:Int->World->Option Bool)(x2:Int)(x6:Bool)(p0:World):Option Bool:=
 bif x6 then some false else P3 (aS .i64 x2 1) p0
def fx(u iJ:Nat)(x2:Int)(p0:World):Option Bool:=match iJ with
  | 0=>none
  | iJ+1=>bif decide (x2 < (p0.fN.length:Int)) then (ce p0.fN x2).bind λy4=>bif y4.eh then (ce p0.fN x2).bind λy5=>pg u (fx u iJ) x2 (y5.aH != 5) p0 else pg u (fx u iJ) x2 false p0 else CX u
def uY(u:Nat)(p0:World):Option Bool:=
 fx u u 1 p0
def NB(u:Nat)(p0:World)(s:Unit):Option Bool:=CX u
def NC(u:Nat)(p0:World)(y4:aA)(i_:Nat)(s:Unit)(k_:Unit->Option Bool):Option Bool:=bif y4.eh then (ce p0.fN (i_:Int)).bind λy5=>pg u (λz0 z1=>k_ ()) (i_:Int) (y5.aH != 5) p0 else pg u (λz0 z1=>k_ ()) (i_:Int) false p0
theorem qdC(u:Nat)(p0:World)(s:Unit)(k:Nat)(hn:p0.fN.length<=9223372036854775807)(hk:p0.fN.length < k):fx u k 0 p0=Pu.bn (NB u p0) (NC u p0) p0.fN 0 s:=Pu.bw (λ(k:Nat) (s:Unit) (i:Int)=>fx u k i p0) hn (λ_ _ _=>rfl) s hk
def Eu(u:Nat)(x9:List Kid):Option (List Kid):=
 some x9
def qK(u:Nat)(Sq:List Kid->Int->List Kid->Int->Option (List Kid))(p0:List Kid)(p1:Int)(x8:List Kid)(x4:Int):Option (List Kid):=
 Sq p0 p1 x8 (aS .i64 x4 1)
def lI(u jt:Nat)(p0:List Kid)(p1:Int)(x3:List Kid)(x4:Int):Option (List Kid):=match jt with
  | 0=>none
  | jt+1=>bif decide (x4 < (p0.length:Int)) then (ce p0 x4).bind λy7=>bif decide (y7.mg>=p1) then qK u (lI u jt) p0 p1 x3 x4 else (de (decide ((x3.length+([(Kid.mk y7.gj y7.bJ y7.bG (aS .i64 y7.mg 1) 0)]).length)*40<=140737488355328))).bind λ_=>qK u (lI u jt) p0 p1 (x3++([(Kid.mk y7.gj y7.bJ y7.bG (aS .i64 y7.mg 1) 0)])) x4 else Eu u x3
def B7(u:Nat)(p0:List Kid)(p1:Int):Option (List Kid):=
 lI u u p0 p1 ([]:List Kid) 0
def Qp(u:Nat)(p0:List Kid)(p1:Int)(s:List Kid):Option (List Kid):=Eu u s
def G6(u:Nat)(p0:List Kid)(p1:Int)(y7:Kid)(i_:Nat)(s:List Kid)(k_:List Kid->Option (List Kid)):Option (List Kid):=bif decide (y7.mg>=p1) then qK u (λz0 z1 z2 z3=>k_ z2) p0 p1 s (i_:Int) else (de (decide ((s.length+([(Kid.mk y7.gj y7.bJ y7.bG (aS .i64 y7.mg 1) 0)]).length)*40<=140737488355328))).bind λ_=>qK u (λz0 z1 z2 z3=>k_ z2) p0 p1 (s++([(Kid.mk y7.gj y7.bJ y7.bG (aS .i64 y7.mg 1) 0)])) (i_:Int)
theorem Qq(u:Nat)(p0:List Kid)(p1:Int)(s:List Kid)(k:Nat)(hn:p0.length<=9223372036854775807)(hk:p0.length < k):lI u k p0 p1 s 0=Pu.bn (Qp u p0 p1) (G6 u p0 p1) p0 0 s:=Pu.bw (λ(k:Nat) (s:List Kid) (i:Int)=>lI u k p0 p1 s i) hn (λ_ _ _=>rfl) s hk
def uZ(u:Nat)(p1 p2:Int)(x5:Bool)(p0:bV):Option Int:=
 bif x5 then (ce p0.bP p1).bind λy6=>some y6 else (ce p0.bP p2).bind λy7=>some y7
def u1(u:Nat)(p1 p2:Int)(x3:Bool)(p0:bV):Option Int:=
 bif x3 then some (-1) else bif decide (p2<=0) then uZ u p1 p2 true p0 else (qf u p0 p2 p1).bind λr4=>uZ u p1 p2 (!r4) p0
def wu(u:Nat)(p0:bV)(p1 p2:Int):Option Int:=
 (tH u p0).bind λr1=>bif !r1 then u1 u p1 p2 true p0 else (bL u p1 1 (cJ .i64 (p0.bP.length:Int) 1)).bind λr2=>u1 u p1 p2 (!r2) p0
def A9(u:Nat)(p0:ar)(p1:bR):Option (ar×Bool):=
 (gF u p0).bind λr1=>(lG u p1).bind λr2=>(de (decide ((r1.fP.length+[r2].length)*64<=140737488355328))).bind λ_=>(nD u (ar.mk r1.fA r1.fB r1.fR (r1.fP++[r2]))).bind λr4=>bif !r4 then (gF u p0).bind λr5=>some (r5,false) else some ((ar.mk r1.fA r1.fB r1.fR (r1.fP++[r2])),true)
def wv(u:Nat)(p0:ar)(p1 p2:Int)(p3:List Int):Option (ar×Bool):=
 (bL u p1 0 1).bind λr1=>bif !r1 then (gF u p0).bind λr2=>some (r2,false) else (A9 u p0 (bR.mk p1 p2 p3 (ct.mk 0 0 0))).bind λr3=>some (r3.1,r3.2)
def G7(u:Nat)(x32 x33:List Int)(x34 x35 x36:Int)(x37:List bR):Option (ar×Bool):=
 some ((ar.mk x32 x33 (ct.mk x34 x35 x36) x37),true)
def kV(u lq:Nat)(p1:List Int)(p2 x12:Int)(x13 x14:List Int)(x15 x16 x17:Int)(x18:List bR)(p0:ar):Option (ar×Bool):=match lq with
  | 0=>none
  | lq+1=>(pM u p2 (p1.length:Int)).bind λr26=>bif decide (x12 < r26) then (gG u p2 (p1.length:Int) x12).bind λr27=>(rG u p1 p2 x12).bind λr28=>(qh u p0).bind λr29=>(wv u (ar.mk x13 x14 (ct.mk x15 x16 x17) x18) r29 r27.1 r28.1).bind λr30=>bif !r30.2 then (gF u p0).bind λr31=>some (r31,false) else kV u lq p1 p2 (aS .i64 x12 1) r30.1.fA r30.1.fB r30.1.fR.aN r30.1.fR.b9 r30.1.fR.aV r30.1.fP p0 else G7 u x13 x14 x15 x16 x17 x18
def qL(u:Nat)(p1:List Int)(p2:Int)(x4:Bool)(r1 p0:ar):Option (ar×Bool):=
 bif x4 then some (r1,false) else kV u u p1 p2 0 r1.fA r1.fB r1.fR.aN r1.fR.b9 r1.fR.aV r1.fP p0
def ww(u:Nat)(p0:ar)(p1:List Int)(p2:Int):Option (ar×Bool):=
 (gF u p0).bind λr1=>(nD u p0).bind λr2=>bif !r2 then qL u p1 p2 true r1 p0 else bif decide ((p0.fP.length:Int) > 0) then qL u p1 p2 true r1 p0 else (pL u p2 (p1.length:Int)).bind λr3=>qL u p1 p2 (!r3) r1 p0
def tQ(u:Nat)(p0:ar)(p1:ct):Option (ar×Bool):=
 (A9 u p0 (bR.mk 2 0 [] p1)).bind λr1=>some (r1.1,r1.2)
def kW(u:Nat)(p3:Int)(p0:ar):Option (ar×Int):=
 (gF u p0).bind λr7=>some (r7,p3)
def sf(u:Nat)(p0:ar)(p1:ae)(p2:aY)(p3:Int):Option (ar×Int):=
 bif p3 == 1 then (A5 u p1 p2).bind λr1=>bif r1 then (ww u p0 p2.bj p1.aG).bind λr2=>bif r2.2 then some (r2.1,2) else kW u p3 p0 else kW u p3 p0 else bif p3 == 2 then (A8 u p0).bind λr3=>some (r3,3) else bif p3 == 3 then (qh u p0).bind λr4=>(tQ u p0 (ct.mk p1.aN r4 p1.aV)).bind λr5=>bif r5.2 then some (r5.1,4) else kW u p3 p0 else bif p3 == 4 then (A8 u p0).bind λr6=>some (r6,5) else kW u p3 p0
def B8(u:Nat)(p0:aA):Option Int:=
 bif p0.aH == 0 then some 0 else (uV u p0.ay p0.aZ).bind λr1=>some r1
def xi(u:Nat)(x14:Int):Option Int:=
 some x14
def xj(u:Nat)(tA:Int->Int->Int->Int->Option Int)(p0 x12:Int)(x13 x6:Int):Option Int:=
 tA p0 x12 x13 (aS .i64 x6 1)
def sg(u:Nat)(tA:Int->Int->Int->Int->Option Int)(p0 x4:Int)(x5 x6:Int)(x10:Bool):Option Int:=
 bif x10 then (gH u p0 x6).bind λr11=>bif r11 then (de (decide (0<=x6))).bind λ_=>xj u tA p0 (cJ .i64 x4 1) (sC .i64 x5 (iq .i64 1 x6)) x6 else xj u tA p0 x4 x5 x6 else xi u x5
def gO(u gw:Nat)(p0 x4:Int)(x5 x6:Int):Option Int:=match gw with
  | 0=>none
  | gw+1=>bif decide (x6 < 40) then sg u (gO u gw) p0 x4 x5 x6 (decide (x4 > 0)) else sg u (gO u gw) p0 x4 x5 x6 false
def zo(u:Nat)(p0 p1:Int):Option Int:=
 gO u u p0 p1 0 0
def B9(u:Nat)(p0:aA)(p1:Int):Option Int:=
 (B8 u p0).bind λr1=>(zo u r1 p1).bind λr2=>some r2
def Ev(u:Nat)(x11:Int):Option Int:=
 some x11
def qM(u:Nat)(Sr:List Kid->Int->Int->Option Int)(p0:List Kid)(x10 x4:Int):Option Int:=
 Sr p0 x10 (aS .i64 x4 1)
def lJ(u ju:Nat)(p0:List Kid)(x3 x4:Int):Option Int:=match ju with
  | 0=>none
  | ju+1=>bif decide (x4 < (p0.length:Int)) then (ce p0 x4).bind λy7=>(cK u y7.bG).bind λr8=>bif r8 then (ce p0 x4).bind λy9=>qM u (lJ u ju) p0 (sC .i64 x3 y9.bG) x4 else qM u (lJ u ju) p0 x3 x4 else Ev u x3
def Ca(u:Nat)(p0:List Kid):Option Int:=
 lJ u u p0 0 0
def G8(u:Nat)(p0:List Kid)(s:Int):Option Int:=Ev u s
def Ba(u:Nat)(p0:List Kid)(y7:Kid)(i_:Nat)(s:Int)(k_:Int->Option Int):Option Int:=(cK u y7.bG).bind λr8=>bif r8 then (ce p0 (i_:Int)).bind λy9=>qM u (λz0 z1 z2=>k_ z1) p0 (sC .i64 s y9.bG) (i_:Int) else qM u (λz0 z1 z2=>k_ z1) p0 s (i_:Int)
theorem Qr(u:Nat)(p0:List Kid)(s:Int)(k:Nat)(hn:p0.length<=9223372036854775807)(hk:p0.length < k):lJ u k p0 s 0=Pu.bn (G8 u p0) (Ba u p0) p0 0 s:=Pu.bw (λ(k:Nat) (s i:Int)=>lJ u k p0 s i) hn (λ_ _ _=>rfl) s hk
def qN(u:Nat)(p0 p1:Int)(x3:Bool):Option Int:=
 bif x3 then some p0 else (de (decide (0<=p1))).bind λ_=>some (sC .i64 p0 (iq .i64 1 p1))
def jM(u:Nat)(p0 p1:Int):Option Int:=
 (cK u p0).bind λr1=>bif !r1 then qN u p0 p1 true else (bL u p1 0 39).bind λr2=>qN u p0 p1 (!r2)
def xk(u:Nat)(x3:Int):Option Int:=
 some x3
def zp(u:Nat)(p0:aA)(p1:Int):Option Int:=
 (Ca u p0.aW).bind λr1=>bif p0.aH == 5 then (jM u r1 p1).bind λr2=>xk u r2 else xk u r1
def DM(u:Nat)(p0 p1 p2:Int):Option eC:=
 some (eC.mk 2 p0 (ae.mk 0 0 0 []) p1 p2 0 [])
def sP(u:Nat)(r1 x2:Bool)(p0:eC):Option Bool:=
 bif p0.bp == 1 then bif p0.aN == 0 then bif p0.ay.aN != 0 then (kU u p0.ay).bind λr3=>bif r3 then some x2 else some false else some false else some false else bif p0.bp == 2 then (bL u p0.aN 0 1000000).bind λr4=>bif r4 then bif r1 then (cK u p0.bJ).bind λr5=>bif r5 then (cK u p0.bG).bind λr6=>bif r6 then bif p0.fI == 0 then some ((p0.fB.length:Int) == 0) else some false else some false else some false else some false else some false else bif p0.bp == 3 then (bL u p0.aN 1 1000000).bind λr7=>bif r7 then bif r1 then bif p0.bJ == 0 then bif p0.bG == 0 then (bL u p0.fI 0 39).bind λr8=>bif r8 then (bL u (p0.fB.length:Int) 1 6).bind λr9=>some r9 else some false else some false else some false else some false else some false else bif p0.bp == 4 then (bL u p0.aN 0 1000000).bind λr10=>bif r10 then bif r1 then some x2 else some false else some false else some false
def Bb(u:Nat)(p0:eC):Option Bool:=
 (nt u p0.ay (ae.mk 0 0 0 [])).bind λr1=>bif p0.bJ == 0 then bif p0.bG == 0 then bif p0.fI == 0 then sP u r1 ((p0.fB.length:Int) == 0) p0 else sP u r1 false p0 else sP u r1 false p0 else sP u r1 false p0
def zq(u:Nat)(x9:Int)(x10:List Int):Option (List Int):=
 (de (decide ((x10.length+([zm .u8 x9]:List Int).length)*1<=140737488355328))).bind λ_=>some (x10++([zm .u8 x9]:List Int))
def oE(u oj:Nat)(x5:Int)(x6:List Int):Option (List Int):=match oj with
  | 0=>none
  | oj+1=>bif decide (x5 > 127) then (de (decide ((x6.length+([zm .u8 (sC .i64 (gU .i64 x5 127) 128)]:List Int).length)*1<=140737488355328))).bind λ_=>oE u oj (qm .i64 x5 7) (x6++([zm .u8 (sC .i64 (gU .i64 x5 127) 128)]:List Int)) else zq u x5 x6
def eH(u:Nat)(p0:List Int)(p1:Int):Option (List Int):=
 (de (decide ((([]:List Int).length+p0.length)*1<=140737488355328))).bind λ_=>(bL u p1 0 1000000000000).bind λr2=>bif !r2 then some (([]:List Int)++p0) else oE u u p1 (([]:List Int)++p0)
def u2(u:Nat)(x7:List Int)(x8:Int):Option (List Int):=
 (de (decide ((x7.length+([zm .u8 x8]:List Int).length)*1<=140737488355328))).bind λ_=>some (x7++([zm .u8 x8]:List Int))
def kX(u lv:Nat)(x3:List Int)(x4:Int):Option (List Int):=match lv with
  | 0=>none
  | lv+1=>bif decide (x4 > 127) then (de (decide ((x3.length+([zm .u8 (sC .i64 (gU .i64 x4 127) 128)]:List Int).length)*1<=140737488355328))).bind λ_=>kX u lv (x3++([zm .u8 (sC .i64 (gU .i64 x4 127) 128)]:List Int)) (qm .i64 x4 7) else u2 u x3 x4
def wx(u:Nat)(p0:List Int)(p1:Int):Option (List Int):=
 kX u u p0 p1
def Ew(u:Nat)(x14:List Int):Option (List Int):=
 some x14
def qO(u oh:Nat)(x8:List Int)(x9:Int)(p1:ae):Option (List Int):=match oh with
  | 0=>none
  | oh+1=>bif decide (x9 < (p1.aI.length:Int)) then (ce p1.aI x9).bind λy12=>(wx u x8 y12.fS).bind λr13=>qO u oh r13 (aS .i64 x9 1) p1 else Ew u x8
def Cb(u:Nat)(p0:List Int)(p1:ae):Option (List Int):=
 (de (decide ((([]:List Int).length+p0.length)*1<=140737488355328))).bind λ_=>(kU u p1).bind λr2=>bif !r2 then some (([]:List Int)++p0) else (eH u (([]:List Int)++p0) p1.aN).bind λr3=>(eH u r3 p1.aG).bind λr4=>(eH u r4 p1.aV).bind λr5=>qO u u r5 0 p1
def G9(u:Nat)(p1:ae)(s:List Int):Option (List Int):=Ew u s
def Bc(u:Nat)(p1:ae)(y12:bQ)(i_:Nat)(s:List Int)(k_:List Int->Option (List Int)):Option (List Int):=(wx u s y12.fS).bind λr13=>k_ r13
theorem Qs(u:Nat)(p1:ae)(s:List Int)(k:Nat)(hn:p1.aI.length<=9223372036854775807)(hk:p1.aI.length < k):qO u k s 0 p1=Pu.bn (G9 u p1) (Bc u p1) p1.aI 0 s:=Pu.bw (λ(k:Nat) (s:List Int) (i:Int)=>qO u k s i p1) hn (λ_ _ _=>rfl) s hk
def zr(u:Nat)(p0:Int):Option (Int×Int):=
 some (gU .i64 p0 1048575,qm .i64 p0 20)
def DN(u:Nat)(p0 p1:List Int):Option (List Int):=
 (eH u p0 (p1.length:Int)).bind λr1=>(de (decide ((r1.length+p1.length)*1<=140737488355328))).bind λ_=>some (r1++p1)
def oF(u:Nat)(x15:List Int):Option (List Int):=
 (rv u x15).bind λr16=>(eH u x15 r16).bind λr17=>some r17
def Cc(u:Nat)(p0:eC):Option (List Int):=
 (Bb u p0).bind λr1=>bif !r1 then some ([]:List Int) else (eH u ([]:List Int) p0.bp).bind λr2=>bif p0.bp == 1 then (Cb u r2 p0.ay).bind λr3=>oF u r3 else bif p0.bp == 2 then (zr u p0.bJ).bind λr4=>(eH u r2 p0.aN).bind λr5=>(eH u r5 r4.1).bind λr6=>(eH u r6 r4.2).bind λr7=>(zr u p0.bG).bind λr8=>(eH u r7 r8.1).bind λr9=>(eH u r9 r8.2).bind λr10=>oF u r10 else bif p0.bp == 3 then (eH u r2 p0.aN).bind λr11=>(eH u r11 p0.fI).bind λr12=>(DN u r12 p0.fB).bind λr13=>oF u r13 else (eH u r2 p0.aN).bind λr14=>oF u r14
def iS(u:Nat)(p0 p1:Int)(p2:eC):Option ah:=
 (Cc u p2).bind λr1=>some (ah.mk p0 p1 r1)
def zt(u:Nat)(p2:Int)(p1:eG)(p4:ar)(r1:aA)(x5 x6:Int)(r3:List Kid)(r2:ar):Option H5:=
 (sf u p4 r1.ay r1.aZ r1.aH).bind λr7=>(B9 u (aA.mk r1.eh x5 x6 r1.ay r1.aZ r7.2 r3 r1.a7) p1.bi).bind λr8=>(zp u (aA.mk r1.eh x5 x6 r1.ay r1.aZ r7.2 r3 r1.a7) p2).bind λr9=>(DM u r1.ay.aN r8 r9).bind λr10=>(iS u p2 x5 r10).bind λr11=>(de (decide ((([]:List ah).length+[r11].length)*40<=140737488355328))).bind λ_=>some (H5.mk (aA.mk r1.eh x5 x6 r1.ay r1.aZ r7.2 r3 r1.a7) r7.1 (([]:List ah)++[r11]))
def Ha(u:Nat)(p0:bV)(p1:eG)(p2:Int)(p3:aA)(p4:ar):Option H5:=
 (eL u p3).bind λr1=>(gF u p4).bind λr2=>bif !p3.eh then some (H5.mk r1 r2 ([]:List ah)) else (B7 u p3.aW p1.bd).bind λr3=>bif p2 == 0 then some (H5.mk (aA.mk r1.eh r1.bh r1.ba r1.ay r1.aZ r1.aH r3 r1.a7) r2 ([]:List ah)) else bif decide (r1.ba>=p1.a9) then (wu u p0 p2 p3.bh).bind λr4=>zt u p2 p1 p4 r1 r4 0 r3 r2 else zt u p2 p1 p4 r1 r1.bh (aS .i64 r1.ba 1) r3 r2
def zu(u:Nat)  : Option (Int×Int×Bool):=
 some (0,0,false)
def tR(u:Nat)(rr:List Int->Int->Int->Int->Option (Int×Int×Bool))(p0:List Int)(p1 x3:Int)(y8 x4:Int)(x10:Bool):Option (Int×Int×Bool):=
 bif x10 then some (0,0,false) else some (sC .i64 x3 (iq .i64 (gU .i64 (zm .i64 y8) 127) (ip .i64 7 x4)),aS .i64 (aS .i64 p1 x4) 1,true)
def oG(u:Nat)(rr:List Int->Int->Int->Int->Option (Int×Int×Bool))(p0:List Int)(p1 x3 x4:Int)(x7:Bool):Option (Int×Int×Bool):=
 bif x7 then some (0,0,false) else (ce p0 (aS .i64 p1 x4)).bind λy8=>(de (decide (0<=(ip .i64 7 x4)))).bind λ_=>bif decide (zm .i64 y8 < 128) then bif (zm .i64 y8) == 0 then bif decide (x4 > 0) then tR u rr p0 p1 x3 y8 x4 true else tR u rr p0 p1 x3 y8 x4 (decide (sC .i64 x3 (iq .i64 (gU .i64 (zm .i64 y8) 127) (ip .i64 7 x4)) > 1000000000000)) else tR u rr p0 p1 x3 y8 x4 (decide (sC .i64 x3 (iq .i64 (gU .i64 (zm .i64 y8) 127) (ip .i64 7 x4)) > 1000000000000)) else rr p0 p1 (sC .i64 x3 (iq .i64 (gU .i64 (zm .i64 y8) 127) (ip .i64 7 x4))) (aS .i64 x4 1)
def ei(u ic:Nat)(p0:List Int)(p1 x3 x4:Int):Option (Int×Int×Bool):=match ic with
  | 0=>none
  | ic+1=>bif decide (x4 < 6) then bif decide (p1 < 0) then oG u (ei u ic) p0 p1 x3 x4 true else oG u (ei u ic) p0 p1 x3 x4 (decide (p1>=(cJ .i64 (p0.length:Int) x4))) else zu u
def iu(u:Nat)(p0:List Int)(p1:Int):Option (Int×Int×Bool):=
 ei u u p0 p1 0 0
def Qt(u:Nat)(p0:List Int)(p1 s:Int):Option (Int×Int×Bool):=zu u
def Qu(u:Nat)(p0:List Int)(p1:Int)(i_:Nat)(s:Int)(k_:Int->Option (Int×Int×Bool)):Option (Int×Int×Bool):=bif decide (p1 < 0) then oG u (λz0 z1 z2 z3=>k_ z2) p0 p1 s (i_:Int) true else oG u (λz0 z1 z2 z3=>k_ z2) p0 p1 s (i_:Int) (decide (p1>=(cJ .i64 (p0.length:Int) (i_:Int))))
theorem qd8(u:Nat)(p0:List Int)(p1 s:Int)(k:Nat)(hn:(6:Int)<=9223372036854775807)(hk:sY 6 < k):ei u k p0 p1 s 0=Pu.qn (Qt u p0 p1) (Qu u p0 p1) (sY 6) 0 s:=Pu.o3 (λ(k:Nat) (s i:Int)=>ei u k p0 p1 s i) hn (λ_ _ _=>rfl) s hk
def u6(u:Nat)  : Option (Int×Int×Bool):=
 some (0,0,false)
def gX(u lu:Nat)(p0:List Int)(p1 x3 x4:Int):Option (Int×Int×Bool):=match lu with
  | 0=>none
  | lu+1=>bif decide (x4 < 8) then bif decide (p1>=(cJ .i64 (p0.length:Int) x4)) then some (0,0,false) else (ce p0 (aS .i64 p1 x4)).bind λy7=>(de (decide (0<=(ip .i64 7 x4)))).bind λ_=>bif decide (zm .i64 y7 < 128) then bif decide (zm .i64 y7 > 0) then some (sC .i64 x3 (iq .i64 (gU .i64 (zm .i64 y7) 127) (ip .i64 7 x4)),aS .i64 (aS .i64 p1 x4) 1,true) else some (sC .i64 x3 (iq .i64 (gU .i64 (zm .i64 y7) 127) (ip .i64 7 x4)),aS .i64 (aS .i64 p1 x4) 1,x4 == 0) else gX u lu p0 p1 (sC .i64 x3 (iq .i64 (gU .i64 (zm .i64 y7) 127) (ip .i64 7 x4))) (aS .i64 x4 1) else u6 u
def wy(u:Nat)(p0:List Int)(p1:Int):Option (Int×Int×Bool):=
 gX u u p0 p1 0 0
def Me(u:Nat)(p0:List Int)(p1 s:Int):Option (Int×Int×Bool):=u6 u
def Mf(u:Nat)(p0:List Int)(p1:Int)(i_:Nat)(s:Int)(k_:Int->Option (Int×Int×Bool)):Option (Int×Int×Bool):=bif decide (p1>=(cJ .i64 (p0.length:Int) (i_:Int))) then some (0,0,false) else (ce p0 (aS .i64 p1 (i_:Int))).bind λy7=>(de (decide (0<=(ip .i64 7 (i_:Int))))).bind λ_=>bif decide (zm .i64 y7 < 128) then bif decide (zm .i64 y7 > 0) then some (sC .i64 s (iq .i64 (gU .i64 (zm .i64 y7) 127) (ip .i64 7 (i_:Int))),aS .i64 (aS .i64 p1 (i_:Int)) 1,true) else some (sC .i64 s (iq .i64 (gU .i64 (zm .i64 y7) 127) (ip .i64 7 (i_:Int))),aS .i64 (aS .i64 p1 (i_:Int)) 1,(i_:Int) == 0) else k_ (sC .i64 s (iq .i64 (gU .i64 (zm .i64 y7) 127) (ip .i64 7 (i_:Int))))
theorem qcl(u:Nat)(p0:List Int)(p1 s:Int)(k:Nat)(hn:(8:Int)<=9223372036854775807)(hk:sY 8 < k):gX u k p0 p1 s 0=Pu.qn (Me u p0 p1) (Mf u p0 p1) (sY 8) 0 s:=Pu.o3 (λ(k:Nat) (s i:Int)=>gX u k p0 p1 s i) hn (λ_ _ _=>rfl) s hk
def qP(u:Nat)(x19:Int)(r1 r2 r3:Int×Int×Bool)(x20:List bQ):Option (ae×Int×Bool):=
 (kU u (ae.mk r1.1 r2.1 r3.1 x20)).bind λr21=>bif !r21 then some ((ae.mk 0 0 0 []),0,false) else some ((ae.mk r1.1 r2.1 r3.1 x20),x19,true)
def lK(u:Nat)(Ss:List Int->(Int×Int×Bool)->(Int×Int×Bool)->(Int×Int×Bool)->Int->Int->List bQ->Option (ae×Int×Bool))(p0:List Int)(r1 r2 r3:Int×Int×Bool)(x8 x9:Int)(x15:Bool)(x10:List bQ):Option (ae×Int×Bool):=
 bif x15 then (wy u p0 x8).bind λr16=>bif !r16.2.2 then some ((ae.mk 0 0 0 []),0,false) else (rH u r16.1).bind λr17=>(je u r17.1).bind λr18=>(de (decide ((x10.length+([(bQ.mk r18.fW r16.1)]).length)*16<=140737488355328))).bind λ_=>Ss p0 r1 r2 r3 r16.2.1 (aS .i64 x9 1) (x10++([(bQ.mk r18.fW r16.1)])) else qP u x8 r1 r2 r3 x10
def ej(u jv:Nat)(p0:List Int)(r1 r2 r3:Int×Int×Bool)(x8 x9:Int)(x10:List bQ):Option (ae×Int×Bool):=match jv with
  | 0=>none
  | jv+1=>(pM u r2.1 r3.1).bind λr14=>bif decide (x9 < r14) then lK u (ej u jv) p0 r1 r2 r3 x8 x9 (decide (r1.1 > 0)) x10 else lK u (ej u jv) p0 r1 r2 r3 x8 x9 false x10
def tT(u:Nat)(p0:List Int)(r1 r2 r3:Int×Int×Bool)(x4:Bool):Option (ae×Int×Bool):=
 bif x4 then some ((ae.mk 0 0 0 []),0,false) else ej u u p0 r1 r2 r3 r3.2.1 0 []
def Cd(u:Nat)(p0:List Int)(p1:Int):Option (ae×Int×Bool):=
 (iu u p0 p1).bind λr1=>(iu u p0 r1.2.1).bind λr2=>(iu u p0 r2.2.1).bind λr3=>bif !r1.2.2 then tT u p0 r1 r2 r3 true else bif !r2.2.2 then tT u p0 r1 r2 r3 true else tT u p0 r1 r2 r3 (!r3.2.2)
def si(u:Nat)(p0:List Int)(r1:Int×Int×Bool)(x2:Bool):Option ((List Int)×Int×Bool):=
 bif x2 then some (([]:List Int),0,false) else (de (dW r1.2.1 (aS .i64 r1.2.1 r1.1) p0.length)).bind λ_=>(de (decide ((([]:List Int).length+((p0.take (sY (aS .i64 r1.2.1 r1.1))).drop (sY r1.2.1)).length)*1<=140737488355328))).bind λ_=>some (([]:List Int)++((p0.take (sY (aS .i64 r1.2.1 r1.1))).drop (sY r1.2.1)),aS .i64 r1.2.1 r1.1,true)
def zw(u:Nat)(p0:List Int)(p1 p2:Int):Option ((List Int)×Int×Bool):=
 (iu u p0 p1).bind λr1=>bif !r1.2.2 then si u p0 r1 true else bif decide (r1.1 > p2) then si u p0 r1 true else si u p0 r1 (decide (r1.1 > (cJ .i64 (p0.length:Int) r1.2.1)))
def xm(u:Nat)(x20 p2:Int)(r2:Int×Int×Bool)(x21 x22:Int):Option (eC×Int×Bool):=
 some ((eC.mk p2 r2.1 (ae.mk 0 0 0 []) x21 x22 0 []),x20,true)
def xn(u:Nat)(x14:Int)(x15:List Int)(p2:Int)(r2:Int×Int×Bool):Option (eC×Int×Bool):=
 (ce x15 0).bind λy16=>(ce x15 1).bind λy17=>(ce x15 2).bind λy18=>(ce x15 3).bind λy19=>xm u x14 p2 r2 (aS .i64 y16 (iq .i64 y17 20)) (aS .i64 y18 (iq .i64 y19 20))
def pi(u:Nat)(P2:List Int->Int->List Int->Int->Int->(Int×Int×Bool)->Option (eC×Int×Bool))(p0:List Int)(x6:Int)(x7:List Int)(x8:Int)(r12:Int×Int×Bool)(x13:Bool)(p2:Int)(r2:Int×Int×Bool):Option (eC×Int×Bool):=
 bif x13 then some ((eC.mk p2 r2.1 (ae.mk 0 0 0 []) 0 0 0 []),0,false) else (de (decide ((x7.length+([r12.1]:List Int).length)*8<=140737488355328))).bind λ_=>P2 p0 r12.2.1 (x7++([r12.1]:List Int)) (aS .i64 x8 1) p2 r2
def dq(u iI:Nat)(p0:List Int)(x6:Int)(x7:List Int)(x8 p2:Int)(r2:Int×Int×Bool):Option (eC×Int×Bool):=match iI with
  | 0=>none
  | iI+1=>bif decide (x8 < 4) then (iu u p0 x6).bind λr12=>bif !r12.2.2 then pi u (dq u iI) p0 x6 x7 x8 r12 true p2 r2 else pi u (dq u iI) p0 x6 x7 x8 r12 (decide (r12.1>=1048576)) p2 r2 else xn u x6 x7 p2 r2
def gY(u:Nat)(p0:List Int)(p1 p2:Int):Option (eC×Int×Bool):=
 bif p2 == 1 then (Cd u p0 p1).bind λr1=>some ((eC.mk p2 0 r1.1 0 0 0 []),r1.2.1,r1.2.2) else (iu u p0 p1).bind λr2=>bif !r2.2.2 then some ((eC.mk p2 r2.1 (ae.mk 0 0 0 []) 0 0 0 []),0,false) else bif p2 == 2 then dq u u p0 r2.2.1 ([]:List Int) 0 p2 r2 else bif p2 == 3 then (iu u p0 r2.2.1).bind λr13=>(zw u p0 r13.2.1 6).bind λr14=>bif r13.2.2 then some ((eC.mk p2 r2.1 (ae.mk 0 0 0 []) 0 0 r13.1 r14.1),r14.2.1,r14.2.2) else some ((eC.mk p2 r2.1 (ae.mk 0 0 0 []) 0 0 r13.1 r14.1),r14.2.1,false) else xm u r2.2.1 p2 r2 0 0
def ND(u:Nat)(p0:List Int)(p2:Int)(r2:Int×Int×Bool)(s:Int×(List Int)):Option (eC×Int×Bool):=xn u s.1 s.2 p2 r2
def NE(u:Nat)(p0:List Int)(p2:Int)(r2:Int×Int×Bool)(i_:Nat)(s:Int×(List Int))(k_:(Int×(List Int))->Option (eC×Int×Bool)):Option (eC×Int×Bool):=(iu u p0 s.1).bind λr12=>bif !r12.2.2 then pi u (λz0 z1 z2 z3 z4 z5=>k_ (z1,z2)) p0 s.1 s.2 (i_:Int) r12 true p2 r2 else pi u (λz0 z1 z2 z3 z4 z5=>k_ (z1,z2)) p0 s.1 s.2 (i_:Int) r12 (decide (r12.1>=1048576)) p2 r2
theorem qdD(u:Nat)(p0:List Int)(p2:Int)(r2:Int×Int×Bool)(s:Int×(List Int))(k:Nat)(hn:(4:Int)<=9223372036854775807)(hk:sY 4 < k):dq u k p0 s.1 s.2 0 p2 r2=Pu.qn (ND u p0 p2 r2) (NE u p0 p2 r2) (sY 4) 0 s:=Pu.o3 (λ(k:Nat) (s:Int×(List Int)) (i:Int)=>dq u k p0 s.1 s.2 i p2 r2) hn (λ_ _ _=>rfl) s hk
def tU(u:Nat)(x9:Bool)(r3:eC×Int×Bool):Option (eC×Bool):=
 bif x9 then some ((eC.mk 0 0 (ae.mk 0 0 0 []) 0 0 0 []),false) else some (r3.1,true)
def zx(u:Nat)(p0:List Int)(r3:eC×Int×Bool)(x5:Bool):Option (eC×Bool):=
 bif x5 then some ((eC.mk 0 0 (ae.mk 0 0 0 []) 0 0 0 []),false) else (iu u p0 r3.2.1).bind λr6=>bif !r6.2.2 then tU u true r3 else bif r6.2.1 != (p0.length:Int) then tU u true r3 else (de (dW 0 r3.2.1 p0.length)).bind λ_=>(rv u ((p0.take (sY r3.2.1)).drop (sY 0))).bind λr8=>tU u (r6.1 != r8) r3
def zy(u:Nat)(p0:List Int)(r1:Int×Int×Bool)(x2:Bool):Option (eC×Bool):=
 bif x2 then some ((eC.mk 0 0 (ae.mk 0 0 0 []) 0 0 0 []),false) else (gY u p0 r1.2.1 r1.1).bind λr3=>bif !r3.2.2 then zx u p0 r3 true else (Bb u r3.1).bind λr4=>zx u p0 r3 (!r4)
def tW(u:Nat)(p0:List Int):Option (eC×Bool):=
 (iu u p0 0).bind λr1=>bif !r1.2.2 then zy u p0 r1 true else zy u p0 r1 (decide ((p0.length:Int) > 400))
def pj(u:Nat)(tE:List ah->Int->World->List ah->List br->Int->Option World)(p1:List ah)(x5:Int)(p0:World)(x23:List ah)(x24:List br)(x25:Int):Option World:=
 tE p1 (aS .i64 x5 1) p0 x23 x24 x25
def kA(u:Nat)(tE:List ah->Int->World->List ah->List br->Int->Option World)(p1:List ah)(x5:Int)(x20:Bool)(p0:World)(x6:List ah)(y13 y14 y15:ah)(x7:List br)(x8:Int)(r19:eC×Bool):Option World:=
 bif x20 then (ce p1 x5).bind λy21=>(ce p1 x5).bind λy22=>(de (decide ((x7.length+([(br.mk y21.cM y22.w9 r19.1.fI)]).length)*24<=140737488355328))).bind λ_=>pj u tE p1 x5 p0 (x6++([(ah.mk y13.cM y14.w9 (([]:List Int)++y15.fB))])) (x7++([(br.mk y21.cM y22.w9 r19.1.fI)])) x8 else pj u tE p1 x5 p0 (x6++([(ah.mk y13.cM y14.w9 (([]:List Int)++y15.fB))])) x7 x8
def dV(u eB:Nat)(p1:List ah)(x5:Int)(p0:World)(x6:List ah)(x7:List br)(x8:Int):Option World:=match eB with
  | 0=>none
  | eB+1=>bif decide (x5 < (p1.length:Int)) then bif decide ((x6.length:Int)>=400) then pj u (dV u eB) p1 x5 p0 x6 x7 (aS .i64 x8 1) else (ce p1 x5).bind λy13=>(ce p1 x5).bind λy14=>(ce p1 x5).bind λy15=>(de (decide ((([]:List Int).length+y15.fB.length)*1<=140737488355328))).bind λ_=>(de (decide ((x6.length+([(ah.mk y13.cM y14.w9 (([]:List Int)++y15.fB))]).length)*40<=140737488355328))).bind λ_=>(ce p1 x5).bind λy18=>(tW u y18.fB).bind λr19=>bif r19.2 then bif r19.1.bp == 3 then kA u (dV u eB) p1 x5 (decide ((x7.length:Int) < 3000)) p0 x6 y13 y14 y15 x7 x8 r19 else kA u (dV u eB) p1 x5 false p0 x6 y13 y14 y15 x7 x8 r19 else kA u (dV u eB) p1 x5 false p0 x6 y13 y14 y15 x7 x8 r19 else some (World.mk p0.fC p0.fT p0.cF p0.cu p0.fN p0.fD x6 x7 x8)
def zA(u:Nat)(p0:World)(p1:List ah):Option World:=
 dV u u p1 0 p0 p0.bM p0.dv p0.ch
def NF(u:Nat)(p1:List ah)(p0:World)(s:(List ah)×(List br)×Int):Option World:=some (World.mk p0.fC p0.fT p0.cF p0.cu p0.fN p0.fD s.1 s.2.1 s.2.2)
def NG(u:Nat)(p1:List ah)(p0:World)(i_:Nat)(s:(List ah)×(List br)×Int)(k_:((List ah)×(List br)×Int)->Option World):Option World:=bif decide ((s.1.length:Int)>=400) then pj u (λz0 z1 z2 z3 z4 z5=>k_ (z3,z4,z5)) p1 (i_:Int) p0 s.1 s.2.1 (aS .i64 s.2.2 1) else (ce p1 (i_:Int)).bind λy13=>(ce p1 (i_:Int)).bind λy14=>(ce p1 (i_:Int)).bind λy15=>(de (decide ((([]:List Int).length+y15.fB.length)*1<=140737488355328))).bind λ_=>(de (decide ((s.1.length+([(ah.mk y13.cM y14.w9 (([]:List Int)++y15.fB))]).length)*40<=140737488355328))).bind λ_=>(ce p1 (i_:Int)).bind λy18=>(tW u y18.fB).bind λr19=>bif r19.2 then bif r19.1.bp == 3 then kA u (λz0 z1 z2 z3 z4 z5=>k_ (z3,z4,z5)) p1 (i_:Int) (decide ((s.2.1.length:Int) < 3000)) p0 s.1 y13 y14 y15 s.2.1 s.2.2 r19 else kA u (λz0 z1 z2 z3 z4 z5=>k_ (z3,z4,z5)) p1 (i_:Int) false p0 s.1 y13 y14 y15 s.2.1 s.2.2 r19 else kA u (λz0 z1 z2 z3 z4 z5=>k_ (z3,z4,z5)) p1 (i_:Int) false p0 s.1 y13 y14 y15 s.2.1 s.2.2 r19
theorem qdE(u:Nat)(p1:List ah)(p0:World)(s:(List ah)×(List br)×Int)(k:Nat)(hn:((p1.length:Int):Int)<=9223372036854775807)(hk:sY (p1.length:Int) < k):dV u k p1 0 p0 s.1 s.2.1 s.2.2=Pu.qn (NF u p1 p0) (NG u p1 p0) (sY (p1.length:Int)) 0 s:=Pu.o3 (λ(k:Nat) (s:(List ah)×(List br)×Int) (i:Int)=>dV u k p1 i p0 s.1 s.2.1 s.2.2) hn (λ_ _ _=>rfl) s hk
def u7(u:Nat)(p0:World)(p1:Int):Option World:=
 (ce p0.fN p1).bind λy1=>(ce p0.fD p1).bind λy2=>(Ha u p0.fT p0.fC p1 y1 y2).bind λr3=>(ce p0.fN p1).bind λy4=>(ce p0.fD p1).bind λy5=>(zA u (World.mk p0.fC p0.fT p0.cF p0.cu (p0.fN.set (sY p1) r3.fN) (p0.fD.set (sY p1) r3.fD) p0.bM p0.dv p0.ch) r3.nr).bind λr6=>some r6
def nu(u:Nat)(p0:aA):Option aA:=
 (eL u p0).bind λr1=>some (aA.mk r1.eh r1.bh r1.ba r1.ay r1.aZ r1.aH r1.aW (aS .i64 r1.a7 1))
def Gq(u:Nat)  : Option Int:=
 some (-1)
def sQ(u pF:Nat)(p0:List Kid)(p1 x2:Int):Option Int:=match pF with
  | 0=>none
  | pF+1=>bif decide (x2 < (p0.length:Int)) then (ce p0 x2).bind λy4=>bif y4.gj == p1 then some x2 else sQ u pF p0 p1 (aS .i64 x2 1) else Gq u
def xY(u:Nat)(p0:List Kid)(p1:Int):Option Int:=
 sQ u u p0 p1 0
def S0(u:Nat)(p0:List Kid)(p1:Int)(s:Unit):Option Int:=Gq u
def S1(u:Nat)(p0:List Kid)(p1:Int)(y4:Kid)(i_:Nat)(s:Unit)(k_:Unit->Option Int):Option Int:=bif y4.gj == p1 then some (i_:Int) else k_ ()
theorem S2(u:Nat)(p0:List Kid)(p1:Int)(s:Unit)(k:Nat)(hn:p0.length<=9223372036854775807)(hk:p0.length < k):sQ u k p0 p1 0=Pu.bn (S0 u p0 p1) (S1 u p0 p1) p0 0 s:=Pu.bw (λ(k:Nat) (s:Unit) (i:Int)=>sQ u k p0 p1 i) hn (λ_ _ _=>rfl) s hk
def DO(u:Nat)(p1 p2 p3:Int)(p0:List Kid)(x12:Int):Option (List Kid):=
 (de (dW 0 x12 (([]:List Kid)++p0).length)).bind λ_=>(de (decide ((([]:List Kid).length+(((([]:List Kid)++p0).take (sY x12)).drop (sY 0)).length)*40<=140737488355328))).bind λ_=>(de (decide (((([]:List Kid)++(((([]:List Kid)++p0).take (sY x12)).drop (sY 0))).length+([(Kid.mk p1 p2 p3 0 0)]).length)*40<=140737488355328))).bind λ_=>(de (dW x12 ((([]:List Kid)++p0).length:Int) (([]:List Kid)++p0).length)).bind λ_=>(de (decide ((((([]:List Kid)++(((([]:List Kid)++p0).take (sY x12)).drop (sY 0)))++([(Kid.mk p1 p2 p3 0 0)])).length+(((([]:List Kid)++p0).take (sY ((([]:List Kid)++p0).length:Int))).drop (sY x12)).length)*40<=140737488355328))).bind λ_=>some (((([]:List Kid)++(((([]:List Kid)++p0).take (sY x12)).drop (sY 0)))++([(Kid.mk p1 p2 p3 0 0)]))++(((([]:List Kid)++p0).take (sY ((([]:List Kid)++p0).length:Int))).drop (sY x12)))
def zB(u:Nat)(Yi:Int->Int->Int->List Kid->Int->Option (List Kid))(p1 p2 p3:Int)(p0:List Kid)(x8:Int)(x11:Bool):Option (List Kid):=
 bif x11 then Yi p1 p2 p3 p0 (aS .i64 x8 1) else DO u p1 p2 p3 p0 x8
def nv(u ma:Nat)(p1 p2 p3:Int)(p0:List Kid)(x8:Int):Option (List Kid):=match ma with
  | 0=>none
  | ma+1=>bif decide (x8 < ((([]:List Kid)++p0).length:Int)) then (ce (([]:List Kid)++p0) x8).bind λy10=>zB u (nv u ma) p1 p2 p3 p0 x8 (decide (y10.gj<=p1)) else zB u (nv u ma) p1 p2 p3 p0 x8 false
def zC(u:Nat)(p0:List Kid)(p1 p2 p3:Int)(x5:Bool):Option (List Kid):=
 bif x5 then some (([]:List Kid)++p0) else (xY u p0 p1).bind λr6=>bif decide (r6 < 0) then nv u u p1 p2 p3 p0 0 else (ce (([]:List Kid)++p0) r6).bind λy11=>(ce (([]:List Kid)++p0) r6).bind λy12=>some ((([]:List Kid)++p0).set (sY r6) (Kid.mk y11.gj p2 (sC .i64 y11.bG p3) 0 y11.ef))
def Hb(u:Nat)(p0:List Kid)(p1 p2 p3:Int):Option (List Kid):=
 (de (decide ((([]:List Kid).length+p0.length)*40<=140737488355328))).bind λ_=>(bL u p1 0 6).bind λr2=>bif !r2 then zC u p0 p1 p2 p3 true else (cK u p2).bind λr3=>bif !r3 then zC u p0 p1 p2 p3 true else (cK u p3).bind λr4=>zC u p0 p1 p2 p3 (!r4)
def yG(u:Nat)(p0:aA):Option Int:=
 some p0.aZ.aT
def qQ(u:Nat)(p0:List Kid)(p2 r1:Int)(x7:Bool):Option Int:=
 bif x7 then some 0 else (ce p0 r1).bind λy8=>(ce p0 r1).bind λy9=>some (DV .i64 (gU .i64 y8.bJ p2) y9.ef)
def yH(u:Nat)(p0:List Kid)(p1 p2:Int):Option Int:=
 (xY u p0 p1).bind λr1=>bif decide (r1 < 0) then qQ u p0 p2 r1 true else (cK u p2).bind λr2=>bif !r2 then qQ u p0 p2 r1 true else (ce p0 r1).bind λy3=>(cK u y3.bJ).bind λr4=>bif !r4 then qQ u p0 p2 r1 true else (ce p0 r1).bind λy5=>(cK u y5.ef).bind λr6=>qQ u p0 p2 r1 (!r6)
def xo(u:Nat)(x9:List Int):Option (List Int):=
 some x9
def mU(u:Nat)(PZ:Int->List Int->Int->Option (List Int))(p0:Int)(x8:List Int)(x4:Int):Option (List Int):=
 PZ p0 x8 (aS .i64 x4 1)
def kB(u iG:Nat)(p0:Int)(x3:List Int)(x4:Int):Option (List Int):=match iG with
  | 0=>none
  | iG+1=>bif decide (x4 < 40) then (gH u p0 x4).bind λr7=>bif r7 then (de (decide ((x3.length+([x4]:List Int).length)*8<=140737488355328))).bind λ_=>mU u (kB u iG) p0 (x3++([x4]:List Int)) x4 else mU u (kB u iG) p0 x3 x4 else xo u x3
def zD(u:Nat)(p0:Int):Option (List Int):=
 kB u u p0 ([]:List Int) 0
def FG(u:Nat)(p0:Int)(s:List Int):Option (List Int):=xo u s
def FH(u:Nat)(p0:Int)(i_:Nat)(s:List Int)(k_:List Int->Option (List Int)):Option (List Int):=(gH u p0 (i_:Int)).bind λr7=>bif r7 then (de (decide ((s.length+([(i_:Int)]:List Int).length)*8<=140737488355328))).bind λ_=>mU u (λz0 z1 z2=>k_ z1) p0 (s++([(i_:Int)]:List Int)) (i_:Int) else mU u (λz0 z1 z2=>k_ z1) p0 s (i_:Int)
theorem NH(u:Nat)(p0:Int)(s:List Int)(k:Nat)(hn:(40:Int)<=9223372036854775807)(hk:sY 40 < k):kB u k p0 s 0=Pu.qn (FG u p0) (FH u p0) (sY 40) 0 s:=Pu.o3 (λ(k:Nat) (s:List Int) (i:Int)=>kB u k p0 s i) hn (λ_ _ _=>rfl) s hk
def xp(u:Nat)(p2:Int)(x3:Bool)(p0:ae)(p1:aY):Option ((List Int)×Bool):=
 bif x3 then some (([]:List Int),false) else (gG u p0.aG p0.aV p2).bind λr4=>(de (dW r4.1 (aS .i64 r4.1 r4.2) p1.bj.length)).bind λ_=>(de (decide ((([]:List Int).length+((p1.bj.take (sY (aS .i64 r4.1 r4.2))).drop (sY r4.1)).length)*1<=140737488355328))).bind λ_=>some (([]:List Int)++((p1.bj.take (sY (aS .i64 r4.1 r4.2))).drop (sY r4.1)),true)
def rI(u:Nat)(p0:ae)(p1:aY)(p2:Int):Option ((List Int)×Bool):=
 (pN u p0 p1).bind λr1=>bif !r1 then xp u p2 true p0 p1 else (gH u p1.aT p2).bind λr2=>xp u p2 (!r2) p0 p1
def rJ(u:Nat)(p0 p1:Int)(p2:List Int):Option eC:=
 (de (decide ((([]:List Int).length+p2.length)*1<=140737488355328))).bind λ_=>some (eC.mk 3 p0 (ae.mk 0 0 0 []) 0 0 p1 (([]:List Int)++p2))
def qR(u:Nat)(p2:Int)(p0:List Kid)(r2:Int)(x6:Bool):Option (List Kid):=
 bif x6 then some (([]:List Kid)++p0) else (ce (([]:List Kid)++p0) r2).bind λy7=>(ce (([]:List Kid)++p0) r2).bind λy8=>some ((([]:List Kid)++p0).set (sY r2) (Kid.mk y7.gj y7.bJ y7.bG y7.mg (sC .i64 y7.ef p2)))
def sR(u:Nat)(p0:List Kid)(p1 p2:Int):Option (List Kid):=
 (de (decide ((([]:List Kid).length+p0.length)*40<=140737488355328))).bind λ_=>(xY u p0 p1).bind λr2=>bif decide (r2 < 0) then qR u p2 p0 r2 true else (cK u p2).bind λr3=>bif !r3 then qR u p2 p0 r2 true else (ce p0 r2).bind λy4=>(cK u y4.ef).bind λr5=>qR u p2 p0 r2 (!r5)
def tj(u:Nat)(p2 r3:Int)(p0 r1:aA)(x17:List ah):Option Act:=
 (sR u p0.aW p2 r3).bind λr18=>some (Act.mk (aA.mk r1.eh r1.bh r1.ba r1.ay r1.aZ r1.aH r18 r1.a7) x17)
def mj(u:Nat)(LB:Int->Int->Int->List Int->Int->aA->aA->List ah->Option Act)(p1 p2 r3:Int)(r4:List Int)(x7:Int)(p0 r1:aA)(x16:List ah):Option Act:=
 LB p1 p2 r3 r4 (aS .i64 x7 1) p0 r1 x16
def iv(u f8:Nat)(p1 p2 r3:Int)(r4:List Int)(x7:Int)(p0 r1:aA)(x8:List ah):Option Act:=match f8 with
  | 0=>none
  | f8+1=>bif decide (x7 < (r4.length:Int)) then (ce r4 x7).bind λy11=>(rI u p0.ay p0.aZ y11).bind λr12=>bif r12.2 then (ce r4 x7).bind λy13=>(rJ u p0.ay.aN y13 r12.1).bind λr14=>(iS u p1 p2 r14).bind λr15=>(de (decide ((x8.length+[r15].length)*40<=140737488355328))).bind λ_=>mj u (iv u f8) p1 p2 r3 r4 x7 p0 r1 (x8++[r15]) else mj u (iv u f8) p1 p2 r3 r4 x7 p0 r1 x8 else tj u p2 r3 p0 r1 x8
def tX(u:Nat)(p0:aA)(p1 p2:Int):Option Act:=
 (eL u p0).bind λr1=>(yG u p0).bind λr2=>(yH u p0.aW p2 r2).bind λr3=>(zD u r3).bind λr4=>iv u u p1 p2 r3 r4 0 p0 r1 ([]:List ah)
def Ds(u:Nat)(p1 p2 r3:Int)(r4:List Int)(p0 r1:aA)(s:List ah):Option Act:=tj u p2 r3 p0 r1 s
def Dt(u:Nat)(p1 p2 r3:Int)(r4:List Int)(p0 r1:aA)(y11:Int)(i_:Nat)(s:List ah)(k_:List ah->Option Act):Option Act:=(rI u p0.ay p0.aZ y11).bind λr12=>bif r12.2 then (ce r4 (i_:Int)).bind λy13=>(rJ u p0.ay.aN y13 r12.1).bind λr14=>(iS u p1 p2 r14).bind λr15=>(de (decide ((s.length+[r15].length)*40<=140737488355328))).bind λ_=>mj u (λz0 z1 z2 z3 z4 z5 z6 z7=>k_ z7) p1 p2 r3 r4 (i_:Int) p0 r1 (s++[r15]) else mj u (λz0 z1 z2 z3 z4 z5 z6 z7=>k_ z7) p1 p2 r3 r4 (i_:Int) p0 r1 s
theorem K9(u:Nat)(p1 p2 r3:Int)(r4:List Int)(p0 r1:aA)(s:List ah)(k:Nat)(hn:r4.length<=9223372036854775807)(hk:r4.length < k):iv u k p1 p2 r3 r4 0 p0 r1 s=Pu.bn (Ds u p1 p2 r3 r4 p0 r1) (Dt u p1 p2 r3 r4 p0 r1) r4 0 s:=Pu.bw (λ(k:Nat) (s:List ah) (i:Int)=>iv u k p1 p2 r3 r4 i p0 r1 s) hn (λ_ _ _=>rfl) s hk
def rK(u:Nat)(r1:aA)(r2:List Kid)(x10:List ah):Option Act:=
 some (Act.mk (aA.mk r1.eh r1.bh r1.ba r1.ay r1.aZ r1.aH r2 r1.a7) x10)
def rL(u:Nat)(r1:aA)(r2:List Kid)(r7:Act)(x9:List ah):Option Act:=
 some (Act.mk r7.fN x9)
def sj(u:Nat)(p0:aA)(p1 p2:Int)(p3:eC):Option Act:=
 (eL u p0).bind λr1=>bif p2 == p1 then some (Act.mk r1 ([]:List ah)) else (Hb u p0.aW p2 p3.bJ p3.bG).bind λr2=>bif p0.aH == 0 then (iS u p1 p2 (eC.mk 4 0 (ae.mk 0 0 0 []) 0 0 0 [])).bind λr3=>(de (decide ((([]:List ah).length+[r3].length)*40<=140737488355328))).bind λ_=>rK u r1 r2 (([]:List ah)++[r3]) else bif p3.aN != p0.ay.aN then (iS u p1 p2 (eC.mk 1 0 p0.ay 0 0 0 [])).bind λr5=>(de (decide ((([]:List ah).length+[r5].length)*40<=140737488355328))).bind λ_=>rK u r1 r2 (([]:List ah)++[r5]) else (tX u (aA.mk r1.eh r1.bh r1.ba r1.ay r1.aZ r1.aH r2 r1.a7) p1 p2).bind λr7=>bif (r7.nr.length:Int) == 0 then (iS u p1 p2 (eC.mk 4 p0.ay.aN (ae.mk 0 0 0 []) 0 0 0 [])).bind λr8=>(de (decide ((r7.nr.length+[r8].length)*40<=140737488355328))).bind λ_=>rL u r1 r2 r7 (r7.nr++[r8]) else rL u r1 r2 r7 r7.nr
def wz(u:Nat)(p0:ae):Option aY:=
 (kU u p0).bind λr1=>bif !r1 then some (aY.mk 0 []) else (de (decide (0<=p0.aV) && (p0.aV == 0 || p0.aV == p0.aV))).bind λ_=>(de (decide (sY p0.aV*1<=140737488355328))).bind λ_=>some (aY.mk 0 (zQV (sY p0.aV) (0:Int)))
def DZ(u:Nat)(p0:Int):Option Bool:=
 (bL u p0 0 63000).bind λr1=>some r1
def sm(u:Nat)(p0:Int):Option (Int×Int):=
 (DZ u p0).bind λr1=>bif !r1 then some (0,0) else some (ut .i64 p0 251,qcO .i64 p0 251)
def Bd(u:Nat)(p0 p1:Int):Option Int:=
 (bL u p1 1 1000000000000).bind λr1=>bif !r1 then some 0 else (de (!(p1 == 0))).bind λ_=>(de (!(p1 == 0))).bind λ_=>some (ut .i64 (aS .i64 (ut .i64 p0 p1) p1) p1)
def u9(u:Nat)(p0 p1:Int)(p2 p3:Int)(x5:Bool):Option Int:=
 bif x5 then some p0 else (sm u p0).bind λr6=>(Bd u (cJ .i64 r6.2 (ip .i64 (ut .i64 p1 251) p2)) 251).bind λr7=>(Bd u (aS .i64 (cJ .i64 r6.1 p2) p3) 251).bind λr8=>(Bd u (aS .i64 r7 r8) 251).bind λr9=>some (aS .i64 r8 (ip .i64 251 r9))
def D0(u:Nat)(p0 p1:Int)(p2 p3:Int):Option Int:=
 (DZ u p0).bind λr1=>bif !r1 then u9 u p0 p1 p2 p3 true else (bL u p1 1 1000000000000).bind λr2=>bif !r2 then u9 u p0 p1 p2 p3 true else (bL u p2 0 255).bind λr3=>bif !r3 then u9 u p0 p1 p2 p3 true else (bL u p3 0 255).bind λr4=>u9 u p0 p1 p2 p3 (!r4)
def xq(u:Nat)(x17:List Int):Option (List Int):=
 some x17
def i7(u mO:Nat)(p0:List Int)(p1:Int)(x8:List Int)(x9 x10:Int):Option (List Int):=match mO with
  | 0=>none
  | mO+1=>bif decide (x10 < (p0.length:Int)) then (ce p0 (cJ .i64 x10 p1)).bind λy14=>(ce p0 x10).bind λy15=>(D0 u x9 p1 (zm .i64 y14) (zm .i64 y15)).bind λr16=>(de (decide ((x8.length+([r16]:List Int).length)*8<=140737488355328))).bind λ_=>i7 u mO p0 p1 (x8++([r16]:List Int)) r16 (aS .i64 x10 1) else xq u x8
def xr(u:Nat)(p0:List Int)(p1:Int)(x1:Bool):Option (List Int):=
 bif x1 then some ([]:List Int) else (de (dW 0 p1 p0.length)).bind λ_=>(rv u ((p0.take (sY p1)).drop (sY 0))).bind λr3=>(de (decide ((([]:List Int).length+([r3]:List Int).length)*8<=140737488355328))).bind λ_=>i7 u u p0 p1 (([]:List Int)++([r3]:List Int)) r3 p1
def zE(u:Nat)(p0:List Int)(p1:Int):Option (List Int):=
 bif decide (p1 < 1) then xr u p0 p1 true else xr u p0 p1 (decide (p1 > (p0.length:Int)))
def NI(u:Nat)(p0:List Int)(p1:Int)(s:(List Int)×Int):Option (List Int):=xq u s.1
def NJ(u:Nat)(p0:List Int)(p1:Int)(i_:Nat)(s:(List Int)×Int)(k_:((List Int)×Int)->Option (List Int)):Option (List Int):=(ce p0 (cJ .i64 (i_:Int) p1)).bind λy14=>(ce p0 (i_:Int)).bind λy15=>(D0 u s.2 p1 (zm .i64 y14) (zm .i64 y15)).bind λr16=>(de (decide ((s.1.length+([r16]:List Int).length)*8<=140737488355328))).bind λ_=>k_ (s.1++([r16]:List Int),r16)
theorem qdF(u:Nat)(p0:List Int)(p1:Int)(s:(List Int)×Int)(k:Nat)(hn:((p0.length:Int):Int)<=9223372036854775807)(hk:sY (p0.length:Int) < k):i7 u k p0 p1 s.1 s.2 0=Pu.qn (NI u p0 p1) (NJ u p0 p1) (sY (p0.length:Int)) 0 s:=Pu.o3 (λ(k:Nat) (s:(List Int)×Int) (i:Int)=>i7 u k p0 p1 s.1 s.2 i) hn (λ_ _ _=>rfl) s hk
def xt(u:Nat)  : Option Int:=
 some (-1)
def pk(u:Nat)(PY:List Int->Int->List Int->Int->bQ->Option Int)(p0:List Int)(p2:Int)(r2:List Int)(x4:Int)(x9:Bool)(p1:bQ):Option Int:=
 bif x9 then some x4 else PY p0 p2 r2 (aS .i64 x4 1) p1
def fy(u iF:Nat)(p0:List Int)(p2:Int)(r2:List Int)(x4:Int)(p1:bQ):Option Int:=match iF with
  | 0=>none
  | iF+1=>bif decide (x4 < (r2.length:Int)) then (ce r2 x4).bind λy6=>bif y6 == p1.fW then (de (dW x4 (aS .i64 x4 p2) p0.length)).bind λ_=>(je u ((p0.take (sY (aS .i64 x4 p2))).drop (sY x4))).bind λr8=>pk u (fy u iF) p0 p2 r2 x4 ([r8.fW,r8.fS] == [p1.fW,p1.fS]) p1 else pk u (fy u iF) p0 p2 r2 x4 false p1 else xt u
def zF(u:Nat)(p0:List Int)(p1:bQ)(p2:Int):Option Int:=
 (bL u p2 1 6).bind λr1=>bif !r1 then some (-1) else (zE u p0 p2).bind λr2=>fy u u p0 p2 r2 0 p1
def NK(u:Nat)(p0:List Int)(p2:Int)(r2:List Int)(p1:bQ)(s:Unit):Option Int:=xt u
def NL(u:Nat)(p0:List Int)(p2:Int)(r2:List Int)(p1:bQ)(y6:Int)(i_:Nat)(s:Unit)(k_:Unit->Option Int):Option Int:=bif y6 == p1.fW then (de (dW (i_:Int) (aS .i64 (i_:Int) p2) p0.length)).bind λ_=>(je u ((p0.take (sY (aS .i64 (i_:Int) p2))).drop (sY (i_:Int)))).bind λr8=>pk u (λz0 z1 z2 z3 z4=>k_ ()) p0 p2 r2 (i_:Int) ([r8.fW,r8.fS] == [p1.fW,p1.fS]) p1 else pk u (λz0 z1 z2 z3 z4=>k_ ()) p0 p2 r2 (i_:Int) false p1
theorem qdG(u:Nat)(p0:List Int)(p2:Int)(r2:List Int)(p1:bQ)(s:Unit)(k:Nat)(hn:r2.length<=9223372036854775807)(hk:r2.length < k):fy u k p0 p2 r2 0 p1=Pu.bn (NK u p0 p2 r2 p1) (NL u p0 p2 r2 p1) r2 0 s:=Pu.bw (λ(k:Nat) (s:Unit) (i:Int)=>fy u k p0 p2 r2 i p1) hn (λ_ _ _=>rfl) s hk
def xu(u:Nat)(p0:List Int)(p2:Int)(r1:Int×Int)(x2:Bool)(p1:ae):Option Int:=
 bif x2 then some (-1) else (ce p1.aI p2).bind λy3=>(zF u p0 y3 r1.2).bind λr4=>some r4
def vd(u:Nat)(p0:List Int)(p1:ae)(p2:Int):Option Int:=
 (gG u p1.aG p1.aV p2).bind λr1=>bif r1.2 == 0 then xu u p0 p2 r1 true p1 else xu u p0 p2 r1 (decide (p2>=(p1.aI.length:Int))) p1
def BG(u:Nat)(p2:Int)(p1:aY)(x15:List Int):Option (Bool×aY):=
 (jM u p1.aT p2).bind λr16=>some (true,(aY.mk r16 x15))
def sS(u pH:Nat)(p2:Int)(p3:List Int)(r6:Int×Int)(x9:Int)(p1:aY)(x10:List Int):Option (Bool×aY):=match pH with
  | 0=>none
  | pH+1=>bif decide (x9 < (p3.length:Int)) then (ce p3 x9).bind λy13=>(ce x10 (aS .i64 r6.1 x9)).bind λy14=>sS u pH p2 p3 r6 (aS .i64 x9 1) p1 (x10.set (sY (aS .i64 r6.1 x9)) y13) else BG u p2 p1 x10
def sU(u:Nat)(p2:Int)(p3:List Int)(x5:Bool)(p0:ae)(p1:aY):Option (Bool×aY):=
 bif x5 then some (false,p1) else (gG u p0.aG p0.aV p2).bind λr6=>sS u u p2 p3 r6 0 p1 p1.bj
def xZ(u:Nat)(p0:ae)(p1:aY)(p2:Int)(p3:List Int):Option (Bool×aY):=
 (bL u p2 0 (cJ .i64 (p0.aI.length:Int) 1)).bind λr1=>bif !r1 then sU u p2 p3 true p0 p1 else (gH u p1.aT p2).bind λr2=>bif r2 then sU u p2 p3 true p0 p1 else (je u p3).bind λr3=>(ce p0.aI p2).bind λy4=>bif !([r3.fW,r3.fS] == [y4.fW,y4.fS]) then sU u p2 p3 true p0 p1 else sU u p2 p3 (decide ((p3.length:Int) > 6)) p0 p1
def CY(u:Nat)(p2:Int)(p3:List Int)(r6:Int×Int)(p1:aY)(s:List Int):Option (Bool×aY):=BG u p2 p1 s
def CZ(u:Nat)(p2:Int)(p3:List Int)(r6:Int×Int)(p1:aY)(y13:Int)(i_:Nat)(s:List Int)(k_:List Int->Option (Bool×aY)):Option (Bool×aY):=(ce s (aS .i64 r6.1 (i_:Int))).bind λy14=>k_ (s.set (sY (aS .i64 r6.1 (i_:Int))) y13)
theorem S3(u:Nat)(p2:Int)(p3:List Int)(r6:Int×Int)(p1:aY)(s:List Int)(k:Nat)(hn:p3.length<=9223372036854775807)(hk:p3.length < k):sS u k p2 p3 r6 0 p1 s=Pu.bn (CY u p2 p3 r6 p1) (CZ u p2 p3 r6 p1) p3 0 s:=Pu.bw (λ(k:Nat) (s:List Int) (i:Int)=>sS u k p2 p3 r6 i p1 s) hn (λ_ _ _=>rfl) s hk
def zG(u:Nat)(x18:Int)(x19:List Int):Option aY:=
 some (aY.mk x18 x19)
def ml(u:Nat)(LA:List Int->Int->ae->Int->List Int->Option aY)(p1:List Int)(x6:Int)(p0:ae)(x16:Int)(x17:List Int):Option aY:=
 LA p1 (aS .i64 x6 1) p0 x16 x17
def iw(u f7:Nat)(p1:List Int)(x6:Int)(p0:ae)(x7:Int)(x8:List Int):Option aY:=match f7 with
  | 0=>none
  | f7+1=>bif decide (x6 < (p0.aI.length:Int)) then (vd u p1 p0 x6).bind λr12=>(gG u p0.aG p0.aV x6).bind λr13=>bif decide (r12>=0) then (de (dW r12 (aS .i64 r12 r13.2) p1.length)).bind λ_=>(xZ u p0 (aY.mk x7 x8) x6 ((p1.take (sY (aS .i64 r12 r13.2))).drop (sY r12))).bind λr15=>ml u (iw u f7) p1 x6 p0 r15.2.aT r15.2.bj else ml u (iw u f7) p1 x6 p0 x7 x8 else zG u x7 x8
def tY(u:Nat)(p0:ae)(p1:List Int):Option aY:=
 (wz u p0).bind λr1=>(kU u p0).bind λr2=>bif !r2 then some r1 else iw u u p1 0 p0 r1.aT r1.bj
def Du(u:Nat)(p1:List Int)(p0:ae)(s:Int×(List Int)):Option aY:=zG u s.1 s.2
def vT(u:Nat)(p1:List Int)(p0:ae)(i_:Nat)(s:Int×(List Int))(k_:(Int×(List Int))->Option aY):Option aY:=(vd u p1 p0 (i_:Int)).bind λr12=>(gG u p0.aG p0.aV (i_:Int)).bind λr13=>bif decide (r12>=0) then (de (dW r12 (aS .i64 r12 r13.2) p1.length)).bind λ_=>(xZ u p0 (aY.mk s.1 s.2) (i_:Int) ((p1.take (sY (aS .i64 r12 r13.2))).drop (sY r12))).bind λr15=>ml u (λz0 z1 z2 z3 z4=>k_ (z3,z4)) p1 (i_:Int) p0 r15.2.aT r15.2.bj else ml u (λz0 z1 z2 z3 z4=>k_ (z3,z4)) p1 (i_:Int) p0 s.1 s.2
theorem La(u:Nat)(p1:List Int)(p0:ae)(s:Int×(List Int))(k:Nat)(hn:((p0.aI.length:Int):Int)<=9223372036854775807)(hk:sY (p0.aI.length:Int) < k):iw u k p1 0 p0 s.1 s.2=Pu.qn (Du u p1 p0) (vT u p1 p0) (sY (p0.aI.length:Int)) 0 s:=Pu.o3 (λ(k:Nat) (s:Int×(List Int)) (i:Int)=>iw u k p1 i p0 s.1 s.2) hn (λ_ _ _=>rfl) s hk
def Ex(u:Nat)(p0:ae)(p1:List Int):Option Bool:=
 bif (p1.length:Int) == p0.aV then (yE u p1 p0.aG).bind λr1=>(pc u r1 p0.aI).bind λr2=>some r2 else some false
def xv(u:Nat)(r1:aA)(r7:ae)(r8:aY)(x11:Int):Option aA:=
 some (aA.mk r1.eh r1.bh r1.ba r7 r8 x11 r1.aW r1.a7)
def xw(u:Nat)(x10:Bool)(r1:aA)(r7:ae)(r8:aY):Option aA:=
 bif x10 then xv u r1 r7 r8 5 else xv u r1 r7 r8 1
def xy(u:Nat)(x5:Bool)(p1:ar)(p2:ae)(r1:aA):Option aA:=
 bif x5 then some r1 else (uW u p1).bind λr6=>(yC u p2).bind λr7=>(tY u p2 r6.2).bind λr8=>bif r6.1 == p2.aN then (Ex u p2 r6.2).bind λr9=>xw u r9 r1 r7 r8 else xw u false r1 r7 r8
def zH(u:Nat)(p0:aA)(p1:ar)(p2:ae):Option aA:=
 (eL u p0).bind λr1=>bif p0.aH != 0 then (nt u p0.ay p2).bind λr2=>bif !r2 then (nu u p0).bind λr3=>some r3 else some r1 else (kU u p2).bind λr4=>bif !r4 then xy u true p1 p2 r1 else xy u (p2.aN == 0) p1 p2 r1
def ve(u:Nat)(x4:Bool)(x5:Int)(x6:List Int):Option (aY×Bool):=
 bif x4 then some ((aY.mk x5 x6),false) else some ((aY.mk x5 x6),true)
def wA(u:Nat)(p0:ae)(p1:aY)(p2:Int)(p3:List Int):Option (aY×Bool):=
 (yD u p1).bind λr1=>(pN u p0 p1).bind λr2=>bif !r2 then ve u true r1.aT r1.bj else (xZ u p0 r1 p2 p3).bind λr3=>ve u (!r3.1) r3.2.aT r3.2.bj
def xz(u:Nat)(r1:aA)(x24:List Kid)(x25:List ah):Option Act:=
 some (Act.mk (aA.mk r1.eh r1.bh r1.ba r1.ay r1.aZ r1.aH x24 r1.a7) x25)
def xA(u:Nat)(tD:Int->Int->((List Int)×Bool)->Int->aA->aA->List Kid->List ah->Option Act)(p1 p2:Int)(r2:(List Int)×Bool)(x6:Int)(p0 r1:aA)(x22:List Kid)(x23:List ah):Option Act:=
 tD p1 p2 r2 (aS .i64 x6 1) p0 r1 x22 x23
def pm(u:Nat)(tD:Int->Int->((List Int)×Bool)->Int->aA->aA->List Kid->List ah->Option Act)(p1 p2:Int)(r2:(List Int)×Bool)(x6:Int)(x12:Bool)(p0 r1:aA)(x7:List Kid)(x8:List ah):Option Act:=
 bif x12 then (ce p0.aW x6).bind λy13=>(yG u p0).bind λr14=>(yH u x7 y13.gj r14).bind λr15=>(gH u r15 p2).bind λr16=>bif r16 then (rJ u p0.ay.aN p2 r2.1).bind λr17=>(iS u p1 y13.gj r17).bind λr18=>(de (decide ((x8.length+[r18].length)*40<=140737488355328))).bind λ_=>(jM u 0 p2).bind λr20=>(sR u x7 y13.gj r20).bind λr21=>xA u tD p1 p2 r2 x6 p0 r1 r21 (x8++[r18]) else xA u tD p1 p2 r2 x6 p0 r1 x7 x8 else xz u r1 x7 x8
def fE(u gy:Nat)(p1 p2:Int)(r2:(List Int)×Bool)(x6:Int)(p0 r1:aA)(x7:List Kid)(x8:List ah):Option Act:=match gy with
  | 0=>none
  | gy+1=>bif decide (x6 < (p0.aW.length:Int)) then pm u (fE u gy) p1 p2 r2 x6 r2.2 p0 r1 x7 x8 else pm u (fE u gy) p1 p2 r2 x6 false p0 r1 x7 x8
def zI(u:Nat)(p0:aA)(p1 p2:Int):Option Act:=
 (eL u p0).bind λr1=>(rI u p0.ay p0.aZ p2).bind λr2=>fE u u p1 p2 r2 0 p0 r1 r1.aW ([]:List ah)
def vg(u:Nat)(p1:Int)(x1:Bool)(p0:aA)(p2:eC):Option Act:=
 bif x1 then (nu u p0).bind λr2=>some (Act.mk r2 ([]:List ah)) else (gH u p0.aZ.aT p2.fI).bind λr3=>bif r3 then (eL u p0).bind λr4=>some (Act.mk r4 ([]:List ah)) else (wA u p0.ay p0.aZ p2.fI p2.fB).bind λr5=>bif !r5.2 then (nu u p0).bind λr6=>some (Act.mk r6 ([]:List ah)) else (eL u p0).bind λr7=>(zI u (aA.mk r7.eh r7.bh r7.ba r7.ay r5.1 r7.aH r7.aW r7.a7) p1 p2.fI).bind λr8=>some r8
def wB(u:Nat)(p0:aA)(p1:Int)(p2:eC):Option Act:=
 bif p0.aH == 0 then vg u p1 true p0 p2 else vg u p1 (p2.aN != p0.ay.aN) p0 p2
def qS(u:Nat)(x4:Bool)(x5 x6:Int)(x7 x8 x9:Int)(x10:List bQ)(x11:Int)(x12:List Int)(x13:Int)(x14:List Kid)(x15:Int):Option Act:=
 some (Act.mk (aA.mk x4 x5 x6 (ae.mk x7 x8 x9 x10) (aY.mk x11 x12) x13 x14 x15) ([]:List ah))
def wC(u:Nat)(p0:aA)(p1:Int)(p2:ar)(p3:eC):Option Act:=
 (eL u p0).bind λr1=>bif p3.bp == 1 then (zH u (aA.mk r1.eh r1.bh 0 r1.ay r1.aZ r1.aH r1.aW r1.a7) p2 p3.ay).bind λr2=>qS u r2.eh r2.bh r2.ba r2.ay.aN r2.ay.aG r2.ay.aV r2.ay.aI r2.aZ.aT r2.aZ.bj r2.aH r2.aW r2.a7 else bif p3.bp == 3 then (wB u (aA.mk r1.eh r1.bh 0 r1.ay r1.aZ r1.aH r1.aW r1.a7) p1 p3).bind λr3=>some r3 else bif p3.bp == 2 then qS u r1.eh r1.bh 0 r1.ay.aN r1.ay.aG r1.ay.aV r1.ay.aI r1.aZ.aT r1.aZ.bj r1.aH r1.aW (aS .i64 r1.a7 1) else qS u r1.eh r1.bh 0 r1.ay.aN r1.ay.aG r1.ay.aV r1.ay.aI r1.aZ.aT r1.aZ.bj r1.aH r1.aW r1.a7
def zJ(u:Nat)(p1:Int)(x4:Bool)(p2:aA)(p3:ar)(p4:ah)(r2:eC×Bool):Option Act:=
 bif x4 then (nu u p2).bind λr5=>some (Act.mk r5 ([]:List ah)) else bif r2.1.bp == 2 then (sj u p2 p1 p4.cM r2.1).bind λr6=>some r6 else bif p4.cM == p2.bh then (wC u p2 p1 p3 r2.1).bind λr7=>some r7 else (nu u p2).bind λr8=>some (Act.mk r8 ([]:List ah))
def Hc(u:Nat)(p0:bV)(p1:Int)(p2:aA)(p3:ar)(p4:ah):Option Act:=
 bif !p2.eh then (eL u p2).bind λr1=>some (Act.mk r1 ([]:List ah)) else (tW u p4.fB).bind λr2=>bif !r2.2 then zJ u p1 true p2 p3 p4 r2 else (bL u p4.cM 0 (cJ .i64 (p0.bP.length:Int) 1)).bind λr3=>bif !r3 then zJ u p1 true p2 p3 p4 r2 else zJ u p1 (p4.cM == p1) p2 p3 p4 r2
def vh(u:Nat)(p0:World)(p1:Int):Option World:=
 (ce p0.bM p1).bind λy1=>(de (dW 0 p1 p0.bM.length)).bind λ_=>(de (decide ((([]:List ah).length+((p0.bM.take (sY p1)).drop (sY 0)).length)*40<=140737488355328))).bind λ_=>(de (dW (aS .i64 p1 1) (p0.bM.length:Int) p0.bM.length)).bind λ_=>(de (decide (((([]:List ah)++((p0.bM.take (sY p1)).drop (sY 0))).length+((p0.bM.take (sY (p0.bM.length:Int))).drop (sY (aS .i64 p1 1))).length)*40<=140737488355328))).bind λ_=>(ce p0.fN y1.w9).bind λy6=>(ce p0.fD y1.w9).bind λy7=>(Hc u p0.fT y1.w9 y6 y7 y1).bind λr8=>(ce p0.fN y1.w9).bind λy9=>(zA u (World.mk p0.fC p0.fT p0.cF p0.cu (p0.fN.set (sY y1.w9) r8.fN) p0.fD ((([]:List ah)++((p0.bM.take (sY p1)).drop (sY 0)))++((p0.bM.take (sY (p0.bM.length:Int))).drop (sY (aS .i64 p1 1)))) p0.dv p0.ch) r8.nr).bind λr10=>some r10
def tZ(u:Nat)(Sy:Int->Int->Int->Int->Int->Int->List Int->List Int->List aM->List aA->List ar->List ah->List br->Int->Option World)(p1 x14:Int)(x40:Bool)(x15 x16:Int)(x17 x18:Int)(x19 x20:List Int)(x21:List aM)(x22:List aA)(x23:List ar)(x24:List ah)(x25:List br)(x26:Int):Option World:=
 bif x40 then (vh u (World.mk (eG.mk x15 x16 x17 x18) (bV.mk x19) x20 x21 x22 x23 x24 x25 x26) 0).bind λr41=>Sy p1 (aS .i64 x14 1) r41.fC.aG r41.fC.bi r41.fC.a9 r41.fC.bd r41.fT.bP r41.cF r41.cu r41.fN r41.fD r41.bM r41.dv r41.ch else some (World.mk (eG.mk x15 x16 x17 x18) (bV.mk x19) x20 x21 x22 x23 x24 x25 x26)
def jX(u jy:Nat)(p1 x14:Int)(x15 x16:Int)(x17 x18:Int)(x19 x20:List Int)(x21:List aM)(x22:List aA)(x23:List ar)(x24:List ah)(x25:List br)(x26:Int):Option World:=match jy with
  | 0=>none
  | jy+1=>bif decide (x14 < p1) then tZ u (jX u jy) p1 x14 (decide ((x24.length:Int) > 0)) x15 x16 x17 x18 x19 x20 x21 x22 x23 x24 x25 x26 else tZ u (jX u jy) p1 x14 false x15 x16 x17 x18 x19 x20 x21 x22 x23 x24 x25 x26
def FI(u:Nat)(p0:World)(p1:Int):Option World:=
 jX u u p1 0 p0.fC.aG p0.fC.bi p0.fC.a9 p0.fC.bd p0.fT.bP p0.cF p0.cu p0.fN p0.fD p0.bM p0.dv p0.ch
def Be(u:Nat)(x41 x42:Int)(x43 x44:Int)(x45 x46:List Int)(x47:List aM)(x48:List aA)(x49:List ar)(x50:List ah)(x51:List br)(x52:Int):Option World:=
 (FI u (World.mk (eG.mk x41 x42 x43 x44) (bV.mk x45) x46 x47 x48 x49 x50 x51 x52) 6000).bind λr53=>some r53
def kY(u lr:Nat)(x14 x15:Int)(x16 x17 x18:Int)(x19 x20:List Int)(x21:List aM)(x22:List aA)(x23:List ar)(x24:List ah)(x25:List br)(x26:Int):Option World:=match lr with
  | 0=>none
  | lr+1=>bif decide (x14 < (x22.length:Int)) then (u7 u (World.mk (eG.mk x15 x16 x17 x18) (bV.mk x19) x20 x21 x22 x23 x24 x25 x26) x14).bind λr40=>kY u lr (aS .i64 x14 1) r40.fC.aG r40.fC.bi r40.fC.a9 r40.fC.bd r40.fT.bP r40.cF r40.cu r40.fN r40.fD r40.bM r40.dv r40.ch else Be u x15 x16 x17 x18 x19 x20 x21 x22 x23 x24 x25 x26
def wD(u:Nat)(p0:World):Option World:=
 kY u u 0 p0.fC.aG p0.fC.bi p0.fC.a9 p0.fC.bd p0.fT.bP p0.cF p0.cu p0.fN p0.fD p0.bM p0.dv p0.ch
def zK(u:Nat)(p1:Int):Option Int:=
 some p1
def gk(u ku:Nat)(p1 x18:Int)(x19 x20:Int)(x21 x22:Int)(x23 x24:List Int)(x25:List aM)(x26:List aA)(x27:List ar)(x28:List ah)(x29:List br)(x30:Int):Option Int:=match ku with
  | 0=>none
  | ku+1=>bif decide (x18 < p1) then (uY u (World.mk (eG.mk x19 x20 x21 x22) (bV.mk x23) x24 x25 x26 x27 x28 x29 x30)).bind λr44=>bif r44 then some x18 else (wD u (World.mk (eG.mk x19 x20 x21 x22) (bV.mk x23) x24 x25 x26 x27 x28 x29 x30)).bind λr45=>gk u ku p1 (aS .i64 x18 1) r45.fC.aG r45.fC.bi r45.fC.a9 r45.fC.bd r45.fT.bP r45.cF r45.cu r45.fN r45.fD r45.bM r45.dv r45.ch else zK u p1
def tk(u:Nat)(p1:Int)(x4:Bool)(r1:World):Option Int:=
 bif x4 then some 0 else gk u u p1 0 r1.fC.aG r1.fC.bi r1.fC.a9 r1.fC.bd r1.fT.bP r1.cF r1.cu r1.fN r1.fD r1.bM r1.dv r1.ch
def t1(u:Nat)(p0:World)(p1:Int):Option Int:=
 (zg u p0).bind λr1=>(zn u p0).bind λr2=>bif !r2 then tk u p1 true r1 else (bL u p1 0 500).bind λr3=>tk u p1 (!r3) r1
def Lb(u:Nat)(p1:Int)(s:Int×Int×Int×Int×(List Int)×(List Int)×(List aM)×(List aA)×(List ar)×(List ah)×(List br)×Int):Option Int:=zK u p1
def Lc(u:Nat)(p1:Int)(i_:Nat)(s:Int×Int×Int×Int×(List Int)×(List Int)×(List aM)×(List aA)×(List ar)×(List ah)×(List br)×Int)(k_:(Int×Int×Int×Int×(List Int)×(List Int)×(List aM)×(List aA)×(List ar)×(List ah)×(List br)×Int)->Option Int):Option Int:=(uY u (World.mk (eG.mk s.1 s.2.1 s.2.2.1 s.2.2.2.1) (bV.mk s.2.2.2.2.1) s.2.2.2.2.2.1 s.2.2.2.2.2.2.1 s.2.2.2.2.2.2.2.1 s.2.2.2.2.2.2.2.2.1 s.2.2.2.2.2.2.2.2.2.1 s.2.2.2.2.2.2.2.2.2.2.1 s.2.2.2.2.2.2.2.2.2.2.2)).bind λr44=>bif r44 then some (i_:Int) else (wD u (World.mk (eG.mk s.1 s.2.1 s.2.2.1 s.2.2.2.1) (bV.mk s.2.2.2.2.1) s.2.2.2.2.2.1 s.2.2.2.2.2.2.1 s.2.2.2.2.2.2.2.1 s.2.2.2.2.2.2.2.2.1 s.2.2.2.2.2.2.2.2.2.1 s.2.2.2.2.2.2.2.2.2.2.1 s.2.2.2.2.2.2.2.2.2.2.2)).bind λr45=>k_ (r45.fC.aG,r45.fC.bi,r45.fC.a9,r45.fC.bd,r45.fT.bP,r45.cF,r45.cu,r45.fN,r45.fD,r45.bM,r45.dv,r45.ch)
theorem qch(u:Nat)(p1:Int)(s:Int×Int×Int×Int×(List Int)×(List Int)×(List aM)×(List aA)×(List ar)×(List ah)×(List br)×Int)(k:Nat)(hn:(p1:Int)<=9223372036854775807)(hk:sY p1 < k):gk u k p1 0 s.1 s.2.1 s.2.2.1 s.2.2.2.1 s.2.2.2.2.1 s.2.2.2.2.2.1 s.2.2.2.2.2.2.1 s.2.2.2.2.2.2.2.1 s.2.2.2.2.2.2.2.2.1 s.2.2.2.2.2.2.2.2.2.1 s.2.2.2.2.2.2.2.2.2.2.1 s.2.2.2.2.2.2.2.2.2.2.2=Pu.qn (Lb u p1) (Lc u p1) (sY p1) 0 s:=Pu.o3 (λ(k:Nat) (s:Int×Int×Int×Int×(List Int)×(List Int)×(List aM)×(List aA)×(List ar)×(List ah)×(List br)×Int) (i:Int)=>gk u k p1 i s.1 s.2.1 s.2.2.1 s.2.2.2.1 s.2.2.2.2.1 s.2.2.2.2.2.1 s.2.2.2.2.2.2.1 s.2.2.2.2.2.2.2.1 s.2.2.2.2.2.2.2.2.1 s.2.2.2.2.2.2.2.2.2.1 s.2.2.2.2.2.2.2.2.2.2.1 s.2.2.2.2.2.2.2.2.2.2.2) hn (λ_ _ _=>rfl) s hk
def bN(u:Nat)(p0 p1 p2:Int):Option Bool:=
 bif decide (p0>=p1) then some (decide (p0<=p2)) else some false
def Ce(u:Nat)(p0:eG):Option Bool:=
 (bN u p0.aG 2 6).bind λr1=>bif r1 then (bN u p0.bi 1 40).bind λr2=>bif r2 then (bN u p0.a9 1 5).bind λr3=>bif r3 then (bN u p0.bd 2 8).bind λr4=>some r4 else some false else some false else some false
def zL(u:Nat)(p0:bV):Option Bool:=
 (bN u (p0.bP.length:Int) 1 7).bind λr8=>some r8
def fF(u:Nat)(Sp:bV->Int->Option Bool)(p0:bV)(x2:Int)(x7:Bool):Option Bool:=
 bif x7 then some false else Sp p0 (aS .i64 x2 1)
def gI(u fb:Nat)(p0:bV)(x2:Int):Option Bool:=match fb with
  | 0=>none
  | fb+1=>bif decide (x2 < (p0.bP.length:Int)) then (ce p0.bP x2).bind λy4=>bif x2 == 0 then bif y4 != (-1) then fF u (gI u fb) p0 x2 true else bif decide (x2 > 0) then (bN u y4 0 (cJ .i64 x2 1)).bind λr5=>fF u (gI u fb) p0 x2 (!r5) else fF u (gI u fb) p0 x2 false else bif decide (x2 > 0) then (bN u y4 0 (cJ .i64 x2 1)).bind λr6=>fF u (gI u fb) p0 x2 (!r6) else fF u (gI u fb) p0 x2 false else zL u p0
def rA(u:Nat)(p0:bV):Option Bool:=
 gI u u p0 0
def He(u:Nat)(p0:bV)(s:Unit):Option Bool:=zL u p0
def Hf(u:Nat)(p0:bV)(y4:Int)(i_:Nat)(s:Unit)(k_:Unit->Option Bool):Option Bool:=bif (i_:Int) == 0 then bif y4 != (-1) then fF u (λz0 z1=>k_ ()) p0 (i_:Int) true else bif decide ((i_:Int) > 0) then (bN u y4 0 (cJ .i64 (i_:Int) 1)).bind λr5=>fF u (λz0 z1=>k_ ()) p0 (i_:Int) (!r5) else fF u (λz0 z1=>k_ ()) p0 (i_:Int) false else bif decide ((i_:Int) > 0) then (bN u y4 0 (cJ .i64 (i_:Int) 1)).bind λr6=>fF u (λz0 z1=>k_ ()) p0 (i_:Int) (!r6) else fF u (λz0 z1=>k_ ()) p0 (i_:Int) false
theorem Qv(u:Nat)(p0:bV)(s:Unit)(k:Nat)(hn:p0.bP.length<=9223372036854775807)(hk:p0.bP.length < k):gI u k p0 0=Pu.bn (He u p0) (Hf u p0) p0.bP 0 s:=Pu.bw (λ(k:Nat) (s:Unit) (i:Int)=>gI u k p0 i) hn (λ_ _ _=>rfl) s hk
def pO(u:Nat)(p0 p1:Int):Option Bool:=
 (bN u p0 2 6).bind λr1=>bif r1 then (bN u p1 0 (ip .i64 40 p0)).bind λr2=>some r2 else some false
def vj(u:Nat)(p0:aM):Option Bool:=
 some (decide ((p0.fB.length:Int) > 240))
def db(u:Nat)  : Option Int:=
 some (-1)
def bB(u bz:Nat)(p0:List aM)(x2:Int):Option Int:=match bz with
  | 0=>none
  | bz+1=>bif decide (x2 < (p0.length:Int)) then (ce p0 x2).bind λy4=>(vj u y4).bind λr5=>bif r5 then some x2 else bB u bz p0 (aS .i64 x2 1) else db u
def cB(u:Nat)(p0:List aM):Option Int:=
 bB u u p0 0
def jG(u:Nat)(p0:List aM)(s:Unit):Option Int:=db u
def jH(u:Nat)(p0:List aM)(y4:aM)(i_:Nat)(s:Unit)(k_:Unit->Option Int):Option Int:=(vj u y4).bind λr5=>bif r5 then some (i_:Int) else k_ ()
theorem jI(u:Nat)(p0:List aM)(s:Unit)(k:Nat)(hn:p0.length<=9223372036854775807)(hk:p0.length < k):bB u k p0 0=Pu.bn (jG u p0) (jH u p0) p0 0 s:=Pu.bw (λ(k:Nat) (s:Unit) (i:Int)=>bB u k p0 i) hn (λ_ _ _=>rfl) s hk
def cy(u:Nat)(p0:List aM):Option Bool:=
 (cB u p0).bind λr1=>some (decide (r1>=0))
def t6(u:Nat)(p0:bV)(p1:List aM):Option Bool:=
 bif (p1.length:Int) == (p0.bP.length:Int) then (cy u p1).bind λr1=>some (!r1) else some false
def xB(u:Nat)(p0 p1:Int)(x3:Bool):Option Int:=
 bif x3 then some 0 else (de (!(p1 == 0))).bind λ_=>some (qcO .i64 (cJ .i64 (aS .i64 p0 p1) 1) p1)
def zM(u:Nat)(p0 p1:Int):Option Int:=
 (bN u p0 0 1000000000000).bind λr1=>bif !r1 then xB u p0 p1 true else (bN u p1 1 1000000000000).bind λr2=>xB u p0 p1 (!r2)
def pP(u:Nat)(p0 p1:Int):Option Int:=
 (pO u p0 p1).bind λr1=>bif !r1 then some 0 else (zM u p1 p0).bind λr2=>some r2
def kC(u:Nat)(p0 p1 p2:Int):Option (Int×Int):=
 (pP u p0 p1).bind λr1=>(bN u p2 0 (cJ .i64 r1 1)).bind λr2=>bif !r2 then some (0,0) else some (ip .i64 p2 p0,if (cJ .i64 p1 (ip .i64 p2 p0)) < p0 then cJ .i64 p1 (ip .i64 p2 p0) else p0)
def ek(u:Nat)(p0:List Int):Option (List Int):=
 (de (decide (0<=(p0.length:Int)) && (0 == 0 || 0 == (p0.length:Int)))).bind λ_=>(de (decide (sY (p0.length:Int)*1<=140737488355328))).bind λ_=>(de (decide (((zQV (sY 0) (0:Int)).length+p0.length)*1<=140737488355328))).bind λ_=>some ((zQV (sY 0) (0:Int))++p0)
def wE(u:Nat)(p0:List Int)(p1 p2:Int)(x3:Bool):Option ((List Int)×Bool):=
 bif x3 then some ([],false) else (de (dW p1 (aS .i64 p1 p2) p0.length)).bind λ_=>(ek u ((p0.take (sY (aS .i64 p1 p2))).drop (sY p1))).bind λr5=>some (r5,true)
def yb(u:Nat)(p0:List Int)(p1 p2:Int):Option ((List Int)×Bool):=
 (bN u p1 0 (p0.length:Int)).bind λr1=>bif !r1 then wE u p0 p1 p2 true else (bN u p2 0 (cJ .i64 (p0.length:Int) p1)).bind λr2=>wE u p0 p1 p2 (!r2)
def pQ(u:Nat)(p0:List Int)(p1 p2:Int):Option ((List Int)×Bool):=
 (kC u p1 (p0.length:Int) p2).bind λr1=>bif r1.2 == 0 then some ([],false) else (yb u p0 r1.1 r1.2).bind λr2=>some (r2.1,r2.2)
def D1(u:Nat)(p0 p1:Int):Option Int:=
 (bN u p1 1 1000000000000).bind λr1=>bif !r1 then some 0 else (de (!(p1 == 0))).bind λ_=>(de (!(p1 == 0))).bind λ_=>some (ut .i64 (aS .i64 (ut .i64 p0 p1) p1) p1)
def Hg(u:Nat)(p0 p1:Int):Option Int:=
 (D1 u p0 251).bind λr1=>(D1 u p1 251).bind λr2=>some (aS .i64 r1 (ip .i64 251 r2))
def t7(u:Nat)(x11 x12:Int):Option Int:=
 (Hg u x11 x12).bind λr13=>some r13
def qT(u n4:Nat)(x4 x5:Int)(p0:List Int)(x6:Int):Option Int:=match n4 with
  | 0=>none
  | n4+1=>bif decide (x6 < (p0.length:Int)) then (ce p0 x6).bind λy10=>qT u n4 (ut .i64 (aS .i64 x4 (zm .i64 y10)) 251) (ut .i64 (aS .i64 x5 (ut .i64 (aS .i64 x4 (zm .i64 y10)) 251)) 251) p0 (aS .i64 x6 1) else t7 u x4 x5
def rB(u:Nat)(p0:List Int):Option Int:=
 qT u u 0 0 p0 0
def Hh(u:Nat)(p0:List Int)(s:Int×Int):Option Int:=t7 u s.1 s.2
def Bf(u:Nat)(p0:List Int)(y10:Int)(i_:Nat)(s:Int×Int)(k_:(Int×Int)->Option Int):Option Int:=k_ (ut .i64 (aS .i64 s.1 (zm .i64 y10)) 251,ut .i64 (aS .i64 s.2 (ut .i64 (aS .i64 s.1 (zm .i64 y10)) 251)) 251)
theorem Qw(u:Nat)(p0:List Int)(s:Int×Int)(k:Nat)(hn:p0.length<=9223372036854775807)(hk:p0.length < k):qT u k s.1 s.2 p0 0=Pu.bn (Hh u p0) (Bf u p0) p0 0 s:=Pu.bw (λ(k:Nat) (s:Int×Int) (i:Int)=>qT u k s.1 s.2 p0 i) hn (λ_ _ _=>rfl) s hk
def wF(u:Nat)(p0:List Int)(x8:Int):Option bQ:=
 (rB u p0).bind λr9=>some (bQ.mk r9 x8)
def sV(u pE:Nat)(p0:List Int)(x3 x4:Int):Option bQ:=match pE with
  | 0=>none
  | pE+1=>bif decide (x4 < (p0.length:Int)) then (ce p0 x4).bind λy7=>sV u pE p0 (sC .i64 (iq .i64 x3 8) (zm .i64 y7)) (aS .i64 x4 1) else wF u p0 x3
def mV(u:Nat)(p0:List Int):Option bQ:=
 bif decide ((p0.length:Int) > 6) then some (bQ.mk 0 0) else sV u u p0 1 0
def IP(u:Nat)(p0:List Int)(s:Int):Option bQ:=wF u p0 s
def C0(u:Nat)(p0:List Int)(y7:Int)(i_:Nat)(s:Int)(k_:Int->Option bQ):Option bQ:=k_ (sC .i64 (iq .i64 s 8) (zm .i64 y7))
theorem S4(u:Nat)(p0:List Int)(s:Int)(k:Nat)(hn:p0.length<=9223372036854775807)(hk:p0.length < k):sV u k p0 s 0=Pu.bn (IP u p0) (C0 u p0) p0 0 s:=Pu.bw (λ(k:Nat) (s i:Int)=>sV u k p0 s i) hn (λ_ _ _=>rfl) s hk
def Ey(u:Nat)(x10:List bQ):Option (List bQ):=
 some x10
def qU(u nZ:Nat)(p0:List Int)(p1:Int)(x4:List bQ)(r1 x5:Int):Option (List bQ):=match nZ with
  | 0=>none
  | nZ+1=>bif decide (x5 < r1) then (pQ u p0 p1 x5).bind λr8=>(mV u r8.1).bind λr9=>(de (decide ((x4.length+[r9].length)*16<=140737488355328))).bind λ_=>qU u nZ p0 p1 (x4++[r9]) r1 (aS .i64 x5 1) else Ey u x4
def yI(u:Nat)(p0:List Int)(p1:Int):Option (List bQ):=
 (pP u p1 (p0.length:Int)).bind λr1=>qU u u p0 p1 ([]:List bQ) r1 0
def Qx(u:Nat)(p0:List Int)(p1 r1:Int)(s:List bQ):Option (List bQ):=Ey u s
def Hi(u:Nat)(p0:List Int)(p1 r1:Int)(i_:Nat)(s:List bQ)(k_:List bQ->Option (List bQ)):Option (List bQ):=(pQ u p0 p1 (i_:Int)).bind λr8=>(mV u r8.1).bind λr9=>(de (decide ((s.length+[r9].length)*16<=140737488355328))).bind λ_=>k_ (s++[r9])
theorem Qy(u:Nat)(p0:List Int)(p1 r1:Int)(s:List bQ)(k:Nat)(hn:(r1:Int)<=9223372036854775807)(hk:sY r1 < k):qU u k p0 p1 s r1 0=Pu.qn (Qx u p0 p1 r1) (Hi u p0 p1 r1) (sY r1) 0 s:=Pu.o3 (λ(k:Nat) (s:List bQ) (i:Int)=>qU u k p0 p1 s r1 i) hn (λ_ _ _=>rfl) s hk
def BH(u:Nat)(p0:Int)(p1:List Int)(p2:Int)(x3:Bool):Option ae:=
 bif x3 then some (ae.mk 0 0 0 []) else (yI u p1 p2).bind λr4=>some (ae.mk p0 p2 (p1.length:Int) r4)
def Ez(u:Nat)(p0:Int)(p1:List Int)(p2:Int):Option ae:=
 (bN u p0 1 1000000).bind λr1=>bif !r1 then BH u p0 p1 p2 true else (pO u p2 (p1.length:Int)).bind λr2=>BH u p0 p1 p2 (!r2)
def EA(u:Nat)(p0:World):Option ae:=
 (Ez u 1 p0.cF p0.fC.aG).bind λr1=>some r1
def c7(u:Nat)(p0:bV)(p1:Int):Option Bool:=
 (bN u p1 0 (cJ .i64 (p0.bP.length:Int) 1)).bind λr1=>some r1
def jY(u:Nat)(p0:ae):Option Bool:=
 bif p0.aN == 0 then bif p0.aG == 0 then bif p0.aV == 0 then some ((p0.aI.length:Int) == 0) else some false else some false else some false
def nM(u:Nat)(p0:aY):Option Bool:=
 bif p0.aT == 0 then some ((p0.bj.length:Int) == 0) else some false
def xC(u:Nat)(p0:aA):Option Bool:=
 bif !p0.eh then bif p0.bh == 0 then bif p0.ba == 0 then (jY u p0.ay).bind λr1=>bif r1 then (nM u p0.aZ).bind λr2=>bif r2 then bif p0.aH == 0 then bif (p0.aW.length:Int) == 0 then some (p0.a7 == 0) else some false else some false else some false else some false else some false else some false else some false
def zN(u:Nat)(x11:List Int):Option (List Int):=
 some x11
def t8(u:Nat)(So:Int->List Int->bV->Option (List Int))(x3:Int)(x4:List Int)(x8:Bool)(p0:bV):Option (List Int):=
 bif x8 then (de (decide ((x4.length+([x3]:List Int).length)*8<=140737488355328))).bind λ_=>(ce p0.bP x3).bind λy10=>So y10 (x4++([x3]:List Int)) p0 else zN u x4
def jZ(u js:Nat)(x3:Int)(x4:List Int)(p0:bV):Option (List Int):=match js with
  | 0=>none
  | js+1=>(c7 u p0 x3).bind λr7=>bif r7 then t8 u (jZ u js) x3 x4 (decide ((x4.length:Int) < (p0.bP.length:Int))) p0 else t8 u (jZ u js) x3 x4 false p0
def Cf(u:Nat)(p0:bV)(p1:Int):Option (List Int):=
 jZ u u p1 ([]:List Int) p0
def o0(u:Nat)  : Option Int:=
 some (-1)
def fk(u eF:Nat)(p0:List Int)(p1 x2:Int):Option Int:=match eF with
  | 0=>none
  | eF+1=>bif decide (x2 < (p0.length:Int)) then (ce p0 x2).bind λy4=>bif p1 == y4 then some x2 else fk u eF p0 p1 (aS .i64 x2 1) else o0 u
def nx(u:Nat)(p0:List Int)(p1:Int):Option Int:=
 fk u u p0 p1 0
def DP(u:Nat)(p0:List Int)(p1:Int)(s:Unit):Option Int:=o0 u
def tl(u:Nat)(p0:List Int)(p1 y4:Int)(i_:Nat)(s:Unit)(k_:Unit->Option Int):Option Int:=bif p1 == y4 then some (i_:Int) else k_ ()
theorem DQ(u:Nat)(p0:List Int)(p1:Int)(s:Unit)(k:Nat)(hn:p0.length<=9223372036854775807)(hk:p0.length < k):fk u k p0 p1 0=Pu.bn (DP u p0 p1) (tl u p0 p1) p0 0 s:=Pu.bw (λ(k:Nat) (s:Unit) (i:Int)=>fk u k p0 p1 i) hn (λ_ _ _=>rfl) s hk
def ig(u:Nat)(p0:List Int)(p1:Int):Option Bool:=
 (nx u p0 p1).bind λr1=>some (decide (r1>=0))
def qi(u:Nat)(p0:bV)(p1 p2:Int):Option Bool:=
 bif p1 != p2 then (Cf u p0 p2).bind λr1=>(ig u r1 p1).bind λr2=>some r2 else some false
def C3(u:Nat)(x17:List Int):Option ((List Int)×Bool):=
 some (x17,true)
def pn(u mz:Nat)(p0 x5:Int)(x11:List Int)(x12:Int):Option ((List Int)×Bool):=match mz with
  | 0=>none
  | mz+1=>bif decide (x12 < ((zQV (sY x5) (0:Int)).length:Int)) then (de (decide (0<=(ip .i64 8 (cJ .i64 (cJ .i64 x5 1) x12))))).bind λ_=>(ce x11 x12).bind λy16=>pn u mz p0 x5 (x11.set (sY x12) (zm .u8 (qm .i64 p0 (ip .i64 8 (cJ .i64 (cJ .i64 x5 1) x12))))) (aS .i64 x12 1) else C3 u x11
def po(u:Nat)(p0 x5:Int)(x6:Bool):Option ((List Int)×Bool):=
 bif x6 then some ([],false) else (de (decide (0<=x5) && (x5 == 0 || x5 == x5))).bind λ_=>(de (decide (sY x5*1<=140737488355328))).bind λ_=>pn u u p0 x5 (zQV (sY x5) (0:Int)) 0
def sn(u:Nat)(p0 x5:Int):Option ((List Int)×Bool):=
 bif decide (p0 < 1) then po u p0 x5 true else (de (decide (0<=(ip .i64 8 x5)))).bind λ_=>po u p0 x5 (qm .i64 p0 (ip .i64 8 x5) != 1)
def so(u:Nat)(PU:Int->Int->Option ((List Int)×Bool))(p0 x2:Int)(x4:Bool):Option ((List Int)×Bool):=
 bif x4 then PU p0 (aS .i64 x2 1) else sn u p0 x2
def i8(u iC:Nat)(p0 x2:Int):Option ((List Int)×Bool):=match iC with
  | 0=>none
  | iC+1=>bif decide (x2 < 6) then (de (decide (0<=(ip .i64 8 x2)))).bind λ_=>so u (i8 u iC) p0 x2 (decide (qm .i64 p0 (ip .i64 8 x2) > 1)) else so u (i8 u iC) p0 x2 false
def pR(u:Nat)(p0:Int):Option ((List Int)×Bool):=
 i8 u u p0 0
def NM(u:Nat)(p0 x5:Int)(s:List Int):Option ((List Int)×Bool):=C3 u s
def FJ(u:Nat)(p0 x5:Int)(i_:Nat)(s:List Int)(k_:List Int->Option ((List Int)×Bool)):Option ((List Int)×Bool):=(de (decide (0<=(ip .i64 8 (cJ .i64 (cJ .i64 x5 1) (i_:Int)))))).bind λ_=>(ce s (i_:Int)).bind λy16=>k_ (s.set (sY (i_:Int)) (zm .u8 (qm .i64 p0 (ip .i64 8 (cJ .i64 (cJ .i64 x5 1) (i_:Int))))))
theorem NN(u:Nat)(p0 x5:Int)(s:List Int)(k:Nat)(hn:(((zQV (sY x5) (0:Int)).length:Int):Int)<=9223372036854775807)(hk:sY ((zQV (sY x5) (0:Int)).length:Int) < k):pn u k p0 x5 s 0=Pu.qn (NM u p0 x5) (FJ u p0 x5) (sY ((zQV (sY x5) (0:Int)).length:Int)) 0 s:=Pu.o3 (λ(k:Nat) (s:List Int) (i:Int)=>pn u k p0 x5 s i) hn (λ_ _ _=>rfl) s hk
def Gr(u:Nat)  : Option Bool:=
 some true
def nE(u:Nat)(U5:ae->Int->Option Bool)(p0:ae)(x7:Int)(x13:Bool):Option Bool:=
 bif x13 then some false else U5 p0 (aS .i64 x7 1)
def lz(u jb:Nat)(p0:ae)(x7:Int):Option Bool:=match jb with
  | 0=>none
  | jb+1=>bif decide (x7 < (p0.aI.length:Int)) then (ce p0.aI x7).bind λy9=>(pR u y9.fS).bind λr10=>(kC u p0.aG p0.aV x7).bind λr11=>bif !r10.2 then nE u (lz u jb) p0 x7 true else bif (r10.1.length:Int) != r11.2 then nE u (lz u jb) p0 x7 true else (rB u r10.1).bind λr12=>nE u (lz u jb) p0 x7 (r12 != y9.fW) else Gr u
def wG(u:Nat)(x5:Bool)(p0:ae):Option Bool:=
 bif x5 then some false else lz u u p0 0
def oH(u:Nat)(p0:ae):Option Bool:=
 (jY u p0).bind λr1=>bif r1 then some true else (bN u p0.aN 1 1000000).bind λr2=>bif !r2 then wG u true p0 else (pO u p0.aG p0.aV).bind λr3=>bif !r3 then wG u true p0 else (pP u p0.aG p0.aV).bind λr4=>wG u ((p0.aI.length:Int) != r4) p0
def IQ(u:Nat)(p0:ae)(s:Unit):Option Bool:=Gr u
def C4(u:Nat)(p0:ae)(y9:bQ)(i_:Nat)(s:Unit)(k_:Unit->Option Bool):Option Bool:=(pR u y9.fS).bind λr10=>(kC u p0.aG p0.aV (i_:Int)).bind λr11=>bif !r10.2 then nE u (λz0 z1=>k_ ()) p0 (i_:Int) true else bif (r10.1.length:Int) != r11.2 then nE u (λz0 z1=>k_ ()) p0 (i_:Int) true else (rB u r10.1).bind λr12=>nE u (λz0 z1=>k_ ()) p0 (i_:Int) (r12 != y9.fW)
theorem S5(u:Nat)(p0:ae)(s:Unit)(k:Nat)(hn:p0.aI.length<=9223372036854775807)(hk:p0.aI.length < k):lz u k p0 0=Pu.bn (IQ u p0) (C4 u p0) p0.aI 0 s:=Pu.bw (λ(k:Nat) (s:Unit) (i:Int)=>lz u k p0 i) hn (λ_ _ _=>rfl) s hk
def dt(u:Nat)(p0:Int):Option Bool:=
 (bN u p0 0 1099511627775).bind λr1=>some r1
def vk(u:Nat)(p0:Int):Option Int:=
 (bN u p0 0 40).bind λr1=>bif !r1 then some 0 else (de (decide (0<=p0))).bind λ_=>some (cJ .i64 (iq .i64 1 p0) 1)
def sW(u:Nat)(p0:ae):Option Int:=
 (vk u (p0.aI.length:Int)).bind λr1=>some r1
def j0(u:Nat)(p0:aY)(p1:ae)(p2:Int):Option (List Int):=
 (kC u p1.aG p1.aV p2).bind λr1=>(de (dW r1.1 (aS .i64 r1.1 r1.2) p0.bj.length)).bind λ_=>some ((p0.bj.take (sY (aS .i64 r1.1 r1.2))).drop (sY r1.1))
def pS(u:Nat)(p0:Int):Option Bool:=
 (bN u p0 0 39).bind λr1=>some r1
def f9(u:Nat)(p0 p1:Int):Option Bool:=
 (dt u p0).bind λr1=>bif r1 then (pS u p1).bind λr2=>bif r2 then (de (decide (0<=p1))).bind λ_=>some (gU .i64 (qm .i64 p0 p1) 1 == 1) else some false else some false
def zO(u:Nat)(p0:Int):Option Bool:=
 some (p0 != 0)
def em(u:Nat)  : Option Int:=
 some (-1)
def ck(u cg:Nat)(p0:List Int)(x2:Int):Option Int:=match cg with
  | 0=>none
  | cg+1=>bif decide (x2 < (p0.length:Int)) then (ce p0 x2).bind λy4=>(zO u y4).bind λr5=>bif r5 then some x2 else ck u cg p0 (aS .i64 x2 1) else em u
def dy(u:Nat)(p0:List Int):Option Int:=
 ck u u p0 0
def oV(u:Nat)(p0:List Int)(s:Unit):Option Int:=em u
def oX(u:Nat)(p0:List Int)(y4:Int)(i_:Nat)(s:Unit)(k_:Unit->Option Int):Option Int:=(zO u y4).bind λr5=>bif r5 then some (i_:Int) else k_ ()
theorem oY(u:Nat)(p0:List Int)(s:Unit)(k:Nat)(hn:p0.length<=9223372036854775807)(hk:p0.length < k):ck u k p0 0=Pu.bn (oV u p0) (oX u p0) p0 0 s:=Pu.bw (λ(k:Nat) (s:Unit) (i:Int)=>ck u k p0 i) hn (λ_ _ _=>rfl) s hk
def bF(u:Nat)(p0:List Int):Option Bool:=
 (dy u p0).bind λr1=>some (decide (r1>=0))
def C5(u:Nat)  : Option Bool:=
 some true
def eQ(u:Nat)(PT:ae->Int->aY->Option Bool)(p0:ae)(x6:Int)(x16:Bool)(p1:aY):Option Bool:=
 bif x16 then some false else PT p0 (aS .i64 x6 1) p1
def fG(u ew:Nat)(p0:ae)(x6:Int)(p1:aY):Option Bool:=match ew with
  | 0=>none
  | ew+1=>bif decide (x6 < (p0.aI.length:Int)) then (ce p0.aI x6).bind λy8=>(j0 u p1 p0 x6).bind λr9=>(f9 u p1.aT x6).bind λr10=>bif r10 then (mV u r9).bind λr11=>bif !([r11.fW,r11.fS] == [y8.fW,y8.fS]) then eQ u (fG u ew) p0 x6 true p1 else (f9 u p1.aT x6).bind λr12=>bif !r12 then (bF u r9).bind λr13=>eQ u (fG u ew) p0 x6 r13 p1 else eQ u (fG u ew) p0 x6 false p1 else (f9 u p1.aT x6).bind λr14=>bif !r14 then (bF u r9).bind λr15=>eQ u (fG u ew) p0 x6 r15 p1 else eQ u (fG u ew) p0 x6 false p1 else C5 u
def pp(u:Nat)(x4:Bool)(p0:ae)(p1:aY):Option Bool:=
 bif x4 then some false else fG u u p0 0 p1
def pT(u:Nat)(p0:ae)(p1:aY):Option Bool:=
 (oH u p0).bind λr1=>bif !r1 then pp u true p0 p1 else (dt u p1.aT).bind λr2=>bif !r2 then pp u true p0 p1 else (sW u p0).bind λr3=>bif (DV .i64 p1.aT r3) != 0 then pp u true p0 p1 else pp u ((p1.bj.length:Int) != p0.aV) p0 p1
def NO(u:Nat)(p0:ae)(p1:aY)(s:Unit):Option Bool:=C5 u
def FK(u:Nat)(p0:ae)(p1:aY)(y8:bQ)(i_:Nat)(s:Unit)(k_:Unit->Option Bool):Option Bool:=(j0 u p1 p0 (i_:Int)).bind λr9=>(f9 u p1.aT (i_:Int)).bind λr10=>bif r10 then (mV u r9).bind λr11=>bif !([r11.fW,r11.fS] == [y8.fW,y8.fS]) then eQ u (λz0 z1 z2=>k_ ()) p0 (i_:Int) true p1 else (f9 u p1.aT (i_:Int)).bind λr12=>bif !r12 then (bF u r9).bind λr13=>eQ u (λz0 z1 z2=>k_ ()) p0 (i_:Int) r13 p1 else eQ u (λz0 z1 z2=>k_ ()) p0 (i_:Int) false p1 else (f9 u p1.aT (i_:Int)).bind λr14=>bif !r14 then (bF u r9).bind λr15=>eQ u (λz0 z1 z2=>k_ ()) p0 (i_:Int) r15 p1 else eQ u (λz0 z1 z2=>k_ ()) p0 (i_:Int) false p1
theorem NP(u:Nat)(p0:ae)(p1:aY)(s:Unit)(k:Nat)(hn:p0.aI.length<=9223372036854775807)(hk:p0.aI.length < k):fG u k p0 0 p1=Pu.bn (NO u p0 p1) (FK u p0 p1) p0.aI 0 s:=Pu.bw (λ(k:Nat) (s:Unit) (i:Int)=>fG u k p0 i p1) hn (λ_ _ _=>rfl) s hk
def xD(u:Nat)(p0 p1:Int)(x3:Bool):Option Int:=
 bif x3 then some 0 else some (DV .i64 p0 p1)
def zP(u:Nat)(p0 p1:Int):Option Int:=
 (dt u p0).bind λr1=>bif !r1 then xD u p0 p1 true else (dt u p1).bind λr2=>xD u p0 p1 (!r2)
def rM(u:Nat)(p0:ae)(p1:aY):Option Int:=
 (sW u p0).bind λr1=>(zP u r1 p1.aT).bind λr2=>some r2
def oQ(u:Nat)(x4:Bool)(p0:aA):Option Bool:=
 bif x4 then some false else bif p0.aH == 1 then some true else (rM u p0.ay p0.aZ).bind λr5=>some (r5 == 0)
def oI(u:Nat)(p0:aA):Option Bool:=
 bif p0.aH == 0 then (jY u p0.ay).bind λr1=>bif r1 then (nM u p0.aZ).bind λr2=>some r2 else some false else bif p0.ay.aN == 0 then oQ u true p0 else (pT u p0.ay p0.aZ).bind λr3=>oQ u (!r3) p0
def Bg(u:Nat)(p0:Int):Option Bool:=
 (bN u p0 0 6).bind λr1=>some r1
def EB(u:Nat)  : Option Bool:=
 some true
def dJ(u:Nat)(Sn:List Kid->Int->Option Bool)(p0:List Kid)(x2:Int)(x10:Bool):Option Bool:=
 bif x10 then some false else Sn p0 (aS .i64 x2 1)
def eS(u dU:Nat)(p0:List Kid)(x2:Int):Option Bool:=match dU with
  | 0=>none
  | dU+1=>bif decide (x2 < (p0.length:Int)) then (ce p0 x2).bind λy4=>(Bg u y4.gj).bind λr5=>bif !r5 then dJ u (eS u dU) p0 x2 true else (dt u y4.bJ).bind λr6=>bif !r6 then dJ u (eS u dU) p0 x2 true else (dt u y4.bG).bind λr7=>bif !r7 then dJ u (eS u dU) p0 x2 true else bif decide (y4.mg < 0) then dJ u (eS u dU) p0 x2 true else (dt u y4.ef).bind λr8=>bif !r8 then dJ u (eS u dU) p0 x2 true else bif decide (x2 > 0) then (ce p0 (cJ .i64 x2 1)).bind λy9=>dJ u (eS u dU) p0 x2 (decide (y4.gj<=y9.gj)) else dJ u (eS u dU) p0 x2 false else EB u
def Cg(u:Nat)(p0:List Kid):Option Bool:=
 eS u u p0 0
def Qz(u:Nat)(p0:List Kid)(s:Unit):Option Bool:=EB u
def Hj(u:Nat)(p0:List Kid)(y4:Kid)(i_:Nat)(s:Unit)(k_:Unit->Option Bool):Option Bool:=(Bg u y4.gj).bind λr5=>bif !r5 then dJ u (λz0 z1=>k_ ()) p0 (i_:Int) true else (dt u y4.bJ).bind λr6=>bif !r6 then dJ u (λz0 z1=>k_ ()) p0 (i_:Int) true else (dt u y4.bG).bind λr7=>bif !r7 then dJ u (λz0 z1=>k_ ()) p0 (i_:Int) true else bif decide (y4.mg < 0) then dJ u (λz0 z1=>k_ ()) p0 (i_:Int) true else (dt u y4.ef).bind λr8=>bif !r8 then dJ u (λz0 z1=>k_ ()) p0 (i_:Int) true else bif decide ((i_:Int) > 0) then (ce p0 (cJ .i64 (i_:Int) 1)).bind λy9=>dJ u (λz0 z1=>k_ ()) p0 (i_:Int) (decide (y4.gj<=y9.gj)) else dJ u (λz0 z1=>k_ ()) p0 (i_:Int) false
theorem QA(u:Nat)(p0:List Kid)(s:Unit)(k:Nat)(hn:p0.length<=9223372036854775807)(hk:p0.length < k):eS u k p0 0=Pu.bn (Qz u p0) (Hj u p0) p0 0 s:=Pu.bw (λ(k:Nat) (s:Unit) (i:Int)=>eS u k p0 i) hn (λ_ _ _=>rfl) s hk
def wH(u:Nat)(p0:Kid)(q0:bV)(q1:Int):Option Bool:=
 (c7 u q0 p0.gj).bind λr1=>bif !r1 then some true else some (p0.gj == q1)
def dD(u:Nat)  : Option Int:=
 some (-1)
def bX(u bT:Nat)(p0:List Kid)(p1_0:bV)(p1_1 x2:Int):Option Int:=match bT with
  | 0=>none
  | bT+1=>bif decide (x2 < (p0.length:Int)) then (ce p0 x2).bind λy4=>(wH u y4 p1_0 p1_1).bind λr5=>bif r5 then some x2 else bX u bT p0 p1_0 p1_1 (aS .i64 x2 1) else dD u
def cW(u:Nat)(p0:List Kid)(p1_0:bV)(p1_1:Int):Option Int:=
 bX u u p0 p1_0 p1_1 0
def lL(u:Nat)(p0:List Kid)(p1_0:bV)(p1_1:Int)(s:Unit):Option Int:=dD u
def ff(u:Nat)(p0:List Kid)(p1_0:bV)(p1_1:Int)(y4:Kid)(i_:Nat)(s:Unit)(k_:Unit->Option Int):Option Int:=(wH u y4 p1_0 p1_1).bind λr5=>bif r5 then some (i_:Int) else k_ ()
theorem lM(u:Nat)(p0:List Kid)(p1_0:bV)(p1_1:Int)(s:Unit)(k:Nat)(hn:p0.length<=9223372036854775807)(hk:p0.length < k):bX u k p0 p1_0 p1_1 0=Pu.bn (lL u p0 p1_0 p1_1) (ff u p0 p1_0 p1_1) p0 0 s:=Pu.bw (λ(k:Nat) (s:Unit) (i:Int)=>bX u k p0 p1_0 p1_1 i) hn (λ_ _ _=>rfl) s hk
def cm(u:Nat)(p0:List Kid)(p1_0:bV)(p1_1:Int):Option Bool:=
 (cW u p0 p1_0 p1_1).bind λr1=>some (decide (r1>=0))
def oJ(u:Nat)(x7:Bool)(p0:bV)(p1:Int)(p2:aA):Option Bool:=
 bif x7 then bif decide (p2.ba>=0) then bif decide (p2.a7>=0) then (bN u p2.aH 0 6).bind λr8=>bif r8 then bif (p2.aH == 6) == (p1 == 0) then (oI u p2).bind λr9=>bif r9 then (Cg u p2.aW).bind λr10=>bif r10 then (cm u p2.aW p0 p1).bind λr11=>some (!r11) else some false else some false else some false else some false else some false else some false else some false
def zQ(u:Nat)(x3:Bool)(p0:bV)(p1:Int)(p2:aA):Option Bool:=
 bif x3 then some false else bif !p2.eh then (xC u p2).bind λr4=>some r4 else bif p1 == 0 then bif p2.bh == (-1) then oJ u true p0 p1 p2 else bif p1 != 0 then (qi u p0 p2.bh p1).bind λr5=>oJ u r5 p0 p1 p2 else oJ u false p0 p1 p2 else bif p1 != 0 then (qi u p0 p2.bh p1).bind λr6=>oJ u r6 p0 p1 p2 else oJ u false p0 p1 p2
def yJ(u:Nat)(p0:bV)(p1:Int)(p2:aA):Option Bool:=
 (rA u p0).bind λr1=>bif !r1 then zQ u true p0 p1 p2 else (c7 u p0 p1).bind λr2=>zQ u (!r2) p0 p1 p2
def yd(u:Nat)(p0:Int):Option Bool:=
 (bN u p0 0 1000000).bind λr1=>some r1
def t9(u:Nat)(p0:Int):Option Bool:=
 bif p0 == 0 then some true else some (p0 == 1)
def sZ(u:Nat)(p0:ct):Option Bool:=
 (yd u p0.aN).bind λr1=>bif r1 then (t9 u p0.b9).bind λr2=>bif r2 then (bN u p0.aV 0 240).bind λr3=>some r3 else some false else some false
def ga(u:Nat)(p0:ar)(p1:Int):Option (List Int):=
 bif p1 == 0 then some p0.fA else some p0.fB
def EC(u:Nat)(p0:bR):Option Bool:=
 bif p0.eK == 2 then bif p0.Gl == 0 then bif (p0.fB.length:Int) == 0 then (sZ u p0.fR).bind λr1=>some r1 else some false else some false else (t9 u p0.eK).bind λr2=>bif r2 then bif [p0.fR.aN,p0.fR.b9,p0.fR.aV] == [0,0,0] then (bN u p0.Gl 0 (cJ .i64 240 (p0.fB.length:Int))).bind λr3=>some r3 else some false else some false
def wI(u:Nat)(p0:bR):Option Bool:=
 (EC u p0).bind λr1=>some (!r1)
def dE(u:Nat)  : Option Int:=
 some (-1)
def bY(u bU:Nat)(p0:List bR)(x2:Int):Option Int:=match bU with
  | 0=>none
  | bU+1=>bif decide (x2 < (p0.length:Int)) then (ce p0 x2).bind λy4=>(wI u y4).bind λr5=>bif r5 then some x2 else bY u bU p0 (aS .i64 x2 1) else dE u
def cX(u:Nat)(p0:List bR):Option Int:=
 bY u u p0 0
def lN(u:Nat)(p0:List bR)(s:Unit):Option Int:=dE u
def fh(u:Nat)(p0:List bR)(y4:bR)(i_:Nat)(s:Unit)(k_:Unit->Option Int):Option Int:=(wI u y4).bind λr5=>bif r5 then some (i_:Int) else k_ ()
theorem lO(u:Nat)(p0:List bR)(s:Unit)(k:Nat)(hn:p0.length<=9223372036854775807)(hk:p0.length < k):bY u k p0 0=Pu.bn (lN u p0) (fh u p0) p0 0 s:=Pu.bw (λ(k:Nat) (s:Unit) (i:Int)=>bY u k p0 i) hn (λ_ _ _=>rfl) s hk
def cn(u:Nat)(p0:List bR):Option Bool:=
 (cX u p0).bind λr1=>some (decide (r1>=0))
def qV(u:Nat)(p0:ar)(x3:Bool):Option Bool:=
 bif x3 then some false else bif decide ((p0.fP.length:Int)<=200) then (cn u p0.fP).bind λr4=>some (!r4) else some false
def lP(u:Nat)(p0:ar):Option Bool:=
 bif decide ((p0.fA.length:Int) > 240) then qV u p0 true else bif decide ((p0.fB.length:Int) > 240) then qV u p0 true else (sZ u p0.fR).bind λr1=>bif !r1 then qV u p0 true else (ga u p0 p0.fR.b9).bind λr2=>qV u p0 (decide (p0.fR.aV > (r2.length:Int)))
def iT(u:Nat)  : Option Bool:=
 some true
def dg(u cY:Nat)(p0 p1:List bQ)(x2:Int):Option Bool:=match cY with
  | 0=>none
  | cY+1=>bif decide (x2 < (p0.length:Int)) then (ce p0 x2).bind λy4=>(ce p1 x2).bind λy5=>bif !([y4.fW,y4.fS] == [y5.fW,y5.fS]) then some false else dg u cY p0 p1 (aS .i64 x2 1) else iT u
def dz(u:Nat)(p0 p1:List bQ):Option Bool:=
 bif (p0.length:Int) != (p1.length:Int) then some false else dg u u p0 p1 0
def vm(u:Nat)(p0 p1:List bQ)(s:Unit):Option Bool:=iT u
def mm(u:Nat)(p0 p1:List bQ)(y4:bQ)(i_:Nat)(s:Unit)(k_:Unit->Option Bool):Option Bool:=(ce p1 (i_:Int)).bind λy5=>bif !([y4.fW,y4.fS] == [y5.fW,y5.fS]) then some false else k_ ()
theorem vn(u:Nat)(p0 p1:List bQ)(s:Unit)(k:Nat)(hn:p0.length<=9223372036854775807)(hk:p0.length < k):dg u k p0 p1 0=Pu.bn (vm u p0 p1) (mm u p0 p1) p0 0 s:=Pu.bw (λ(k:Nat) (s:Unit) (i:Int)=>dg u k p0 p1 i) hn (λ_ _ _=>rfl) s hk
def rN(u:Nat)(p0 p1:ae):Option Bool:=
 bif p0.aN == p1.aN then bif p0.aG == p1.aG then bif p0.aV == p1.aV then (dz u p0.aI p1.aI).bind λr1=>some r1 else some false else some false else some false
def rO(u:Nat)(p0:ar):Option (Int×(List Int)):=
 (lP u p0).bind λr1=>bif !r1 then some (0,[]) else (ga u p0 p0.fR.b9).bind λr2=>(de (dW 0 p0.fR.aV r2.length)).bind λ_=>(ek u ((r2.take (sY p0.fR.aV)).drop (sY 0))).bind λr4=>some (p0.fR.aN,r4)
def FL(u:Nat)(p0 p1:List Int):Option Bool:=
 some ((strOfNums p0).toList == (strOfNums p1).toList)
def ua(u:Nat)(p0 p1:List Int):Option Bool:=
 (FL u p0 p1).bind λr1=>some r1
def ye(u:Nat)(p0:ar)(p1:Int)(p2:List Int):Option Bool:=
 (rO u p0).bind λr1=>bif r1.1 == p1 then (ua u r1.2 p2).bind λr2=>some r2 else some false
def yf(u:Nat)(p0:ar):Option Int:=
 some (cJ .i64 1 p0.fR.b9)
def vo(u:Nat)(p0:bR)(q0:Int):Option Bool:=
 some (p0.eK != q0)
def dr(u:Nat)  : Option Int:=
 some (-1)
def bO(u bI:Nat)(p0:List bR)(p1_0 x2:Int):Option Int:=match bI with
  | 0=>none
  | bI+1=>bif decide (x2 < (p0.length:Int)) then (ce p0 x2).bind λy4=>(vo u y4 p1_0).bind λr5=>bif r5 then some x2 else bO u bI p0 p1_0 (aS .i64 x2 1) else dr u
def cN(u:Nat)(p0:List bR)(p1_0:Int):Option Int:=
 bO u u p0 p1_0 0
def kM(u:Nat)(p0:List bR)(p1_0:Int)(s:Unit):Option Int:=dr u
def kN(u:Nat)(p0:List bR)(p1_0:Int)(y4:bR)(i_:Nat)(s:Unit)(k_:Unit->Option Int):Option Int:=(vo u y4 p1_0).bind λr5=>bif r5 then some (i_:Int) else k_ ()
theorem kO(u:Nat)(p0:List bR)(p1_0:Int)(s:Unit)(k:Nat)(hn:p0.length<=9223372036854775807)(hk:p0.length < k):bO u k p0 p1_0 0=Pu.bn (kM u p0 p1_0) (kN u p0 p1_0) p0 0 s:=Pu.bw (λ(k:Nat) (s:Unit) (i:Int)=>bO u k p0 p1_0 i) hn (λ_ _ _=>rfl) s hk
def cf(u:Nat)(p0:List bR)(p1_0:Int):Option Bool:=
 (cN u p0 p1_0).bind λr1=>some (decide (r1>=0))
def pU(u:Nat)(p0:bR):Option bR:=
 (ek u p0.fB).bind λr1=>some (bR.mk p0.eK p0.Gl r1 p0.fR)
def Bh(u:Nat)(r1 r2:List Int)(p0:ar)(x11:List bR):Option ar:=
 some (ar.mk r1 r2 p0.fR x11)
def nN(u lh:Nat)(p0:ar)(x5:Int)(r1 r2:List Int)(x6:List bR):Option ar:=match lh with
  | 0=>none
  | lh+1=>bif decide (x5 < (p0.fP.length:Int)) then (ce p0.fP x5).bind λy9=>(pU u y9).bind λr10=>(de (decide ((x6.length+[r10].length)*64<=140737488355328))).bind λ_=>nN u lh p0 (aS .i64 x5 1) r1 r2 (x6++[r10]) else Bh u r1 r2 p0 x6
def dP(u:Nat)(p0:ar):Option ar:=
 (ek u p0.fA).bind λr1=>(ek u p0.fB).bind λr2=>nN u u p0 0 r1 r2 []
def Mg(u:Nat)(p0:ar)(r1 r2:List Int)(s:List bR):Option ar:=Bh u r1 r2 p0 s
def ED(u:Nat)(p0:ar)(r1 r2:List Int)(y9:bR)(i_:Nat)(s:List bR)(k_:List bR->Option ar):Option ar:=(pU u y9).bind λr10=>(de (decide ((s.length+[r10].length)*64<=140737488355328))).bind λ_=>k_ (s++[r10])
theorem Mh(u:Nat)(p0:ar)(r1 r2:List Int)(s:List bR)(k:Nat)(hn:p0.fP.length<=9223372036854775807)(hk:p0.fP.length < k):nN u k p0 0 r1 r2 s=Pu.bn (Mg u p0 r1 r2) (ED u p0 r1 r2) p0.fP 0 s:=Pu.bw (λ(k:Nat) (s:List bR) (i:Int)=>nN u k p0 i r1 r2 s) hn (λ_ _ _=>rfl) s hk
def Ch(u:Nat)(p0:Int):Option Bool:=
 some true
def xE(u:Nat)(p0:ar)(p1:Int):Option (Nat×ar):=
 bif p1 == 0 then some (0,p0) else some (1,p0)
def oS(u:Nat)(p1:bR)(r1:Nat×ar)(x5:List Int):Option ar:=
 (de (LK p1.Gl x5.length)).bind λ_=>some (ar.mk r1.2.fA (DJ x5 p1.fB (sY p1.Gl)) r1.2.fR r1.2.fP)
def iK(u gB:Nat)(p1:bR)(r1:Nat×ar)(x3:List Int):Option ar:=match gB with
  | 0=>none
  | gB+1=>bif decide ((x3.length:Int) < (aS .i64 p1.Gl (p1.fB.length:Int))) then (de (decide ((x3.length+([0]:List Int).length)*1<=140737488355328))).bind λ_=>iK u gB p1 r1 (x3++([0]:List Int)) else oS u p1 r1 x3
def oT(u:Nat)(p1:bR)(x9:List Int)(r1:Nat×ar):Option ar:=
 (de (LK p1.Gl x9.length)).bind λ_=>some (ar.mk (DJ x9 p1.fB (sY p1.Gl)) r1.2.fB r1.2.fR r1.2.fP)
def iL(u gC:Nat)(p1:bR)(x7:List Int)(r1:Nat×ar):Option ar:=match gC with
  | 0=>none
  | gC+1=>bif decide ((x7.length:Int) < (aS .i64 p1.Gl (p1.fB.length:Int))) then (de (decide ((x7.length+([0]:List Int).length)*1<=140737488355328))).bind λ_=>iL u gC p1 (x7++([0]:List Int)) r1 else oT u p1 x7 r1
def gJ(u:Nat)(p0:ar)(p1:bR):Option ar:=
 bif p1.eK == 2 then some (ar.mk p0.fA p0.fB p1.fR p0.fP) else (xE u p0 p1.eK).bind λr1=>bif zWz r1.1 0 then iL u u p1 r1.2.fA r1 else bif zWz r1.1 1 then iK u u p1 r1 r1.2.fB else none
def jf(u:Nat)(x33 x34:List Int)(x35 x36 x37:Int)(x38:List bR):Option ar:=
 some (ar.mk x33 x34 (ct.mk x35 x36 x37) [])
def dp(u:Nat)(wl:ar->Int->List Int->List Int->Int->Int->Int->List bR->Option ar)(p0:ar)(x10:Int)(x27 x28:List Int)(x29 x30 x31:Int)(x32:List bR):Option ar:=
 wl p0 (aS .i64 x10 1) x27 x28 x29 x30 x31 x32
def ci(u cr:Nat)(p0:ar)(x10:Int)(x11 x12:List Int)(x13 x14 x15:Int)(x16:List bR):Option ar:=match cr with
  | 0=>none
  | cr+1=>bif decide (x10 < (p0.fP.length:Int)) then (ce p0.fP x10).bind λy24=>(Ch u x10).bind λr25=>bif r25 then (gJ u (ar.mk x11 x12 (ct.mk x13 x14 x15) x16) y24).bind λr26=>dp u (ci u cr) p0 x10 r26.fA r26.fB r26.fR.aN r26.fR.b9 r26.fR.aV r26.fP else dp u (ci u cr) p0 x10 x11 x12 x13 x14 x15 x16 else jf u x11 x12 x13 x14 x15 x16
def gD(u:Nat)(p0:ar):Option ar:=
 (dP u p0).bind λr1=>(lP u p0).bind λr2=>bif !r2 then some r1 else ci u u p0 0 r1.fA r1.fB r1.fR.aN r1.fR.b9 r1.fR.aV r1.fP
def nk(u:Nat)(p0:ar)(s:(List Int)×(List Int)×Int×Int×Int×(List bR)):Option ar:=jf u s.1 s.2.1 s.2.2.1 s.2.2.2.1 s.2.2.2.2.1 s.2.2.2.2.2
def im(u:Nat)(p0:ar)(y24:bR)(i_:Nat)(s:(List Int)×(List Int)×Int×Int×Int×(List bR))(k_:((List Int)×(List Int)×Int×Int×Int×(List bR))->Option ar):Option ar:=(Ch u (i_:Int)).bind λr25=>bif r25 then (gJ u (ar.mk s.1 s.2.1 (ct.mk s.2.2.1 s.2.2.2.1 s.2.2.2.2.1) s.2.2.2.2.2) y24).bind λr26=>dp u (λz0 z1 z2 z3 z4 z5 z6 z7=>k_ (z2,z3,z4,z5,z6,z7)) p0 (i_:Int) r26.fA r26.fB r26.fR.aN r26.fR.b9 r26.fR.aV r26.fP else dp u (λz0 z1 z2 z3 z4 z5 z6 z7=>k_ (z2,z3,z4,z5,z6,z7)) p0 (i_:Int) s.1 s.2.1 s.2.2.1 s.2.2.2.1 s.2.2.2.2.1 s.2.2.2.2.2
theorem vU(u:Nat)(p0:ar)(s:(List Int)×(List Int)×Int×Int×Int×(List bR))(k:Nat)(hn:p0.fP.length<=9223372036854775807)(hk:p0.fP.length < k):ci u k p0 0 s.1 s.2.1 s.2.2.1 s.2.2.2.1 s.2.2.2.2.1 s.2.2.2.2.2=Pu.bn (nk u p0) (im u p0) p0.fP 0 s:=Pu.bw (λ(k:Nat) (s:(List Int)×(List Int)×Int×Int×Int×(List bR)) (i:Int)=>ci u k p0 i s.1 s.2.1 s.2.2.1 s.2.2.2.1 s.2.2.2.2.1 s.2.2.2.2.2) hn (λ_ _ _=>rfl) s hk
def Bi(u:Nat)(p0:ar):Option ar:=
 (gD u p0).bind λr1=>some r1
def sq(u:Nat)(p0 p1:List Int):Option Bool:=
 bif decide ((p0.length:Int)>=(p1.length:Int)) then (de (dW 0 (p1.length:Int) p0.length)).bind λ_=>(FL u ((p0.take (sY (p1.length:Int))).drop (sY 0)) p1).bind λr2=>some r2 else some false
def kZ(u:Nat)(p0:ar)(q0:Int)(q1:aY):Option Bool:=
 (ga u p0 q0).bind λr1=>(sq u r1 q1.bj).bind λr2=>some r2
def pV(u:Nat)(p3:Int)(p0:ar)(r1 x2:Int)(p1:ae)(p2:aY):Option Bool:=
 bif p3 == 2 then (cf u p0.fP r1).bind λr3=>bif !r3 then (Bi u p0).bind λr4=>(kZ u r4 x2 p2).bind λr5=>some r5 else some false else bif p3 == 3 then bif (p0.fP.length:Int) == 0 then (kZ u p0 x2 p2).bind λr6=>some r6 else some false else bif p3 == 4 then bif (p0.fP.length:Int) == 1 then (ce p0.fP 0).bind λy7=>bif y7.eK == 2 then (ce p0.fP 0).bind λy8=>bif [y8.fR.aN,y8.fR.b9,y8.fR.aV] == [p1.aN,r1,p1.aV] then (kZ u p0 x2 p2).bind λr9=>some r9 else some false else some false else some false else some false
def ub(u:Nat)(p0:ar)(p1:ae)(p2:aY)(p3:Int):Option Bool:=
 (yf u p0).bind λr1=>bif r1 == 1 then pV u p3 p0 r1 1 p1 p2 else pV u p3 p0 r1 0 p1 p2
def mn(u:Nat)(r4 r5:Bool)(y2:ar)(x6:Bool)(y1:aA):Option Bool:=
 bif x6 then bif (y2.fP.length:Int) == 0 then bif r4 then some true else some r5 else some false else bif y1.aH == 1 then bif (y2.fP.length:Int) == 0 then some r4 else some false else bif y1.aH == 5 then bif (y2.fP.length:Int) == 0 then some r5 else some false else bif r4 then (ub u y2 y1.ay y1.aZ y1.aH).bind λr7=>some r7 else some false
def lQ(u:Nat)(p0:World)(p1:Int):Option Bool:=
 (ce p0.fN p1).bind λy1=>(ce p0.fD p1).bind λy2=>(ce p0.cu p1).bind λy3=>(ye u y2 0 y3.fB).bind λr4=>(ye u y2 1 p0.cF).bind λr5=>bif !y1.eh then mn u r4 r5 y2 true y1 else mn u r4 r5 y2 (y1.aH == 0) y1
def uc(u:Nat)(p0:ah)(q0:World):Option Bool:=
 (c7 u q0.fT p0.cM).bind λr1=>bif !r1 then some true else (c7 u q0.fT p0.w9).bind λr2=>some (!r2)
def dd(u:Nat)  : Option Int:=
 some (-1)
def bC(u bA:Nat)(p0:List ah)(p1_0:World)(x2:Int):Option Int:=match bA with
  | 0=>none
  | bA+1=>bif decide (x2 < (p0.length:Int)) then (ce p0 x2).bind λy4=>(uc u y4 p1_0).bind λr5=>bif r5 then some x2 else bC u bA p0 p1_0 (aS .i64 x2 1) else dd u
def cC(u:Nat)(p0:List ah)(p1_0:World):Option Int:=
 bC u u p0 p1_0 0
def jJ(u:Nat)(p0:List ah)(p1_0:World)(s:Unit):Option Int:=dd u
def ed(u:Nat)(p0:List ah)(p1_0:World)(y4:ah)(i_:Nat)(s:Unit)(k_:Unit->Option Int):Option Int:=(uc u y4 p1_0).bind λr5=>bif r5 then some (i_:Int) else k_ ()
theorem jK(u:Nat)(p0:List ah)(p1_0:World)(s:Unit)(k:Nat)(hn:p0.length<=9223372036854775807)(hk:p0.length < k):bC u k p0 p1_0 0=Pu.bn (jJ u p0 p1_0) (ed u p0 p1_0) p0 0 s:=Pu.bw (λ(k:Nat) (s:Unit) (i:Int)=>bC u k p0 p1_0 i) hn (λ_ _ _=>rfl) s hk
def b8(u:Nat)(p0:List ah)(p1_0:World):Option Bool:=
 (cC u p0 p1_0).bind λr1=>some (decide (r1>=0))
def pq(u:Nat)(p0:World):Option Bool:=
 (ce p0.fN 0).bind λy18=>bif y18.eh then (ce p0.fD 0).bind λy19=>(ce p0.cu 0).bind λy20=>(ye u y19 0 y20.fB).bind λr21=>bif r21 then (ce p0.fD 0).bind λy22=>bif (y22.fP.length:Int) == 0 then bif decide ((p0.bM.length:Int)<=400) then (b8 u p0.bM p0).bind λr23=>bif !r23 then bif decide ((p0.dv.length:Int)<=3000) then some (decide (p0.ch>=0)) else some false else some false else some false else some false else some false else some false
def xF(u:Nat)(tz:World->Int->ae->Option Bool)(p0:World)(x8:Int)(x17:Bool)(r6:ae):Option Bool:=
 bif x17 then some false else tz p0 (aS .i64 x8 1) r6
def gP(u:Nat)(tz:World->Int->ae->Option Bool)(x8:Int)(p0:World)(x15:Bool)(r6:ae):Option Bool:=
 bif x15 then some false else bif decide (x8 > 0) then (lQ u p0 x8).bind λr16=>xF u tz p0 x8 (!r16) r6 else xF u tz p0 x8 false r6
def eR(u ey:Nat)(p0:World)(x8:Int)(r6:ae):Option Bool:=match ey with
  | 0=>none
  | ey+1=>bif decide (x8 < (p0.fN.length:Int)) then (ce p0.fN x8).bind λy10=>(yJ u p0.fT x8 y10).bind λr11=>bif !r11 then gP u (eR u ey) x8 p0 true r6 else (ce p0.fD x8).bind λy12=>(lP u y12).bind λr13=>bif !r13 then gP u (eR u ey) x8 p0 true r6 else bif y10.aH != 0 then (rN u y10.ay r6).bind λr14=>gP u (eR u ey) x8 p0 (!r14) r6 else gP u (eR u ey) x8 p0 false r6 else pq u p0
def i9(u:Nat)(x5:Bool)(p0:World):Option Bool:=
 bif x5 then some false else (EA u p0).bind λr6=>eR u u p0 0 r6
def zR(u:Nat)(p0:World):Option Bool:=
 (Ce u p0.fC).bind λr1=>bif !r1 then i9 u true p0 else (rA u p0.fT).bind λr2=>bif !r2 then i9 u true p0 else (pO u p0.fC.aG (p0.cF.length:Int)).bind λr3=>bif !r3 then i9 u true p0 else (t6 u p0.fT p0.cu).bind λr4=>bif !r4 then i9 u true p0 else bif (p0.fN.length:Int) != (p0.fT.bP.length:Int) then i9 u true p0 else i9 u ((p0.fD.length:Int) != (p0.fT.bP.length:Int)) p0
def NQ(u:Nat)(p0:World)(r6:ae)(s:Unit):Option Bool:=pq u p0
def FM(u:Nat)(p0:World)(r6:ae)(y10:aA)(i_:Nat)(s:Unit)(k_:Unit->Option Bool):Option Bool:=(yJ u p0.fT (i_:Int) y10).bind λr11=>bif !r11 then gP u (λz0 z1 z2=>k_ ()) (i_:Int) p0 true r6 else (ce p0.fD (i_:Int)).bind λy12=>(lP u y12).bind λr13=>bif !r13 then gP u (λz0 z1 z2=>k_ ()) (i_:Int) p0 true r6 else bif y10.aH != 0 then (rN u y10.ay r6).bind λr14=>gP u (λz0 z1 z2=>k_ ()) (i_:Int) p0 (!r14) r6 else gP u (λz0 z1 z2=>k_ ()) (i_:Int) p0 false r6
theorem NR(u:Nat)(p0:World)(r6:ae)(s:Unit)(k:Nat)(hn:p0.fN.length<=9223372036854775807)(hk:p0.fN.length < k):eR u k p0 0 r6=Pu.bn (NQ u p0 r6) (FM u p0 r6) p0.fN 0 s:=Pu.bw (λ(k:Nat) (s:Unit) (i:Int)=>eR u k p0 i r6) hn (λ_ _ _=>rfl) s hk
def ny(u:Nat)(p0:List Int):Option (List Int):=
 (de (decide ((([]:List Int).length+p0.length)*8<=140737488355328))).bind λ_=>some (([]:List Int)++p0)
def gQ(u:Nat)(p0:ah):Option ah:=
 (ek u p0.fB).bind λr1=>some (ah.mk p0.cM p0.w9 r1)
def vV(u:Nat)(x9:List ah):Option (List ah):=
 some x9
def kf(u iR:Nat)(x3 p0:List ah)(x4:Int):Option (List ah):=match iR with
  | 0=>none
  | iR+1=>bif decide (x4 < (p0.length:Int)) then (ce p0 x4).bind λy7=>(gQ u y7).bind λr8=>(de (decide ((x3.length+[r8].length)*40<=140737488355328))).bind λ_=>kf u iR (x3++[r8]) p0 (aS .i64 x4 1) else vV u x3
def qW(u:Nat)(p0:List ah):Option (List ah):=
 kf u u ([]:List ah) p0 0
def Ju(u:Nat)(p0:List ah)(s:List ah):Option (List ah):=vV u s
def AU(u:Nat)(p0:List ah)(y7:ah)(i_:Nat)(s:List ah)(k_:List ah->Option (List ah)):Option (List ah):=(gQ u y7).bind λr8=>(de (decide ((s.length+[r8].length)*40<=140737488355328))).bind λ_=>k_ (s++[r8])
theorem Jv(u:Nat)(p0:List ah)(s:List ah)(k:Nat)(hn:p0.length<=9223372036854775807)(hk:p0.length < k):kf u k s p0 0=Pu.bn (Ju u p0) (AU u p0) p0 0 s:=Pu.bw (λ(k:Nat) (s:List ah) (i:Int)=>kf u k s p0 i) hn (λ_ _ _=>rfl) s hk
def ft(u:Nat)(p0:List br):Option (List br):=
 (de (decide ((([]:List br).length+p0.length)*24<=140737488355328))).bind λ_=>some (([]:List br)++p0)
def gl(u:Nat)(p0:List bQ):Option (List bQ):=
 (de (decide ((([]:List bQ).length+p0.length)*16<=140737488355328))).bind λ_=>some (([]:List bQ)++p0)
def vp(u:Nat)(p0:ae):Option ae:=
 (gl u p0.aI).bind λr1=>some (ae.mk p0.aN p0.aG p0.aV r1)
def qX(u:Nat)(p0:aY):Option aY:=
 (ek u p0.bj).bind λr1=>some (aY.mk p0.aT r1)
def c8(u:Nat)(p0:List Kid):Option (List Kid):=
 (de (decide ((([]:List Kid).length+p0.length)*40<=140737488355328))).bind λ_=>some (([]:List Kid)++p0)
def fc(u:Nat)(p0:aA):Option aA:=
 (vp u p0.ay).bind λr1=>(qX u p0.aZ).bind λr2=>(c8 u p0.aW).bind λr3=>some (aA.mk p0.eh p0.bh p0.ba r1 r2 p0.aH r3 p0.a7)
def zS(u:Nat)(p0:World)(r1:List Int)(r2:List Int)(x13:List aM)(x22:List aA)(x31:List ar)(r3:List ah)(r4:List br):Option World:=
 some (World.mk p0.fC (bV.mk r1) r2 x13 x22 x31 r3 r4 p0.ch)
def mp(u kj:Nat)(p0:World)(x25:Int)(r1:List Int)(r2:List Int)(x13:List aM)(x22:List aA)(x26:List ar)(r3:List ah)(r4:List br):Option World:=match kj with
  | 0=>none
  | kj+1=>bif decide (x25 < (p0.fD.length:Int)) then (ce p0.fD x25).bind λy29=>(dP u y29).bind λr30=>(de (decide ((x26.length+[r30].length)*96<=140737488355328))).bind λ_=>mp u kj p0 (aS .i64 x25 1) r1 r2 x13 x22 (x26++[r30]) r3 r4 else zS u p0 r1 r2 x13 x22 x26 r3 r4
def tn(u:Nat)(p0:World)(r1:List Int)(r2:List Int)(x13:List aM)(x22:List aA)(r3:List ah)(r4:List br):Option World:=
 mp u u p0 0 r1 r2 x13 x22 [] r3 r4
def mq(u kl:Nat)(p0:World)(x16:Int)(r1:List Int)(r2:List Int)(x13:List aM)(x17:List aA)(r3:List ah)(r4:List br):Option World:=match kl with
  | 0=>none
  | kl+1=>bif decide (x16 < (p0.fN.length:Int)) then (ce p0.fN x16).bind λy20=>(fc u y20).bind λr21=>(de (decide ((x17.length+[r21].length)*144<=140737488355328))).bind λ_=>mq u kl p0 (aS .i64 x16 1) r1 r2 x13 (x17++[r21]) r3 r4 else tn u p0 r1 r2 x13 x17 r3 r4
def tp(u:Nat)(p0:World)(r1:List Int)(r2:List Int)(x13:List aM)(r3:List ah)(r4:List br):Option World:=
 mq u u p0 0 r1 r2 x13 [] r3 r4
def ms(u km:Nat)(p0:World)(x7:Int)(r1:List Int)(r2:List Int)(x8:List aM)(r3:List ah)(r4:List br):Option World:=match km with
  | 0=>none
  | km+1=>bif decide (x7 < (p0.cu.length:Int)) then (ce p0.cu x7).bind λy11=>(ek u y11.fB).bind λr12=>(de (decide ((x8.length+([(aM.mk r12)]).length)*24<=140737488355328))).bind λ_=>ms u km p0 (aS .i64 x7 1) r1 r2 (x8++([(aM.mk r12)])) r3 r4 else tp u p0 r1 r2 x8 r3 r4
def ud(u:Nat)(p0:World):Option World:=
 (ny u p0.fT.bP).bind λr1=>(ek u p0.cF).bind λr2=>(qW u p0.bM).bind λr3=>(ft u p0.dv).bind λr4=>ms u u p0 0 r1 r2 [] r3 r4
def Ld(u:Nat)(p0:World)(r1:List Int)(r2:List Int)(x13:List aM)(x22:List aA)(r3:List ah)(r4:List br)(s:List ar):Option World:=zS u p0 r1 r2 x13 x22 s r3 r4
def Dv(u:Nat)(p0:World)(r1:List Int)(r2:List Int)(x13:List aM)(x22:List aA)(r3:List ah)(r4:List br)(y29:ar)(i_:Nat)(s:List ar)(k_:List ar->Option World):Option World:=(dP u y29).bind λr30=>(de (decide ((s.length+[r30].length)*96<=140737488355328))).bind λ_=>k_ (s++[r30])
theorem Lf(u:Nat)(p0:World)(r1:List Int)(r2:List Int)(x13:List aM)(x22:List aA)(r3:List ah)(r4:List br)(s:List ar)(k:Nat)(hn:p0.fD.length<=9223372036854775807)(hk:p0.fD.length < k):mp u k p0 0 r1 r2 x13 x22 s r3 r4=Pu.bn (Ld u p0 r1 r2 x13 x22 r3 r4) (Dv u p0 r1 r2 x13 x22 r3 r4) p0.fD 0 s:=Pu.bw (λ(k:Nat) (s:List ar) (i:Int)=>mp u k p0 i r1 r2 x13 x22 s r3 r4) hn (λ_ _ _=>rfl) s hk
def Dw(u:Nat)(p0:World)(r1:List Int)(r2:List Int)(x13:List aM)(r3:List ah)(r4:List br)(s:List aA):Option World:=tn u p0 r1 r2 x13 s r3 r4
def Dx(u:Nat)(p0:World)(r1:List Int)(r2:List Int)(x13:List aM)(r3:List ah)(r4:List br)(y20:aA)(i_:Nat)(s:List aA)(k_:List aA->Option World):Option World:=(fc u y20).bind λr21=>(de (decide ((s.length+[r21].length)*144<=140737488355328))).bind λ_=>k_ (s++[r21])
theorem Lg(u:Nat)(p0:World)(r1:List Int)(r2:List Int)(x13:List aM)(r3:List ah)(r4:List br)(s:List aA)(k:Nat)(hn:p0.fN.length<=9223372036854775807)(hk:p0.fN.length < k):mq u k p0 0 r1 r2 x13 s r3 r4=Pu.bn (Dw u p0 r1 r2 x13 r3 r4) (Dx u p0 r1 r2 x13 r3 r4) p0.fN 0 s:=Pu.bw (λ(k:Nat) (s:List aA) (i:Int)=>mq u k p0 i r1 r2 x13 s r3 r4) hn (λ_ _ _=>rfl) s hk
def Dy(u:Nat)(p0:World)(r1:List Int)(r2:List Int)(r3:List ah)(r4:List br)(s:List aM):Option World:=tp u p0 r1 r2 s r3 r4
def Dz(u:Nat)(p0:World)(r1:List Int)(r2:List Int)(r3:List ah)(r4:List br)(y11:aM)(i_:Nat)(s:List aM)(k_:List aM->Option World):Option World:=(ek u y11.fB).bind λr12=>(de (decide ((s.length+([(aM.mk r12)]).length)*24<=140737488355328))).bind λ_=>k_ (s++([(aM.mk r12)]))
theorem Lh(u:Nat)(p0:World)(r1:List Int)(r2:List Int)(r3:List ah)(r4:List br)(s:List aM)(k:Nat)(hn:p0.cu.length<=9223372036854775807)(hk:p0.cu.length < k):ms u k p0 0 r1 r2 s r3 r4=Pu.bn (Dy u p0 r1 r2 r3 r4) (Dz u p0 r1 r2 r3 r4) p0.cu 0 s:=Pu.bw (λ(k:Nat) (s:List aM) (i:Int)=>ms u k p0 i r1 r2 s r3 r4) hn (λ_ _ _=>rfl) s hk
def tg(u:Nat)  : Option Bool:=
 some true
def eI(u:Nat)(H3:World->Int->Option Bool)(p0:World)(x2:Int)(x5:Bool):Option Bool:=
 bif x5 then some false else H3 p0 (aS .i64 x2 1)
def d3(u dB:Nat)(p0:World)(x2:Int):Option Bool:=match dB with
  | 0=>none
  | dB+1=>bif decide (x2 < (p0.fN.length:Int)) then (ce p0.fN x2).bind λy4=>bif decide (x2 > 0) then bif y4.eh then eI u (d3 u dB) p0 x2 (y4.aH != 5) else eI u (d3 u dB) p0 x2 false else eI u (d3 u dB) p0 x2 false else tg u
def k6(u:Nat)(p0:World):Option Bool:=
 d3 u u p0 0
def Hk(u:Nat)(p0:World)(s:Unit):Option Bool:=tg u
def yK(u:Nat)(p0:World)(y4:aA)(i_:Nat)(s:Unit)(k_:Unit->Option Bool):Option Bool:=bif decide ((i_:Int) > 0) then bif y4.eh then eI u (λz0 z1=>k_ ()) p0 (i_:Int) (y4.aH != 5) else eI u (λz0 z1=>k_ ()) p0 (i_:Int) false else eI u (λz0 z1=>k_ ()) p0 (i_:Int) false
theorem Hl(u:Nat)(p0:World)(s:Unit)(k:Nat)(hn:p0.fN.length<=9223372036854775807)(hk:p0.fN.length < k):d3 u k p0 0=Pu.bn (Hk u p0) (yK u p0) p0.fN 0 s:=Pu.bw (λ(k:Nat) (s:Unit) (i:Int)=>d3 u k p0 i) hn (λ_ _ _=>rfl) s hk
def kK(u:Nat)(r1 r2:Bool)(p0:World)(p1:AT)(x3:Bool):Option Bool:=
 bif x3 then some r2 else bif p1.bp == 4 then bif r2 then some (decide ((p0.bM.length:Int) < 400)) else some false else bif p1.bp == 5 then bif r1 then bif decide (p1.fN > 0) then (ce p0.fN p1.fN).bind λy4=>some y4.eh else some false else some false else bif p1.bp == 6 then bif r1 then (ce p0.fN p1.fN).bind λy5=>some (!y5.eh) else some false else bif p1.bp == 7 then (c7 u p0.fT p1.fP.cM).bind λr6=>bif r6 then (c7 u p0.fT p1.fP.w9).bind λr7=>bif r7 then some (decide ((p0.bM.length:Int) < 400)) else some false else some false else some false
def j1(u:Nat)(p0:World)(p1:AT):Option Bool:=
 (c7 u p0.fT p1.fN).bind λr1=>(bN u p1.fN 0 (cJ .i64 (p0.bM.length:Int) 1)).bind λr2=>bif p1.bp == 1 then some r1 else bif p1.bp == 2 then kK u r1 r2 p0 p1 (p1.bp == 2) else kK u r1 r2 p0 p1 (p1.bp == 3)
def EE(u:Nat)(x9:List Kid):Option (List Kid):=
 some x9
def qY(u:Nat)(Sl:Int->List Kid->List Kid->Int->Option (List Kid))(p1:Int)(x8 p0:List Kid)(x4:Int):Option (List Kid):=
 Sl p1 x8 p0 (aS .i64 x4 1)
def lR(u jq:Nat)(p1:Int)(x3 p0:List Kid)(x4:Int):Option (List Kid):=match jq with
  | 0=>none
  | jq+1=>bif decide (x4 < (p0.length:Int)) then (ce p0 x4).bind λy7=>bif decide (y7.mg < p1) then (de (decide ((x3.length+([(Kid.mk y7.gj y7.bJ y7.bG (aS .i64 y7.mg 1) 0)]).length)*40<=140737488355328))).bind λ_=>qY u (lR u jq) p1 (x3++([(Kid.mk y7.gj y7.bJ y7.bG (aS .i64 y7.mg 1) 0)])) p0 x4 else qY u (lR u jq) p1 x3 p0 x4 else EE u x3
def Ci(u:Nat)(p0:List Kid)(p1:Int):Option (List Kid):=
 lR u u p1 ([]:List Kid) p0 0
def QB(u:Nat)(p1:Int)(p0:List Kid)(s:List Kid):Option (List Kid):=EE u s
def Hm(u:Nat)(p1:Int)(p0:List Kid)(y7:Kid)(i_:Nat)(s:List Kid)(k_:List Kid->Option (List Kid)):Option (List Kid):=bif decide (y7.mg < p1) then (de (decide ((s.length+([(Kid.mk y7.gj y7.bJ y7.bG (aS .i64 y7.mg 1) 0)]).length)*40<=140737488355328))).bind λ_=>qY u (λz0 z1 z2 z3=>k_ z1) p1 (s++([(Kid.mk y7.gj y7.bJ y7.bG (aS .i64 y7.mg 1) 0)])) p0 (i_:Int) else qY u (λz0 z1 z2 z3=>k_ z1) p1 s p0 (i_:Int)
theorem QC(u:Nat)(p1:Int)(p0:List Kid)(s:List Kid)(k:Nat)(hn:p0.length<=9223372036854775807)(hk:p0.length < k):lR u k p1 s p0 0=Pu.bn (QB u p1 p0) (Hm u p1 p0) p0 0 s:=Pu.bw (λ(k:Nat) (s:List Kid) (i:Int)=>lR u k p1 s p0 i) hn (λ_ _ _=>rfl) s hk
def vq(u:Nat)(p1 p2:Int)(x5:Bool)(p0:bV):Option Int:=
 bif x5 then (ce p0.bP p1).bind λy6=>some y6 else (ce p0.bP p2).bind λy7=>some y7
def qZ(u:Nat)(p1 p2:Int)(x3:Bool)(p0:bV):Option Int:=
 bif x3 then some (-1) else bif p2 == 0 then vq u p1 p2 true p0 else (qi u p0 p2 p1).bind λr4=>vq u p1 p2 (!r4) p0
def wJ(u:Nat)(p0:bV)(p1 p2:Int):Option Int:=
 (rA u p0).bind λr1=>bif !r1 then qZ u p1 p2 true p0 else bif p1 == 0 then qZ u p1 p2 true p0 else (c7 u p0 p1).bind λr2=>qZ u p1 p2 (!r2) p0
def EF(u:Nat)(p0:ae)(p1:aY):Option Bool:=
 bif p0.aN != 0 then (pT u p0 p1).bind λr1=>bif r1 then (rM u p0 p1).bind λr2=>some (r2 == 0) else some false else some false
def pr(u:Nat)(p0:ar)(p1:bR):Option (ar×Bool):=
 (dP u p0).bind λr1=>(pU u p1).bind λr2=>(de (decide ((r1.fP.length+[r2].length)*64<=140737488355328))).bind λ_=>(lP u (ar.mk r1.fA r1.fB r1.fR (r1.fP++[r2]))).bind λr4=>bif !r4 then (dP u p0).bind λr5=>some (r5,false) else some ((ar.mk r1.fA r1.fB r1.fR (r1.fP++[r2])),true)
def s0(u:Nat)(p0:ar)(p1 p2:Int)(p3:List Int):Option (ar×Bool):=
 (t9 u p1).bind λr1=>bif !r1 then (dP u p0).bind λr2=>some (r2,false) else (pr u p0 (bR.mk p1 p2 p3 (ct.mk 0 0 0))).bind λr3=>some (r3.1,r3.2)
def Bj(u:Nat)(x32 x33:List Int)(x34 x35 x36:Int)(x37:List bR):Option (ar×Bool):=
 some ((ar.mk x32 x33 (ct.mk x34 x35 x36) x37),true)
def gZ(u lg:Nat)(p1:List Int)(p2 r6 x14:Int)(x15 x16:List Int)(x17 x18 x19:Int)(x20:List bR)(p0:ar):Option (ar×Bool):=match lg with
  | 0=>none
  | lg+1=>bif decide (x14 < r6) then (pQ u p1 p2 x14).bind λr28=>(yf u p0).bind λr29=>(s0 u (ar.mk x15 x16 (ct.mk x17 x18 x19) x20) r29 (ip .i64 x14 p2) r28.1).bind λr30=>bif !r30.2 then (dP u p0).bind λr31=>some (r31,false) else gZ u lg p1 p2 r6 (aS .i64 x14 1) r30.1.fA r30.1.fB r30.1.fR.aN r30.1.fR.b9 r30.1.fR.aV r30.1.fP p0 else Bj u x15 x16 x17 x18 x19 x20
def q5(u:Nat)(p1:List Int)(p2:Int)(x3:Bool)(p0:ar):Option (ar×Bool):=
 bif x3 then (dP u p0).bind λr4=>some (r4,false) else (dP u p0).bind λr5=>(pP u p2 (p1.length:Int)).bind λr6=>gZ u u p1 p2 r6 0 r5.fA r5.fB r5.fR.aN r5.fR.b9 r5.fR.aV r5.fP p0
def wK(u:Nat)(p0:ar)(p1:List Int)(p2:Int):Option (ar×Bool):=
 (lP u p0).bind λr1=>bif !r1 then q5 u p1 p2 true p0 else bif decide ((p0.fP.length:Int) > 0) then q5 u p1 p2 true p0 else (pO u p2 (p1.length:Int)).bind λr2=>q5 u p1 p2 (!r2) p0
def Mi(u:Nat)(p1:List Int)(p2 r6:Int)(p0:ar)(s:(List Int)×(List Int)×Int×Int×Int×(List bR)):Option (ar×Bool):=Bj u s.1 s.2.1 s.2.2.1 s.2.2.2.1 s.2.2.2.2.1 s.2.2.2.2.2
def Mj(u:Nat)(p1:List Int)(p2 r6:Int)(p0:ar)(i_:Nat)(s:(List Int)×(List Int)×Int×Int×Int×(List bR))(k_:((List Int)×(List Int)×Int×Int×Int×(List bR))->Option (ar×Bool)):Option (ar×Bool):=(pQ u p1 p2 (i_:Int)).bind λr28=>(yf u p0).bind λr29=>(s0 u (ar.mk s.1 s.2.1 (ct.mk s.2.2.1 s.2.2.2.1 s.2.2.2.2.1) s.2.2.2.2.2) r29 (ip .i64 (i_:Int) p2) r28.1).bind λr30=>bif !r30.2 then (dP u p0).bind λr31=>some (r31,false) else k_ (r30.1.fA,r30.1.fB,r30.1.fR.aN,r30.1.fR.b9,r30.1.fR.aV,r30.1.fP)
theorem qcm(u:Nat)(p1:List Int)(p2 r6:Int)(p0:ar)(s:(List Int)×(List Int)×Int×Int×Int×(List bR))(k:Nat)(hn:(r6:Int)<=9223372036854775807)(hk:sY r6 < k):gZ u k p1 p2 r6 0 s.1 s.2.1 s.2.2.1 s.2.2.2.1 s.2.2.2.2.1 s.2.2.2.2.2 p0=Pu.qn (Mi u p1 p2 r6 p0) (Mj u p1 p2 r6 p0) (sY r6) 0 s:=Pu.o3 (λ(k:Nat) (s:(List Int)×(List Int)×Int×Int×Int×(List bR)) (i:Int)=>gZ u k p1 p2 r6 i s.1 s.2.1 s.2.2.1 s.2.2.2.1 s.2.2.2.2.1 s.2.2.2.2.2 p0) hn (λ_ _ _=>rfl) s hk
def ue(u:Nat)(p0:ar)(p1:ct):Option (ar×Bool):=
 (pr u p0 (bR.mk 2 0 [] p1)).bind λr1=>some (r1.1,r1.2)
def k7(u:Nat)(p3:Int)(p0:ar):Option (ar×Int):=
 (dP u p0).bind λr7=>some (r7,p3)
def su(u:Nat)(p0:ar)(p1:ae)(p2:aY)(p3:Int):Option (ar×Int):=
 bif p3 == 1 then (EF u p1 p2).bind λr1=>bif !r1 then k7 u p3 p0 else (wK u p0 p2.bj p1.aG).bind λr2=>bif r2.2 then some (r2.1,2) else k7 u p3 p0 else bif p3 == 2 then (Bi u p0).bind λr3=>some (r3,3) else bif p3 == 3 then (yf u p0).bind λr4=>(ue u p0 (ct.mk p1.aN r4 p1.aV)).bind λr5=>bif r5.2 then some (r5.1,4) else k7 u p3 p0 else bif p3 == 4 then (Bi u p0).bind λr6=>some (r6,5) else k7 u p3 p0
def Cj(u:Nat)(p0:aA):Option Int:=
 bif p0.aH == 0 then some 0 else (rM u p0.ay p0.aZ).bind λr1=>some r1
def xG(u:Nat)(x9:List Int):Option (List Int):=
 some x9
def mW(u:Nat)(PW:Int->List Int->Int->Option (List Int))(p0:Int)(x8:List Int)(x4:Int):Option (List Int):=
 PW p0 x8 (aS .i64 x4 1)
def kD(u iE:Nat)(p0:Int)(x3:List Int)(x4:Int):Option (List Int):=match iE with
  | 0=>none
  | iE+1=>bif decide (x4 < 40) then (f9 u p0 x4).bind λr7=>bif r7 then (de (decide ((x3.length+([x4]:List Int).length)*8<=140737488355328))).bind λ_=>mW u (kD u iE) p0 (x3++([x4]:List Int)) x4 else mW u (kD u iE) p0 x3 x4 else xG u x3
def vt(u:Nat)(p0:Int):Option (List Int):=
 kD u u p0 ([]:List Int) 0
def FN(u:Nat)(p0:Int)(s:List Int):Option (List Int):=xG u s
def FO(u:Nat)(p0:Int)(i_:Nat)(s:List Int)(k_:List Int->Option (List Int)):Option (List Int):=(f9 u p0 (i_:Int)).bind λr7=>bif r7 then (de (decide ((s.length+([(i_:Int)]:List Int).length)*8<=140737488355328))).bind λ_=>mW u (λz0 z1 z2=>k_ z1) p0 (s++([(i_:Int)]:List Int)) (i_:Int) else mW u (λz0 z1 z2=>k_ z1) p0 s (i_:Int)
theorem NS(u:Nat)(p0:Int)(s:List Int)(k:Nat)(hn:(40:Int)<=9223372036854775807)(hk:sY 40 < k):kD u k p0 s 0=Pu.qn (FN u p0) (FO u p0) (sY 40) 0 s:=Pu.o3 (λ(k:Nat) (s:List Int) (i:Int)=>kD u k p0 s i) hn (λ_ _ _=>rfl) s hk
def sv(u:Nat)(x12:Int):Option Int:=
 some x12
def pt(u mB:Nat)(x5 x6:Int)(r1:List Int)(x7:Int):Option Int:=match mB with
  | 0=>none
  | mB+1=>bif decide (x7 < (r1.length:Int)) then (ce r1 x7).bind λy11=>bif decide (x5 < 1) then sv u x6 else (de (decide (0<=y11))).bind λ_=>pt u mB (cJ .i64 x5 1) (sC .i64 x6 (iq .i64 1 y11)) r1 (aS .i64 x7 1) else sv u x6
def zT(u:Nat)(p0 p1:Int):Option Int:=
 (vt u p0).bind λr1=>pt u u p1 0 r1 0
def FP(u:Nat)(r1:List Int)(s:Int×Int):Option Int:=sv u s.2
def zU(u:Nat)(r1:List Int)(y11:Int)(i_:Nat)(s:Int×Int)(k_:(Int×Int)->Option Int):Option Int:=bif decide (s.1 < 1) then sv u s.2 else (de (decide (0<=y11))).bind λ_=>k_ (cJ .i64 s.1 1,sC .i64 s.2 (iq .i64 1 y11))
theorem NT(u:Nat)(r1:List Int)(s:Int×Int)(k:Nat)(hn:r1.length<=9223372036854775807)(hk:r1.length < k):pt u k s.1 s.2 r1 0=Pu.bn (FP u r1) (zU u r1) r1 0 s:=Pu.bw (λ(k:Nat) (s:Int×Int) (i:Int)=>pt u k s.1 s.2 r1 i) hn (λ_ _ _=>rfl) s hk
def Ck(u:Nat)(p0:aA)(p1:Int):Option Int:=
 (Cj u p0).bind λr1=>(zT u r1 p1).bind λr2=>some r2
def wL(u:Nat)(p0:Kid):Option Int:=
 some p0.bG
def k8(u:Nat)(x11:Int):Option Int:=
 some x11
def dR(u:Nat)(AS:Int->List Kid->Int->Option Int)(x10:Int)(p0:List Kid)(x4:Int):Option Int:=
 AS x10 p0 (aS .i64 x4 1)
def cR(u cI:Nat)(x3:Int)(p0:List Kid)(x4:Int):Option Int:=match cI with
  | 0=>none
  | cI+1=>bif decide (x4 < (p0.length:Int)) then (ce p0 x4).bind λy7=>(wL u y7).bind λr8=>(dt u r8).bind λr9=>bif r9 then dR u (cR u cI) (sC .i64 x3 r8) p0 x4 else dR u (cR u cI) x3 p0 x4 else k8 u x3
def jA(u:Nat)(p0:List Kid):Option Int:=
 cR u u 0 p0 0
def pW(u:Nat)(p0:List Kid)(s:Int):Option Int:=k8 u s
def j2(u:Nat)(p0:List Kid)(y7:Kid)(i_:Nat)(s:Int)(k_:Int->Option Int):Option Int:=(wL u y7).bind λr8=>(dt u r8).bind λr9=>bif r9 then dR u (λz0 z1 z2=>k_ z0) (sC .i64 s r8) p0 (i_:Int) else dR u (λz0 z1 z2=>k_ z0) s p0 (i_:Int)
theorem zV(u:Nat)(p0:List Kid)(s:Int)(k:Nat)(hn:p0.length<=9223372036854775807)(hk:p0.length < k):cR u k s p0 0=Pu.bn (pW u p0) (j2 u p0) p0 0 s:=Pu.bw (λ(k:Nat) (s i:Int)=>cR u k s p0 i) hn (λ_ _ _=>rfl) s hk
def Cl(u:Nat)(p0:List Kid):Option Int:=
 (jA u p0).bind λr1=>some r1
def vu(u:Nat)(p0 p1:Int)(x3:Bool):Option Int:=
 bif x3 then some p0 else (de (decide (0<=p1))).bind λ_=>some (sC .i64 p0 (iq .i64 1 p1))
def wM(u:Nat)(p0 p1:Int):Option Int:=
 (dt u p0).bind λr1=>bif !r1 then vu u p0 p1 true else (pS u p1).bind λr2=>vu u p0 p1 (!r2)
def xH(u:Nat)(x3:Int):Option Int:=
 some x3
def zW(u:Nat)(p0:aA)(p1:Int):Option Int:=
 (Cl u p0.aW).bind λr1=>bif p0.aH == 5 then (wM u r1 p1).bind λr2=>xH u r2 else xH u r1
def DR(u:Nat)(p0 p1 p2:Int):Option eC:=
 some (eC.mk 2 p0 (ae.mk 0 0 0 []) p1 p2 0 [])
def k9(u:Nat)(p0:eC)(p1 p2 p3:Bool):Option Bool:=
 bif p1 then bif p2 then bif p3 then some true else bif p0.fI == 0 then some ((p0.fB.length:Int) == 0) else some false else bif p0.bJ == 0 then bif p0.bG == 0 then bif p3 then some true else bif p0.fI == 0 then some ((p0.fB.length:Int) == 0) else some false else some false else some false else (jY u p0.ay).bind λr1=>bif r1 then bif p2 then bif p3 then some true else bif p0.fI == 0 then some ((p0.fB.length:Int) == 0) else some false else bif p0.bJ == 0 then bif p0.bG == 0 then bif p3 then some true else bif p0.fI == 0 then some ((p0.fB.length:Int) == 0) else some false else some false else some false else some false
def Bk(u:Nat)(p0:eC):Option Bool:=
 bif p0.bp == 1 then (oH u p0.ay).bind λr1=>bif r1 then bif p0.ay.aN != 0 then bif p0.aN == 0 then (k9 u p0 true false false).bind λr2=>some r2 else some false else some false else some false else bif p0.bp == 2 then (yd u p0.aN).bind λr3=>bif r3 then (dt u p0.bJ).bind λr4=>bif r4 then (dt u p0.bG).bind λr5=>bif r5 then (k9 u p0 false true false).bind λr6=>some r6 else some false else some false else some false else bif p0.bp == 3 then (bN u p0.aN 1 1000000).bind λr7=>bif r7 then (pS u p0.fI).bind λr8=>bif r8 then (bN u (p0.fB.length:Int) 1 6).bind λr9=>bif r9 then (k9 u p0 false false true).bind λr10=>some r10 else some false else some false else some false else bif p0.bp == 4 then (yd u p0.aN).bind λr11=>bif r11 then (k9 u p0 false false false).bind λr12=>some r12 else some false else some false
def tq(u:Nat)(x7:List Int)(x8:Int):Option (List Int):=
 (de (decide ((x7.length+([zm .u8 x8]:List Int).length)*1<=140737488355328))).bind λ_=>some (x7++([zm .u8 x8]:List Int))
def j3(u ki:Nat)(x3:List Int)(x4:Int):Option (List Int):=match ki with
  | 0=>none
  | ki+1=>bif decide (x4>=128) then (de (decide ((x3.length+([sC .u8 (zm .u8 x4) 128]:List Int).length)*1<=140737488355328))).bind λ_=>j3 u ki (x3++([sC .u8 (zm .u8 x4) 128]:List Int)) (qm .i64 x4 7) else tq u x3 x4
def q6(u:Nat)(p0:List Int)(p1:Int):Option (List Int):=
 j3 u u p0 p1
def fZ(u:Nat)(p0:List Int)(p1:Int):Option (List Int):=
 (ek u p0).bind λr1=>(bN u p1 0 1000000000000).bind λr2=>bif !r2 then some r1 else (q6 u r1 p1).bind λr3=>some r3
def EG(u:Nat)(x14:List Int):Option (List Int):=
 some x14
def q7(u nY:Nat)(x8:List Int)(p1:ae)(x9:Int):Option (List Int):=match nY with
  | 0=>none
  | nY+1=>bif decide (x9 < (p1.aI.length:Int)) then (ce p1.aI x9).bind λy12=>(q6 u x8 y12.fS).bind λr13=>q7 u nY r13 p1 (aS .i64 x9 1) else EG u x8
def Cm(u:Nat)(p0:List Int)(p1:ae):Option (List Int):=
 (oH u p1).bind λr1=>bif !r1 then (ek u p0).bind λr2=>some r2 else (fZ u p0 p1.aN).bind λr3=>(fZ u r3 p1.aG).bind λr4=>(fZ u r4 p1.aV).bind λr5=>q7 u u r5 p1 0
def Hn(u:Nat)(p1:ae)(s:List Int):Option (List Int):=EG u s
def Bl(u:Nat)(p1:ae)(y12:bQ)(i_:Nat)(s:List Int)(k_:List Int->Option (List Int)):Option (List Int):=(q6 u s y12.fS).bind λr13=>k_ r13
theorem QD(u:Nat)(p1:ae)(s:List Int)(k:Nat)(hn:p1.aI.length<=9223372036854775807)(hk:p1.aI.length < k):q7 u k s p1 0=Pu.bn (Hn u p1) (Bl u p1) p1.aI 0 s:=Pu.bw (λ(k:Nat) (s:List Int) (i:Int)=>q7 u k s p1 i) hn (λ_ _ _=>rfl) s hk
def Cn(u:Nat)(p0:List Int)(p1:Int):Option (List Int):=
 (fZ u p0 (gU .i64 p1 1048575)).bind λr1=>(fZ u r1 (qm .i64 p1 20)).bind λr2=>some r2
def DS(u:Nat)(p0 p1:List Int):Option (List Int):=
 (fZ u p0 (p1.length:Int)).bind λr1=>(de (decide ((r1.length+p1.length)*1<=140737488355328))).bind λ_=>some (r1++p1)
def lS(u:Nat)(x11:List Int):Option (List Int):=
 (rB u x11).bind λr12=>(fZ u x11 r12).bind λr13=>some r13
def yL(u:Nat)(p0:eC):Option (List Int):=
 (Bk u p0).bind λr1=>bif !r1 then some [] else (fZ u [] p0.bp).bind λr2=>bif p0.bp == 1 then (Cm u r2 p0.ay).bind λr3=>lS u r3 else bif p0.bp == 2 then (fZ u r2 p0.aN).bind λr4=>(Cn u r4 p0.bJ).bind λr5=>(Cn u r5 p0.bG).bind λr6=>lS u r6 else bif p0.bp == 3 then (fZ u r2 p0.aN).bind λr7=>(fZ u r7 p0.fI).bind λr8=>(DS u r8 p0.fB).bind λr9=>lS u r9 else bif p0.bp == 4 then (fZ u r2 p0.aN).bind λr10=>lS u r10 else lS u r2
def jN(u:Nat)(p0 p1:Int)(p2:eC):Option ah:=
 (yL u p2).bind λr1=>some (ah.mk p0 p1 r1)
def zX(u:Nat)(p2:Int)(p1:eG)(p3:aA)(p4:ar)(r1:aA)(x5 x6:Int)(r3:List Kid)(r2:ar):Option H5:=
 (su u p4 p3.ay p3.aZ p3.aH).bind λr7=>(Ck u (aA.mk r1.eh x5 x6 r1.ay r1.aZ r7.2 r3 r1.a7) p1.bi).bind λr8=>(zW u (aA.mk r1.eh x5 x6 r1.ay r1.aZ r7.2 r3 r1.a7) p2).bind λr9=>(DR u p3.ay.aN r8 r9).bind λr10=>(jN u p2 x5 r10).bind λr11=>some (H5.mk (aA.mk r1.eh x5 x6 r1.ay r1.aZ r7.2 r3 r1.a7) r7.1 [r11])
def Ho(u:Nat)(p0:bV)(p1:eG)(p2:Int)(p3:aA)(p4:ar):Option H5:=
 (fc u p3).bind λr1=>(dP u p4).bind λr2=>bif !p3.eh then some (H5.mk r1 r2 []) else (Ci u p3.aW p1.bd).bind λr3=>bif p2 == 0 then some (H5.mk (aA.mk r1.eh r1.bh r1.ba r1.ay r1.aZ r1.aH r3 r1.a7) r2 []) else bif decide (p3.ba>=p1.a9) then (wJ u p0 p2 p3.bh).bind λr4=>zX u p2 p1 p3 p4 r1 r4 0 r3 r2 else zX u p2 p1 p3 p4 r1 r1.bh (aS .i64 r1.ba 1) r3 r2
def xI(u:Nat)  : Option (Int×Int×Bool):=
 some (0,0,false)
def gR(u mC:Nat)(p0:List Int)(p1 x3:Int)(p2 x4:Int):Option (Int×Int×Bool):=match mC with
  | 0=>none
  | mC+1=>bif decide (x4 < p2) then (bN u p1 0 (cJ .i64 (cJ .i64 (p0.length:Int) 1) x4)).bind λr7=>bif !r7 then some (0,0,false) else (ce p0 (aS .i64 p1 x4)).bind λy8=>(de (decide (0<=(ip .i64 7 x4)))).bind λ_=>bif decide (zm .i64 y8 < 128) then bif x4 == 0 then some (sC .i64 x3 (iq .i64 (gU .i64 (zm .i64 y8) 127) (ip .i64 7 x4)),aS .i64 (aS .i64 p1 x4) 1,true) else some (sC .i64 x3 (iq .i64 (gU .i64 (zm .i64 y8) 127) (ip .i64 7 x4)),aS .i64 (aS .i64 p1 x4) 1,decide (zm .i64 y8 > 0)) else gR u mC p0 p1 (sC .i64 x3 (iq .i64 (gU .i64 (zm .i64 y8) 127) (ip .i64 7 x4))) p2 (aS .i64 x4 1) else xI u
def rP(u:Nat)(p0:List Int)(p1 p2:Int):Option (Int×Int×Bool):=
 gR u u p0 p1 0 p2 0
def NU(u:Nat)(p0:List Int)(p1 p2 s:Int):Option (Int×Int×Bool):=xI u
def NV(u:Nat)(p0:List Int)(p1 p2:Int)(i_:Nat)(s:Int)(k_:Int->Option (Int×Int×Bool)):Option (Int×Int×Bool):=(bN u p1 0 (cJ .i64 (cJ .i64 (p0.length:Int) 1) (i_:Int))).bind λr7=>bif !r7 then some (0,0,false) else (ce p0 (aS .i64 p1 (i_:Int))).bind λy8=>(de (decide (0<=(ip .i64 7 (i_:Int))))).bind λ_=>bif decide (zm .i64 y8 < 128) then bif (i_:Int) == 0 then some (sC .i64 s (iq .i64 (gU .i64 (zm .i64 y8) 127) (ip .i64 7 (i_:Int))),aS .i64 (aS .i64 p1 (i_:Int)) 1,true) else some (sC .i64 s (iq .i64 (gU .i64 (zm .i64 y8) 127) (ip .i64 7 (i_:Int))),aS .i64 (aS .i64 p1 (i_:Int)) 1,decide (zm .i64 y8 > 0)) else k_ (sC .i64 s (iq .i64 (gU .i64 (zm .i64 y8) 127) (ip .i64 7 (i_:Int))))
theorem qdH(u:Nat)(p0:List Int)(p1 p2 s:Int)(k:Nat)(hn:(p2:Int)<=9223372036854775807)(hk:sY p2 < k):gR u k p0 p1 s p2 0=Pu.qn (NU u p0 p1 p2) (NV u p0 p1 p2) (sY p2) 0 s:=Pu.o3 (λ(k:Nat) (s i:Int)=>gR u k p0 p1 s p2 i) hn (λ_ _ _=>rfl) s hk
def uf(u:Nat)(r1:Int×Int×Bool)(x2:Bool):Option (Int×Int×Bool):=
 bif x2 then some (0,0,false) else some (r1.1,r1.2.1,true)
def pX(u:Nat)(p0:List Int)(p1:Int):Option (Int×Int×Bool):=
 (rP u p0 p1 6).bind λr1=>bif !r1.2.2 then uf u r1 true else uf u r1 (decide (r1.1 > 1000000000000))
def vw(u:Nat)(x11:Int)(x12:List Int):Option ((List Int)×Int×Bool):=
 some (x12,x11,true)
def g9(u li:Nat)(p0:List Int)(x4:Int)(x5:List Int)(p2 x6:Int):Option ((List Int)×Int×Bool):=match li with
  | 0=>none
  | li+1=>bif decide (x6 < p2) then (pX u p0 x4).bind λr10=>bif !r10.2.2 then some ([],0,false) else (de (decide ((x5.length+([r10.1]:List Int).length)*8<=140737488355328))).bind λ_=>g9 u li p0 r10.2.1 (x5++([r10.1]:List Int)) p2 (aS .i64 x6 1) else vw u x4 x5
def qj(u:Nat)(p0:List Int)(p1 p2:Int):Option ((List Int)×Int×Bool):=
 g9 u u p0 p1 ([]:List Int) p2 0
def Mk(u:Nat)(p0:List Int)(p2:Int)(s:Int×(List Int)):Option ((List Int)×Int×Bool):=vw u s.1 s.2
def Ml(u:Nat)(p0:List Int)(p2:Int)(i_:Nat)(s:Int×(List Int))(k_:(Int×(List Int))->Option ((List Int)×Int×Bool)):Option ((List Int)×Int×Bool):=(pX u p0 s.1).bind λr10=>bif !r10.2.2 then some ([],0,false) else (de (decide ((s.2.length+([r10.1]:List Int).length)*8<=140737488355328))).bind λ_=>k_ (r10.2.1,s.2++([r10.1]:List Int))
theorem qcn(u:Nat)(p0:List Int)(p2:Int)(s:Int×(List Int))(k:Nat)(hn:(p2:Int)<=9223372036854775807)(hk:sY p2 < k):g9 u k p0 s.1 s.2 p2 0=Pu.qn (Mk u p0 p2) (Ml u p0 p2) (sY p2) 0 s:=Pu.o3 (λ(k:Nat) (s:Int×(List Int)) (i:Int)=>g9 u k p0 s.1 s.2 p2 i) hn (λ_ _ _=>rfl) s hk
def zY(u:Nat)(x19 y2:Int)(y3 y4:Int)(x20:List bQ):Option (ae×Int×Bool):=
 (oH u (ae.mk y2 y3 y4 x20)).bind λr21=>bif !r21 then some ((ae.mk 0 0 0 []),0,false) else some ((ae.mk y2 y3 y4 x20),x19,true)
def q8(u:Nat)(Sm:List Int->Int->Int->Int->Int->Int->Int->List bQ->Option (ae×Int×Bool))(p0:List Int)(x9:Int)(r15:Int×Int×Bool)(r16:(List Int)×Bool)(r5 x10:Int)(x17:Bool)(y2 y3 y4:Int)(x11:List bQ):Option (ae×Int×Bool):=
 bif x17 then some ((ae.mk 0 0 0 []),0,false) else (mV u r16.1).bind λr18=>(de (decide ((x11.length+[r18].length)*16<=140737488355328))).bind λ_=>Sm p0 r15.2.1 r5 (aS .i64 x10 1) y2 y3 y4 (x11++[r18])
def gK(u jr:Nat)(p0:List Int)(x9 r5:Int)(x10 y2:Int)(y3 y4:Int)(x11:List bQ):Option (ae×Int×Bool):=match jr with
  | 0=>none
  | jr+1=>bif decide (x10 < r5) then (rP u p0 x9 8).bind λr15=>(pR u r15.1).bind λr16=>bif !r15.2.2 then q8 u (gK u jr) p0 x9 r15 r16 r5 x10 true y2 y3 y4 x11 else q8 u (gK u jr) p0 x9 r15 r16 r5 x10 (!r16.2) y2 y3 y4 x11 else zY u x9 y2 y3 y4 x11
def Co(u:Nat)(p0:List Int)(p1:Int):Option (ae×Int×Bool):=
 (qj u p0 p1 3).bind λr1=>bif !r1.2.2 then some ((ae.mk 0 0 0 []),0,false) else (ce r1.1 0).bind λy2=>(ce r1.1 1).bind λy3=>(ce r1.1 2).bind λy4=>(pP u y3 y4).bind λr5=>gK u u p0 r1.2.1 r5 0 y2 y3 y4 []
def QE(u:Nat)(p0:List Int)(r5 y2:Int)(y3 y4:Int)(s:Int×(List bQ)):Option (ae×Int×Bool):=zY u s.1 y2 y3 y4 s.2
def QF(u:Nat)(p0:List Int)(r5 y2:Int)(y3 y4:Int)(i_:Nat)(s:Int×(List bQ))(k_:(Int×(List bQ))->Option (ae×Int×Bool)):Option (ae×Int×Bool):=(rP u p0 s.1 8).bind λr15=>(pR u r15.1).bind λr16=>bif !r15.2.2 then q8 u (λz0 z1 z2 z3 z4 z5 z6 z7=>k_ (z1,z7)) p0 s.1 r15 r16 r5 (i_:Int) true y2 y3 y4 s.2 else q8 u (λz0 z1 z2 z3 z4 z5 z6 z7=>k_ (z1,z7)) p0 s.1 r15 r16 r5 (i_:Int) (!r16.2) y2 y3 y4 s.2
theorem qd9(u:Nat)(p0:List Int)(r5 y2:Int)(y3 y4:Int)(s:Int×(List bQ))(k:Nat)(hn:(r5:Int)<=9223372036854775807)(hk:sY r5 < k):gK u k p0 s.1 r5 0 y2 y3 y4 s.2=Pu.qn (QE u p0 r5 y2 y3 y4) (QF u p0 r5 y2 y3 y4) (sY r5) 0 s:=Pu.o3 (λ(k:Nat) (s:Int×(List bQ)) (i:Int)=>gK u k p0 s.1 r5 i y2 y3 y4 s.2) hn (λ_ _ _=>rfl) s hk
def xJ(u:Nat)(p0:List Int)(r1:Int×Int×Bool)(x2:Bool):Option ((List Int)×Int×Bool):=
 bif x2 then some ([],0,false) else (yb u p0 r1.2.1 r1.1).bind λr3=>bif !r3.2 then some ([],0,false) else some (r3.1,aS .i64 r1.2.1 r1.1,true)
def zZ(u:Nat)(p0:List Int)(p1 p2:Int):Option ((List Int)×Int×Bool):=
 (pX u p0 p1).bind λr1=>bif !r1.2.2 then xJ u p0 r1 true else xJ u p0 r1 (decide (r1.1 > p2))
def mX(u:Nat)(x13:Bool)(p1 x14:Int)(x15 x16 x17:Int)(x18:List bQ)(x19 x20 x21:Int)(x22:List Int):Option (eC×Bool):=
 some ((eC.mk p1 x14 (ae.mk x15 x16 x17 x18) x19 x20 x21 x22),x13)
def hH(u:Nat)(p0:List Int)(p1 p2:Int):Option (eC×Bool):=
 bif p1 == 1 then (Co u p0 p2).bind λr1=>mX u r1.2.2 p1 0 r1.1.aN r1.1.aG r1.1.aV r1.1.aI 0 0 0 [] else bif p1 == 2 then (qj u p0 p2 5).bind λr2=>bif !r2.2.2 then some ((eC.mk 0 0 (ae.mk 0 0 0 []) 0 0 0 []),false) else (ce r2.1 0).bind λy3=>(ce r2.1 1).bind λy4=>(ce r2.1 2).bind λy5=>(ce r2.1 3).bind λy6=>(ce r2.1 4).bind λy7=>mX u true p1 y3 0 0 0 [] (sC .i64 y4 (iq .i64 y5 20)) (sC .i64 y6 (iq .i64 y7 20)) 0 [] else bif p1 == 3 then (qj u p0 p2 2).bind λr8=>bif !r8.2.2 then some ((eC.mk 0 0 (ae.mk 0 0 0 []) 0 0 0 []),false) else (ce r8.1 0).bind λy9=>(ce r8.1 1).bind λy10=>(zZ u p0 r8.2.1 6).bind λr11=>mX u r11.2.2 p1 y9 0 0 0 [] 0 0 y10 r11.1 else bif p1 == 4 then (pX u p0 p2).bind λr12=>mX u r12.2.2 p1 r12.1 0 0 0 [] 0 0 0 [] else mX u false p1 0 0 0 0 [] 0 0 0 []
def ug(u:Nat)(x7:Bool)(r3:eC×Bool):Option (eC×Bool):=
 bif x7 then some ((eC.mk 0 0 (ae.mk 0 0 0 []) 0 0 0 []),false) else some (r3.1,true)
def Aa(u:Nat)(p0:List Int)(r1:Int×Int×Bool)(x2:Bool):Option (eC×Bool):=
 bif x2 then some ((eC.mk 0 0 (ae.mk 0 0 0 []) 0 0 0 []),false) else (hH u p0 r1.1 r1.2.1).bind λr3=>bif !r3.2 then ug u true r3 else (Bk u r3.1).bind λr4=>bif !r4 then ug u true r3 else (yL u r3.1).bind λr5=>(ua u r5 p0).bind λr6=>ug u (!r6) r3
def uh(u:Nat)(p0:List Int):Option (eC×Bool):=
 (pX u p0 0).bind λr1=>bif !r1.2.2 then Aa u p0 r1 true else Aa u p0 r1 (decide ((p0.length:Int) > 400))
def kg(u:Nat)(oU:List ah->Int->World->List ah->List br->Int->Option World)(p1:List ah)(x5:Int)(p0:World)(x18:List ah)(x19:List br)(x20:Int):Option World:=
 oU p1 (aS .i64 x5 1) p0 x18 x19 x20
def f0(u:Nat)(oU:List ah->Int->World->List ah->List br->Int->Option World)(p1:List ah)(x5:Int)(x17:Bool)(p0:World)(x6:List ah)(r14:ah)(x7:List br)(x8:Int)(y13:ah)(r16:eC×Bool):Option World:=
 bif x17 then (de (decide ((x7.length+([(br.mk y13.cM y13.w9 r16.1.fI)]).length)*24<=140737488355328))).bind λ_=>kg u oU p1 x5 p0 (x6++[r14]) (x7++([(br.mk y13.cM y13.w9 r16.1.fI)])) x8 else kg u oU p1 x5 p0 (x6++[r14]) x7 x8
def cQ(u dj:Nat)(p1:List ah)(x5:Int)(p0:World)(x6:List ah)(x7:List br)(x8:Int):Option World:=match dj with
  | 0=>none
  | dj+1=>bif decide (x5 < (p1.length:Int)) then (ce p1 x5).bind λy13=>bif decide ((x6.length:Int)>=400) then kg u (cQ u dj) p1 x5 p0 x6 x7 (aS .i64 x8 1) else (gQ u y13).bind λr14=>(de (decide ((x6.length+[r14].length)*40<=140737488355328))).bind λ_=>(uh u y13.fB).bind λr16=>bif r16.2 then bif r16.1.bp == 3 then f0 u (cQ u dj) p1 x5 (decide ((x7.length:Int) < 3000)) p0 x6 r14 x7 x8 y13 r16 else f0 u (cQ u dj) p1 x5 false p0 x6 r14 x7 x8 y13 r16 else f0 u (cQ u dj) p1 x5 false p0 x6 r14 x7 x8 y13 r16 else some (World.mk p0.fC p0.fT p0.cF p0.cu p0.fN p0.fD x6 x7 x8)
def q9(u:Nat)(p0:World)(p1:List ah):Option World:=
 cQ u u p1 0 p0 p0.bM p0.dv p0.ch
def Jw(u:Nat)(p1:List ah)(p0:World)(s:(List ah)×(List br)×Int):Option World:=some (World.mk p0.fC p0.fT p0.cF p0.cu p0.fN p0.fD s.1 s.2.1 s.2.2)
def Jx(u:Nat)(p1:List ah)(p0:World)(y13:ah)(i_:Nat)(s:(List ah)×(List br)×Int)(k_:((List ah)×(List br)×Int)->Option World):Option World:=bif decide ((s.1.length:Int)>=400) then kg u (λz0 z1 z2 z3 z4 z5=>k_ (z3,z4,z5)) p1 (i_:Int) p0 s.1 s.2.1 (aS .i64 s.2.2 1) else (gQ u y13).bind λr14=>(de (decide ((s.1.length+[r14].length)*40<=140737488355328))).bind λ_=>(uh u y13.fB).bind λr16=>bif r16.2 then bif r16.1.bp == 3 then f0 u (λz0 z1 z2 z3 z4 z5=>k_ (z3,z4,z5)) p1 (i_:Int) (decide ((s.2.1.length:Int) < 3000)) p0 s.1 r14 s.2.1 s.2.2 y13 r16 else f0 u (λz0 z1 z2 z3 z4 z5=>k_ (z3,z4,z5)) p1 (i_:Int) false p0 s.1 r14 s.2.1 s.2.2 y13 r16 else f0 u (λz0 z1 z2 z3 z4 z5=>k_ (z3,z4,z5)) p1 (i_:Int) false p0 s.1 r14 s.2.1 s.2.2 y13 r16
theorem qbb(u:Nat)(p1:List ah)(p0:World)(s:(List ah)×(List br)×Int)(k:Nat)(hn:p1.length<=9223372036854775807)(hk:p1.length < k):cQ u k p1 0 p0 s.1 s.2.1 s.2.2=Pu.bn (Jw u p1 p0) (Jx u p1 p0) p1 0 s:=Pu.bw (λ(k:Nat) (s:(List ah)×(List br)×Int) (i:Int)=>cQ u k p1 i p0 s.1 s.2.1 s.2.2) hn (λ_ _ _=>rfl) s hk
def ra(u:Nat)(p0:World)(p1:Int):Option World:=
 (ce p0.fN p1).bind λy1=>(ce p0.fD p1).bind λy2=>(Ho u p0.fT p0.fC p1 y1 y2).bind λr3=>(ce p0.fN p1).bind λy4=>(ce p0.fD p1).bind λy5=>(q9 u (World.mk p0.fC p0.fT p0.cF p0.cu (p0.fN.set (sY p1) r3.fN) (p0.fD.set (sY p1) r3.fD) p0.bM p0.dv p0.ch) r3.nr).bind λr6=>some r6
def d9(u:Nat)(p0:List ah)(p1 p2:Int):Option (List ah):=
 bif decide (0<=p1) && decide (p1 < p2) && decide (p2<=p0.length) then some (p0.take p1.toNat++p0.drop p2.toNat) else none
def nO(u:Nat)(p0:World)(p1:Int):Option (ah×World):=
 (ce p0.bM p1).bind λy1=>(d9 u p0.bM p1 (aS .i64 p1 1)).bind λr2=>some (y1,(World.mk p0.fC p0.fT p0.cF p0.cu p0.fN p0.fD r2 p0.dv p0.ch))
def DT(u:Nat)(p0:Kid)(q0:Int):Option Bool:=
 some (p0.gj == q0)
def dK(u:Nat)  : Option Int:=
 some (-1)
def b7(u bW:Nat)(p0:List Kid)(p1_0 x2:Int):Option Int:=match bW with
  | 0=>none
  | bW+1=>bif decide (x2 < (p0.length:Int)) then (ce p0 x2).bind λy4=>(DT u y4 p1_0).bind λr5=>bif r5 then some x2 else b7 u bW p0 p1_0 (aS .i64 x2 1) else dK u
def c9(u:Nat)(p0:List Kid)(p1_0:Int):Option Int:=
 b7 u u p0 p1_0 0
def mb(u:Nat)(p0:List Kid)(p1_0:Int)(s:Unit):Option Int:=dK u
def md(u:Nat)(p0:List Kid)(p1_0:Int)(y4:Kid)(i_:Nat)(s:Unit)(k_:Unit->Option Int):Option Int:=(DT u y4 p1_0).bind λr5=>bif r5 then some (i_:Int) else k_ ()
theorem mf(u:Nat)(p0:List Kid)(p1_0:Int)(s:Unit)(k:Nat)(hn:p0.length<=9223372036854775807)(hk:p0.length < k):b7 u k p0 p1_0 0=Pu.bn (mb u p0 p1_0) (md u p0 p1_0) p0 0 s:=Pu.bw (λ(k:Nat) (s:Unit) (i:Int)=>b7 u k p0 p1_0 i) hn (λ_ _ _=>rfl) s hk
def yg(u:Nat)(p0:List Kid)(p1:Int):Option Int:=
 (c9 u p0 p1).bind λr1=>some r1
def FQ(u:Nat)(p0:Kid)(q0:Int):Option Bool:=
 some (decide (p0.gj > q0))
def dL(u:Nat)  : Option Int:=
 some (-1)
def ca(u bZ:Nat)(p0:List Kid)(p1_0 x2:Int):Option Int:=match bZ with
  | 0=>none
  | bZ+1=>bif decide (x2 < (p0.length:Int)) then (ce p0 x2).bind λy4=>(FQ u y4 p1_0).bind λr5=>bif r5 then some x2 else ca u bZ p0 p1_0 (aS .i64 x2 1) else dL u
def cA(u:Nat)(p0:List Kid)(p1_0:Int):Option Int:=
 ca u u p0 p1_0 0
def mY(u:Nat)(p0:List Kid)(p1_0:Int)(s:Unit):Option Int:=dL u
def mZ(u:Nat)(p0:List Kid)(p1_0:Int)(y4:Kid)(i_:Nat)(s:Unit)(k_:Unit->Option Int):Option Int:=(FQ u y4 p1_0).bind λr5=>bif r5 then some (i_:Int) else k_ ()
theorem m0(u:Nat)(p0:List Kid)(p1_0:Int)(s:Unit)(k:Nat)(hn:p0.length<=9223372036854775807)(hk:p0.length < k):ca u k p0 p1_0 0=Pu.bn (mY u p0 p1_0) (mZ u p0 p1_0) p0 0 s:=Pu.bw (λ(k:Nat) (s:Unit) (i:Int)=>ca u k p0 p1_0 i) hn (λ_ _ _=>rfl) s hk
def fO(u:Nat)(p0:List Kid)(p1:Int)(p2:List Kid):Option (List Kid):=
 bif decide (0<=p1) && decide (p1<=p0.length) && decide (p2.length=1) && decide ((p0.length+p2.length)*40<=140737488355328) then some (p0.take p1.toNat++p2++p0.drop p1.toNat) else none
def Ab(u:Nat)(p2 p3:Int)(x10:List Kid)(x11:Int):Option (List Kid):=
 (ce x10 x11).bind λy12=>some (((x10.set (sY x11) (Kid.mk y12.gj p2 y12.bG y12.mg y12.ef)).set (sY x11) (Kid.mk y12.gj p2 y12.bG 0 y12.ef)).set (sY x11) (Kid.mk y12.gj p2 (sC .i64 y12.bG p3) 0 y12.ef))
def Ac(u:Nat)(p2 p3 p1:Int)(r1:List Kid)(x8:Int):Option (List Kid):=
 (fO u r1 x8 [(Kid.mk p1 0 0 0 0)]).bind λr9=>Ab u p2 p3 r9 x8
def Ad(u:Nat)(p0:List Kid)(p2 p3:Int)(r1:List Kid)(x5:Bool)(p1:Int):Option (List Kid):=
 bif x5 then some r1 else (yg u p0 p1).bind λr6=>bif decide (r6 < 0) then (cA u p0 p1).bind λr7=>bif decide (r7 < 0) then Ac u p2 p3 p1 r1 (p0.length:Int) else Ac u p2 p3 p1 r1 r7 else Ab u p2 p3 r1 r6
def Hp(u:Nat)(p0:List Kid)(p1 p2 p3:Int):Option (List Kid):=
 (c8 u p0).bind λr1=>(Bg u p1).bind λr2=>bif !r2 then Ad u p0 p2 p3 r1 true p1 else (dt u p2).bind λr3=>bif !r3 then Ad u p0 p2 p3 r1 true p1 else (dt u p3).bind λr4=>Ad u p0 p2 p3 r1 (!r4) p1
def ui(u:Nat)(p0:aA):Option Int:=
 some p0.aZ.aT
def rc(u:Nat)(p0:List Kid)(p2 r1:Int)(x7:Bool):Option Int:=
 bif x7 then some 0 else (ce p0 r1).bind λy8=>(ce p0 r1).bind λy9=>some (DV .i64 (gU .i64 y8.bJ p2) y9.ef)
def uj(u:Nat)(p0:List Kid)(p1 p2:Int):Option Int:=
 (yg u p0 p1).bind λr1=>bif decide (r1 < 0) then rc u p0 p2 r1 true else (dt u p2).bind λr2=>bif !r2 then rc u p0 p2 r1 true else (ce p0 r1).bind λy3=>(dt u y3.bJ).bind λr4=>bif !r4 then rc u p0 p2 r1 true else (ce p0 r1).bind λy5=>(dt u y5.ef).bind λr6=>rc u p0 p2 r1 (!r6)
def xK(u:Nat)(p2:Int)(x3:Bool)(p0:ae)(p1:aY):Option ((List Int)×Bool):=
 bif x3 then some ([],false) else (j0 u p1 p0 p2).bind λr4=>(ek u r4).bind λr5=>some (r5,true)
def rQ(u:Nat)(p0:ae)(p1:aY)(p2:Int):Option ((List Int)×Bool):=
 (pT u p0 p1).bind λr1=>bif !r1 then xK u p2 true p0 p1 else (f9 u p1.aT p2).bind λr2=>xK u p2 (!r2) p0 p1
def pY(u:Nat)(p0 p1:Int)(p2:List Int):Option eC:=
 (ek u p2).bind λr1=>some (eC.mk 3 p0 (ae.mk 0 0 0 []) 0 0 p1 r1)
def vz(u:Nat)(x9:List Kid):Option (List Kid):=
 some x9
def re(u:Nat)(p2:Int)(r1:List Kid)(r2:Int)(x6:Bool):Option (List Kid):=
 bif x6 then (ce r1 r2).bind λy7=>(ce r1 r2).bind λy8=>vz u (r1.set (sY r2) (Kid.mk y8.gj y8.bJ y8.bG y8.mg (sC .i64 y7.ef p2))) else vz u r1
def qk(u:Nat)(p0:List Kid)(p1 p2:Int):Option (List Kid):=
 (c8 u p0).bind λr1=>(yg u p0 p1).bind λr2=>bif decide (r2>=0) then (dt u p2).bind λr3=>bif r3 then (ce p0 r2).bind λy4=>(dt u y4.ef).bind λr5=>re u p2 r1 r2 r5 else re u p2 r1 r2 false else re u p2 r1 r2 false
def tr(u:Nat)(p2 r3:Int)(p0 r1:aA)(x16:List ah):Option Act:=
 (qk u p0.aW p2 r3).bind λr17=>some (Act.mk (aA.mk r1.eh r1.bh r1.ba r1.ay r1.aZ r1.aH r17 r1.a7) x16)
def mt(u:Nat)(Lz:Int->Int->Int->List Int->Int->aA->aA->List ah->Option Act)(p1 p2 r3:Int)(r4:List Int)(x7:Int)(p0 r1:aA)(x15:List ah):Option Act:=
 Lz p1 p2 r3 r4 (aS .i64 x7 1) p0 r1 x15
def iy(u f6:Nat)(p1 p2 r3:Int)(r4:List Int)(x7:Int)(p0 r1:aA)(x8:List ah):Option Act:=match f6 with
  | 0=>none
  | f6+1=>bif decide (x7 < (r4.length:Int)) then (ce r4 x7).bind λy11=>(rQ u p0.ay p0.aZ y11).bind λr12=>bif r12.2 then (pY u p0.ay.aN y11 r12.1).bind λr13=>(jN u p1 p2 r13).bind λr14=>(de (decide ((x8.length+[r14].length)*40<=140737488355328))).bind λ_=>mt u (iy u f6) p1 p2 r3 r4 x7 p0 r1 (x8++[r14]) else mt u (iy u f6) p1 p2 r3 r4 x7 p0 r1 x8 else tr u p2 r3 p0 r1 x8
def uk(u:Nat)(p0:aA)(p1 p2:Int):Option Act:=
 (fc u p0).bind λr1=>(ui u p0).bind λr2=>(uj u p0.aW p2 r2).bind λr3=>(vt u r3).bind λr4=>iy u u p1 p2 r3 r4 0 p0 r1 []
def DA(u:Nat)(p1 p2 r3:Int)(r4:List Int)(p0 r1:aA)(s:List ah):Option Act:=tr u p2 r3 p0 r1 s
def DC(u:Nat)(p1 p2 r3:Int)(r4:List Int)(p0 r1:aA)(y11:Int)(i_:Nat)(s:List ah)(k_:List ah->Option Act):Option Act:=(rQ u p0.ay p0.aZ y11).bind λr12=>bif r12.2 then (pY u p0.ay.aN y11 r12.1).bind λr13=>(jN u p1 p2 r13).bind λr14=>(de (decide ((s.length+[r14].length)*40<=140737488355328))).bind λ_=>mt u (λz0 z1 z2 z3 z4 z5 z6 z7=>k_ z7) p1 p2 r3 r4 (i_:Int) p0 r1 (s++[r14]) else mt u (λz0 z1 z2 z3 z4 z5 z6 z7=>k_ z7) p1 p2 r3 r4 (i_:Int) p0 r1 s
theorem Li(u:Nat)(p1 p2 r3:Int)(r4:List Int)(p0 r1:aA)(s:List ah)(k:Nat)(hn:r4.length<=9223372036854775807)(hk:r4.length < k):iy u k p1 p2 r3 r4 0 p0 r1 s=Pu.bn (DA u p1 p2 r3 r4 p0 r1) (DC u p1 p2 r3 r4 p0 r1) r4 0 s:=Pu.bw (λ(k:Nat) (s:List ah) (i:Int)=>iy u k p1 p2 r3 r4 i p0 r1 s) hn (λ_ _ _=>rfl) s hk
def oK(u:Nat)(p1 p2:Int)(x4:Bool)(x5 x6:Int)(x7 x8 x9:Int)(x10:List bQ)(x11:Int)(x12:List Int)(x13:Int)(x14:List Kid)(x15:Int)(x16:List ah)(x17 x18:Int)(x19 x20 x21:Int)(x22:List bQ):Option Act:=
 (jN u p1 p2 (eC.mk x17 x18 (ae.mk x19 x20 x21 x22) 0 0 0 [])).bind λr23=>some (Act.mk (aA.mk x4 x5 x6 (ae.mk x7 x8 x9 x10) (aY.mk x11 x12) x13 x14 x15) [r23])
def sA(u:Nat)(p0:aA)(p1 p2:Int)(p3:eC):Option Act:=
 (fc u p0).bind λr1=>bif p2 == p1 then some (Act.mk r1 []) else (Hp u p0.aW p2 p3.bJ p3.bG).bind λr2=>bif p0.aH == 0 then oK u p1 p2 r1.eh r1.bh r1.ba r1.ay.aN r1.ay.aG r1.ay.aV r1.ay.aI r1.aZ.aT r1.aZ.bj r1.aH r2 r1.a7 [] 4 0 0 0 0 [] else bif p3.aN != p0.ay.aN then oK u p1 p2 r1.eh r1.bh r1.ba r1.ay.aN r1.ay.aG r1.ay.aV r1.ay.aI r1.aZ.aT r1.aZ.bj r1.aH r2 r1.a7 [] 1 0 p0.ay.aN p0.ay.aG p0.ay.aV p0.ay.aI else (uk u (aA.mk r1.eh r1.bh r1.ba r1.ay r1.aZ r1.aH r2 r1.a7) p1 p2).bind λr3=>bif decide ((r3.nr.length:Int) > 0) then some r3 else oK u p1 p2 r3.fN.eh r3.fN.bh r3.fN.ba r3.fN.ay.aN r3.fN.ay.aG r3.fN.ay.aV r3.fN.ay.aI r3.fN.aZ.aT r3.fN.aZ.bj r3.fN.aH r3.fN.aW r3.fN.a7 r3.nr 4 p0.ay.aN 0 0 0 []
def wN(u:Nat)(p0:ae):Option aY:=
 (oH u p0).bind λr1=>bif !r1 then some (aY.mk 0 []) else (de (decide (0<=p0.aV) && (p0.aV == 0 || p0.aV == p0.aV))).bind λ_=>(de (decide (sY p0.aV*1<=140737488355328))).bind λ_=>some (aY.mk 0 (zQV (sY p0.aV) (0:Int)))
def C6(u:Nat)  : Option Int:=
 some (-1)
def m2(u mA:Nat)(p0:List Int)(p2 x3:Int)(p1:bQ):Option Int:=match mA with
  | 0=>none
  | mA+1=>bif decide ((aS .i64 x3 p2)<=(p0.length:Int)) then (de (dW x3 (aS .i64 x3 p2) p0.length)).bind λ_=>(mV u ((p0.take (sY (aS .i64 x3 p2))).drop (sY x3))).bind λr6=>bif [r6.fW,r6.fS] == [p1.fW,p1.fS] then some x3 else m2 u mA p0 p2 (aS .i64 x3 1) p1 else C6 u
def Ae(u:Nat)(p0:List Int)(p1:bQ)(p2:Int):Option Int:=
 (bN u p2 1 6).bind λr1=>bif !r1 then some (-1) else m2 u u p0 p2 0 p1
def vA(u:Nat)(p0:List Int)(p1:ae)(p2:Int):Option Int:=
 (kC u p1.aG p1.aV p2).bind λr1=>(bN u p2 0 (cJ .i64 (p1.aI.length:Int) 1)).bind λr2=>bif !r2 then some (-1) else (ce p1.aI p2).bind λy3=>(Ae u p0 y3 r1.2).bind λr4=>some r4
def pZ(u:Nat)(p0:aY)(p1:ae)(p2:Int):Option (Int×Int):=
 (kC u p1.aG p1.aV p2).bind λr1=>(de (dW r1.1 (aS .i64 r1.1 r1.2) p0.bj.length)).bind λ_=>some (r1.1,aS .i64 r1.1 r1.2)
def m3(u:Nat)(p0:aY)(p1:ae)(p2:Int)(p3:List Int):Option aY:=
 (pZ u p0 p1 p2).bind λr1=>(de (qcQ r1.1 r1.2 p0.bj.length p3.length)).bind λ_=>(de (decide (0<=p2))).bind λ_=>some (aY.mk (sC .i64 p0.aT (iq .i64 1 p2)) (DJ p0.bj p3 (sY r1.1)))
def Af(u:Nat)(x18:Int)(x19:List Int):Option aY:=
 some (aY.mk x18 x19)
def mu(u:Nat)(Ly:List Int->ae->Int->Int->List Int->Option aY)(p1:List Int)(p0:ae)(x6 x16:Int)(x17:List Int):Option aY:=
 Ly p1 p0 (aS .i64 x6 1) x16 x17
def iz(u f5:Nat)(p1:List Int)(p0:ae)(x6 x7:Int)(x8:List Int):Option aY:=match f5 with
  | 0=>none
  | f5+1=>bif decide (x6 < (p0.aI.length:Int)) then (kC u p0.aG p0.aV x6).bind λr12=>(vA u p1 p0 x6).bind λr13=>bif decide (r13>=0) then (de (dW r13 (aS .i64 r13 r12.2) p1.length)).bind λ_=>(m3 u (aY.mk x7 x8) p0 x6 ((p1.take (sY (aS .i64 r13 r12.2))).drop (sY r13))).bind λr15=>mu u (iz u f5) p1 p0 x6 r15.aT r15.bj else mu u (iz u f5) p1 p0 x6 x7 x8 else Af u x7 x8
def ul(u:Nat)(p0:ae)(p1:List Int):Option aY:=
 (wN u p0).bind λr1=>(oH u p0).bind λr2=>bif !r2 then some r1 else iz u u p1 p0 0 r1.aT r1.bj
def DD(u:Nat)(p1:List Int)(p0:ae)(s:Int×(List Int)):Option aY:=Af u s.1 s.2
def vW(u:Nat)(p1:List Int)(p0:ae)(i_:Nat)(s:Int×(List Int))(k_:(Int×(List Int))->Option aY):Option aY:=(kC u p0.aG p0.aV (i_:Int)).bind λr12=>(vA u p1 p0 (i_:Int)).bind λr13=>bif decide (r13>=0) then (de (dW r13 (aS .i64 r13 r12.2) p1.length)).bind λ_=>(m3 u (aY.mk s.1 s.2) p0 (i_:Int) ((p1.take (sY (aS .i64 r13 r12.2))).drop (sY r13))).bind λr15=>mu u (λz0 z1 z2 z3 z4=>k_ (z3,z4)) p1 p0 (i_:Int) r15.aT r15.bj else mu u (λz0 z1 z2 z3 z4=>k_ (z3,z4)) p1 p0 (i_:Int) s.1 s.2
theorem Lj(u:Nat)(p1:List Int)(p0:ae)(s:Int×(List Int))(k:Nat)(hn:((p0.aI.length:Int):Int)<=9223372036854775807)(hk:sY (p0.aI.length:Int) < k):iz u k p1 p0 0 s.1 s.2=Pu.qn (DD u p1 p0) (vW u p1 p0) (sY (p0.aI.length:Int)) 0 s:=Pu.o3 (λ(k:Nat) (s:Int×(List Int)) (i:Int)=>iz u k p1 p0 i s.1 s.2) hn (λ_ _ _=>rfl) s hk
def EH(u:Nat)(p0:ae)(p1:List Int):Option Bool:=
 bif (p1.length:Int) == p0.aV then (yI u p1 p0.aG).bind λr1=>(dz u r1 p0.aI).bind λr2=>some r2 else some false
def um(u:Nat)(p0:ar)(p1:ae):Option Bool:=
 (rO u p0).bind λr1=>bif r1.1 == p1.aN then (EH u p1 r1.2).bind λr2=>some r2 else some false
def m4(u:Nat)(r1:aA)(x9 x10 x11:Int)(x12:List bQ)(x13:Int)(x14:List Int)(x15 x16:Int):Option aA:=
 some (aA.mk r1.eh r1.bh r1.ba (ae.mk x9 x10 x11 x12) (aY.mk x13 x14) x15 r1.aW x16)
def xL(u:Nat)(x4:Bool)(p1:ar)(p2:ae)(r1:aA):Option aA:=
 bif x4 then (rO u p1).bind λr5=>(vp u p2).bind λr6=>(ul u p2 r5.2).bind λr7=>(um u p1 p2).bind λr8=>bif r8 then m4 u r1 r6.aN r6.aG r6.aV r6.aI r7.aT r7.bj 5 r1.a7 else m4 u r1 r6.aN r6.aG r6.aV r6.aI r7.aT r7.bj 1 r1.a7 else m4 u r1 r1.ay.aN r1.ay.aG r1.ay.aV r1.ay.aI r1.aZ.aT r1.aZ.bj r1.aH r1.a7
def Ag(u:Nat)(p0:aA)(p1:ar)(p2:ae):Option aA:=
 (fc u p0).bind λr1=>bif p0.aH != 0 then (rN u p2 p0.ay).bind λr2=>bif !r2 then m4 u r1 r1.ay.aN r1.ay.aG r1.ay.aV r1.ay.aI r1.aZ.aT r1.aZ.bj r1.aH (aS .i64 r1.a7 1) else m4 u r1 r1.ay.aN r1.ay.aG r1.ay.aV r1.ay.aI r1.aZ.aT r1.aZ.bj r1.aH r1.a7 else (oH u p2).bind λr3=>bif r3 then xL u (p2.aN != 0) p1 p2 r1 else xL u false p1 p2 r1
def nP(u:Nat)(p2:Int)(p3:List Int)(x7:Bool)(r1:aY)(p0:ae):Option (aY×Bool):=
 bif x7 then some (r1,false) else (m3 u r1 p0 p2 p3).bind λr8=>some (r8,true)
def wO(u:Nat)(p0:ae)(p1:aY)(p2:Int)(p3:List Int):Option (aY×Bool):=
 (qX u p1).bind λr1=>(pT u p0 p1).bind λr2=>bif !r2 then nP u p2 p3 true r1 p0 else (bN u p2 0 (cJ .i64 (p0.aI.length:Int) 1)).bind λr3=>bif !r3 then nP u p2 p3 true r1 p0 else (f9 u p1.aT p2).bind λr4=>bif r4 then nP u p2 p3 true r1 p0 else (mV u p3).bind λr5=>(ce p0.aI p2).bind λy6=>nP u p2 p3 (!([r5.fW,r5.fS] == [y6.fW,y6.fS])) r1 p0
def C7(u:Nat)(r1:aA)(x23:List Kid)(x24:List ah):Option Act:=
 some (Act.mk (aA.mk r1.eh r1.bh r1.ba r1.ay r1.aZ r1.aH x23 r1.a7) x24)
def pu(u:Nat)(PV:Int->Int->((List Int)×Bool)->aA->Int->aA->List Kid->List ah->Option Act)(p1 p2:Int)(r2:(List Int)×Bool)(p0:aA)(x6:Int)(r1:aA)(x21:List Kid)(x22:List ah):Option Act:=
 PV p1 p2 r2 p0 (aS .i64 x6 1) r1 x21 x22
def kE(u iD:Nat)(p1 p2:Int)(r2:(List Int)×Bool)(p0:aA)(x6:Int)(r1:aA)(x7:List Kid)(x8:List ah):Option Act:=match iD with
  | 0=>none
  | iD+1=>bif decide (x6 < (p0.aW.length:Int)) then (ce p0.aW x6).bind λy12=>(ui u p0).bind λr13=>(uj u x7 y12.gj r13).bind λr14=>(f9 u r14 p2).bind λr15=>bif r15 then (pY u p0.ay.aN p2 r2.1).bind λr16=>(jN u p1 y12.gj r16).bind λr17=>(de (decide ((x8.length+[r17].length)*40<=140737488355328))).bind λ_=>(de (decide (0<=p2))).bind λ_=>(qk u x7 y12.gj (iq .i64 1 p2)).bind λr20=>pu u (kE u iD) p1 p2 r2 p0 x6 r1 r20 (x8++[r17]) else pu u (kE u iD) p1 p2 r2 p0 x6 r1 x7 x8 else C7 u r1 x7 x8
def Ah(u:Nat)(p0:aA)(p1 p2:Int):Option Act:=
 (fc u p0).bind λr1=>(rQ u p0.ay p0.aZ p2).bind λr2=>bif !r2.2 then some (Act.mk r1 []) else kE u u p1 p2 r2 p0 0 r1 r1.aW []
def NW(u:Nat)(p1 p2:Int)(r2:(List Int)×Bool)(p0 r1:aA)(s:(List Kid)×(List ah)):Option Act:=C7 u r1 s.1 s.2
def FR(u:Nat)(p1 p2:Int)(r2:(List Int)×Bool)(p0 r1:aA)(y12:Kid)(i_:Nat)(s:(List Kid)×(List ah))(k_:((List Kid)×(List ah))->Option Act):Option Act:=(ui u p0).bind λr13=>(uj u s.1 y12.gj r13).bind λr14=>(f9 u r14 p2).bind λr15=>bif r15 then (pY u p0.ay.aN p2 r2.1).bind λr16=>(jN u p1 y12.gj r16).bind λr17=>(de (decide ((s.2.length+[r17].length)*40<=140737488355328))).bind λ_=>(de (decide (0<=p2))).bind λ_=>(qk u s.1 y12.gj (iq .i64 1 p2)).bind λr20=>pu u (λz0 z1 z2 z3 z4 z5 z6 z7=>k_ (z6,z7)) p1 p2 r2 p0 (i_:Int) r1 r20 (s.2++[r17]) else pu u (λz0 z1 z2 z3 z4 z5 z6 z7=>k_ (z6,z7)) p1 p2 r2 p0 (i_:Int) r1 s.1 s.2
theorem NX(u:Nat)(p1 p2:Int)(r2:(List Int)×Bool)(p0 r1:aA)(s:(List Kid)×(List ah))(k:Nat)(hn:p0.aW.length<=9223372036854775807)(hk:p0.aW.length < k):kE u k p1 p2 r2 p0 0 r1 s.1 s.2=Pu.bn (NW u p1 p2 r2 p0 r1) (FR u p1 p2 r2 p0 r1) p0.aW 0 s:=Pu.bw (λ(k:Nat) (s:(List Kid)×(List ah)) (i:Int)=>kE u k p1 p2 r2 p0 i r1 s.1 s.2) hn (λ_ _ _=>rfl) s hk
def vB(u:Nat)(p1:Int)(x2:Bool)(p0:aA)(p2:eC)(r1:aA):Option Act:=
 bif x2 then some (Act.mk (aA.mk r1.eh r1.bh r1.ba r1.ay r1.aZ r1.aH r1.aW (aS .i64 r1.a7 1)) []) else (f9 u p0.aZ.aT p2.fI).bind λr3=>bif r3 then some (Act.mk r1 []) else (wO u p0.ay p0.aZ p2.fI p2.fB).bind λr4=>bif !r4.2 then some (Act.mk (aA.mk r1.eh r1.bh r1.ba r1.ay r1.aZ r1.aH r1.aW (aS .i64 r1.a7 1)) []) else (Ah u (aA.mk r1.eh r1.bh r1.ba r1.ay r4.1 r1.aH r1.aW r1.a7) p1 p2.fI).bind λr5=>some r5
def wP(u:Nat)(p0:aA)(p1:Int)(p2:eC):Option Act:=
 (fc u p0).bind λr1=>bif p0.aH == 0 then vB u p1 true p0 p2 r1 else vB u p1 (p2.aN != p0.ay.aN) p0 p2 r1
def vC(u:Nat)(r1:aA)(x4:Int):Option Act:=
 some (Act.mk (aA.mk r1.eh r1.bh 0 r1.ay r1.aZ r1.aH r1.aW x4) [])
def wQ(u:Nat)(p0:aA)(p1:Int)(p2:ar)(p3:eC):Option Act:=
 (fc u p0).bind λr1=>bif p3.bp == 1 then (Ag u (aA.mk r1.eh r1.bh 0 r1.ay r1.aZ r1.aH r1.aW r1.a7) p2 p3.ay).bind λr2=>some (Act.mk r2 []) else bif p3.bp == 3 then (wP u (aA.mk r1.eh r1.bh 0 r1.ay r1.aZ r1.aH r1.aW r1.a7) p1 p3).bind λr3=>some r3 else bif p3.bp == 2 then vC u r1 (aS .i64 r1.a7 1) else vC u r1 r1.a7
def Ai(u:Nat)(p1:Int)(x4:Bool)(p2:aA)(p3:ar)(p4:ah)(r1:aA)(r2:eC×Bool):Option Act:=
 bif x4 then some (Act.mk (aA.mk r1.eh r1.bh r1.ba r1.ay r1.aZ r1.aH r1.aW (aS .i64 r1.a7 1)) []) else bif r2.1.bp == 2 then (sA u p2 p1 p4.cM r2.1).bind λr5=>some r5 else bif p4.cM == p2.bh then (wQ u p2 p1 p3 r2.1).bind λr6=>some r6 else some (Act.mk (aA.mk r1.eh r1.bh r1.ba r1.ay r1.aZ r1.aH r1.aW (aS .i64 r1.a7 1)) [])
def Hq(u:Nat)(p0:bV)(p1:Int)(p2:aA)(p3:ar)(p4:ah):Option Act:=
 (fc u p2).bind λr1=>bif !p2.eh then some (Act.mk r1 []) else (uh u p4.fB).bind λr2=>bif !r2.2 then Ai u p1 true p2 p3 p4 r1 r2 else (c7 u p0 p4.cM).bind λr3=>bif !r3 then Ai u p1 true p2 p3 p4 r1 r2 else Ai u p1 (p4.cM == p1) p2 p3 p4 r1 r2
def nQ(u:Nat)(p0:World)(p1:Int):Option World:=
 (nO u p0 p1).bind λr1=>(ce r1.2.fN r1.1.w9).bind λy2=>(ce r1.2.fD r1.1.w9).bind λy3=>(Hq u r1.2.fT r1.1.w9 y2 y3 r1.1).bind λr4=>(ce r1.2.fN r1.1.w9).bind λy5=>(q9 u (World.mk r1.2.fC r1.2.fT r1.2.cF r1.2.cu (r1.2.fN.set (sY r1.1.w9) r4.fN) r1.2.fD r1.2.bM r1.2.dv r1.2.ch) r4.nr).bind λr6=>some r6
def Gs(u:Nat)(p0:aA):Option aA:=
 some (aA.mk false 0 0 (ae.mk 0 0 0 []) (aY.mk 0 []) 0 [] 0)
def FS(u:Nat)(p0 q0:Int):Option Bool:=
 (f9 u q0 p0).bind λr1=>some r1
def jg(u:Nat)(x33 x34:List Int)(x35 x36 x37:Int)(x38:List bR):Option ar:=
 some (ar.mk x33 x34 (ct.mk x35 x36 x37) [])
def dY(u:Nat)(wj:Int->ar->Int->List Int->List Int->Int->Int->Int->List bR->Option ar)(p1_0:Int)(p0:ar)(x10:Int)(x27 x28:List Int)(x29 x30 x31:Int)(x32:List bR):Option ar:=
 wj p1_0 p0 (aS .i64 x10 1) x27 x28 x29 x30 x31 x32
def cz(u cq:Nat)(p1_0:Int)(p0:ar)(x10:Int)(x11 x12:List Int)(x13 x14 x15:Int)(x16:List bR):Option ar:=match cq with
  | 0=>none
  | cq+1=>bif decide (x10 < (p0.fP.length:Int)) then (ce p0.fP x10).bind λy24=>(FS u x10 p1_0).bind λr25=>bif r25 then (gJ u (ar.mk x11 x12 (ct.mk x13 x14 x15) x16) y24).bind λr26=>dY u (cz u cq) p1_0 p0 x10 r26.fA r26.fB r26.fR.aN r26.fR.b9 r26.fR.aV r26.fP else dY u (cz u cq) p1_0 p0 x10 x11 x12 x13 x14 x15 x16 else jg u x11 x12 x13 x14 x15 x16
def kH(u:Nat)(p0:ar)(p1_0:Int):Option ar:=
 (dP u p0).bind λr1=>(lP u p0).bind λr2=>bif !r2 then some r1 else cz u u p1_0 p0 0 r1.fA r1.fB r1.fR.aN r1.fR.b9 r1.fR.aV r1.fP
def vX(u:Nat)(p1_0:Int)(p0:ar)(s:(List Int)×(List Int)×Int×Int×Int×(List bR)):Option ar:=jg u s.1 s.2.1 s.2.2.1 s.2.2.2.1 s.2.2.2.2.1 s.2.2.2.2.2
def vY(u:Nat)(p1_0:Int)(p0:ar)(y24:bR)(i_:Nat)(s:(List Int)×(List Int)×Int×Int×Int×(List bR))(k_:((List Int)×(List Int)×Int×Int×Int×(List bR))->Option ar):Option ar:=(FS u (i_:Int) p1_0).bind λr25=>bif r25 then (gJ u (ar.mk s.1 s.2.1 (ct.mk s.2.2.1 s.2.2.2.1 s.2.2.2.2.1) s.2.2.2.2.2) y24).bind λr26=>dY u (λz0 z1 z2 z3 z4 z5 z6 z7 z8=>k_ (z3,z4,z5,z6,z7,z8)) p1_0 p0 (i_:Int) r26.fA r26.fB r26.fR.aN r26.fR.b9 r26.fR.aV r26.fP else dY u (λz0 z1 z2 z3 z4 z5 z6 z7 z8=>k_ (z3,z4,z5,z6,z7,z8)) p1_0 p0 (i_:Int) s.1 s.2.1 s.2.2.1 s.2.2.2.1 s.2.2.2.2.1 s.2.2.2.2.2
theorem Lk(u:Nat)(p1_0:Int)(p0:ar)(s:(List Int)×(List Int)×Int×Int×Int×(List bR))(k:Nat)(hn:p0.fP.length<=9223372036854775807)(hk:p0.fP.length < k):cz u k p1_0 p0 0 s.1 s.2.1 s.2.2.1 s.2.2.2.1 s.2.2.2.2.1 s.2.2.2.2.2=Pu.bn (vX u p1_0 p0) (vY u p1_0 p0) p0.fP 0 s:=Pu.bw (λ(k:Nat) (s:(List Int)×(List Int)×Int×Int×Int×(List bR)) (i:Int)=>cz u k p1_0 p0 i s.1 s.2.1 s.2.2.1 s.2.2.2.1 s.2.2.2.2.1 s.2.2.2.2.2) hn (λ_ _ _=>rfl) s hk
def QG(u:Nat)(p0:ar)(p1:Int):Option ar:=
 (kH u p0 p1).bind λr1=>some r1
def QH(u:Nat)(p0:ar)(p1:Int):Option ar:=
 (QG u p0 p1).bind λr1=>some r1
def EI(u:Nat)(p0:Int):Option aA:=
 some (aA.mk true p0 0 (ae.mk 0 0 0 []) (aY.mk 0 []) 0 [] 0)
def vD(u:Nat)(p1:Int)(x3:Bool)(p0:bV):Option aA:=
 bif x3 then some (aA.mk false 0 0 (ae.mk 0 0 0 []) (aY.mk 0 []) 0 [] 0) else (ce p0.bP p1).bind λy4=>(EI u y4).bind λr5=>some r5
def Gt(u:Nat)(p0:bV)(p1:Int):Option aA:=
 (rA u p0).bind λr1=>bif !r1 then vD u p1 true p0 else bif p1 == 0 then vD u p1 true p0 else (c7 u p0 p1).bind λr2=>vD u p1 (!r2) p0
def gm(u:Nat)(x17 x18:Int)(x19 x20:Int)(x21 x22:List Int)(x23:List aM)(x24:List aA)(x25:List ar)(x26:List ah)(x27:List br)(x28:Int):Option (Bool×World):=
 some (true,(World.mk (eG.mk x17 x18 x19 x20) (bV.mk x21) x22 x23 x24 x25 x26 x27 x28))
def fH(u:Nat)(p0:World)(p1:AT):Option (Bool×World):=
 (j1 u p0 p1).bind λr1=>bif !r1 then some (false,p0) else bif p1.bp == 1 then (ra u p0 p1.fN).bind λr2=>gm u r2.fC.aG r2.fC.bi r2.fC.a9 r2.fC.bd r2.fT.bP r2.cF r2.cu r2.fN r2.fD r2.bM r2.dv r2.ch else bif p1.bp == 2 then (nQ u p0 p1.fN).bind λr3=>gm u r3.fC.aG r3.fC.bi r3.fC.a9 r3.fC.bd r3.fT.bP r3.cF r3.cu r3.fN r3.fD r3.bM r3.dv r3.ch else bif p1.bp == 3 then (nO u p0 p1.fN).bind λr4=>gm u r4.2.fC.aG r4.2.fC.bi r4.2.fC.a9 r4.2.fC.bd r4.2.fT.bP r4.2.cF r4.2.cu r4.2.fN r4.2.fD r4.2.bM r4.2.dv (aS .i64 r4.2.ch 1) else bif p1.bp == 4 then (ce p0.bM p1.fN).bind λy5=>(gQ u y5).bind λr6=>(de (decide ((p0.bM.length+[r6].length)*40<=140737488355328))).bind λ_=>gm u p0.fC.aG p0.fC.bi p0.fC.a9 p0.fC.bd p0.fT.bP p0.cF p0.cu p0.fN p0.fD (p0.bM++[r6]) p0.dv p0.ch else bif p1.bp == 5 then (ce p0.fN p1.fN).bind λy8=>(Gs u y8).bind λr9=>(ce p0.fN p1.fN).bind λy10=>(ce p0.fD p1.fN).bind λy11=>(QH u y11 p1.fS).bind λr12=>(ce p0.fD p1.fN).bind λy13=>gm u p0.fC.aG p0.fC.bi p0.fC.a9 p0.fC.bd p0.fT.bP p0.cF p0.cu (p0.fN.set (sY p1.fN) r9) (p0.fD.set (sY p1.fN) r12) p0.bM p0.dv p0.ch else bif p1.bp == 6 then (Gt u p0.fT p1.fN).bind λr14=>(ce p0.fN p1.fN).bind λy15=>gm u p0.fC.aG p0.fC.bi p0.fC.a9 p0.fC.bd p0.fT.bP p0.cF p0.cu (p0.fN.set (sY p1.fN) r14) p0.fD p0.bM p0.dv p0.ch else bif p1.bp == 7 then (gQ u p1.fP).bind λr16=>(de (decide ((p0.bM.length+[r16].length)*40<=140737488355328))).bind λ_=>gm u p0.fC.aG p0.fC.bi p0.fC.a9 p0.fC.bd p0.fT.bP p0.cF p0.cu p0.fN p0.fD (p0.bM++[r16]) p0.dv p0.ch else gm u p0.fC.aG p0.fC.bi p0.fC.a9 p0.fC.bd p0.fT.bP p0.cF p0.cu p0.fN p0.fD p0.bM p0.dv p0.ch
def dM(u fX:Nat)(p1 x14:Int)(x15 x16:Int)(x17 x18:Int)(x19 x20:List Int)(x21:List aM)(x22:List aA)(x23:List ar)(x24:List ah)(x25:List br)(x26:Int):Option World:=match fX with
  | 0=>none
  | fX+1=>bif decide (x14 < p1) then (fH u (World.mk (eG.mk x15 x16 x17 x18) (bV.mk x19) x20 x21 x22 x23 x24 x25 x26) (AT.mk 2 0 0 (ah.mk 0 0 []))).bind λr40=>bif !r40.1 then some r40.2 else dM u fX p1 (aS .i64 x14 1) r40.2.fC.aG r40.2.fC.bi r40.2.fC.a9 r40.2.fC.bd r40.2.fT.bP r40.2.cF r40.2.cu r40.2.fN r40.2.fD r40.2.bM r40.2.dv r40.2.ch else some (World.mk (eG.mk x15 x16 x17 x18) (bV.mk x19) x20 x21 x22 x23 x24 x25 x26)
def qx(u:Nat)(p0:World)(p1:Int):Option World:=
 dM u u p1 0 p0.fC.aG p0.fC.bi p0.fC.a9 p0.fC.bd p0.fT.bP p0.cF p0.cu p0.fN p0.fD p0.bM p0.dv p0.ch
def Gu(u:Nat)(p1:Int)(s:Int×Int×Int×Int×(List Int)×(List Int)×(List aM)×(List aA)×(List ar)×(List ah)×(List br)×Int):Option World:=some (World.mk (eG.mk s.1 s.2.1 s.2.2.1 s.2.2.2.1) (bV.mk s.2.2.2.2.1) s.2.2.2.2.2.1 s.2.2.2.2.2.2.1 s.2.2.2.2.2.2.2.1 s.2.2.2.2.2.2.2.2.1 s.2.2.2.2.2.2.2.2.2.1 s.2.2.2.2.2.2.2.2.2.2.1 s.2.2.2.2.2.2.2.2.2.2.2)
def Gw(u:Nat)(p1:Int)(i_:Nat)(s:Int×Int×Int×Int×(List Int)×(List Int)×(List aM)×(List aA)×(List ar)×(List ah)×(List br)×Int)(k_:(Int×Int×Int×Int×(List Int)×(List Int)×(List aM)×(List aA)×(List ar)×(List ah)×(List br)×Int)->Option World):Option World:=(fH u (World.mk (eG.mk s.1 s.2.1 s.2.2.1 s.2.2.2.1) (bV.mk s.2.2.2.2.1) s.2.2.2.2.2.1 s.2.2.2.2.2.2.1 s.2.2.2.2.2.2.2.1 s.2.2.2.2.2.2.2.2.1 s.2.2.2.2.2.2.2.2.2.1 s.2.2.2.2.2.2.2.2.2.2.1 s.2.2.2.2.2.2.2.2.2.2.2) (AT.mk 2 0 0 (ah.mk 0 0 []))).bind λr40=>bif !r40.1 then some r40.2 else k_ (r40.2.fC.aG,r40.2.fC.bi,r40.2.fC.a9,r40.2.fC.bd,r40.2.fT.bP,r40.2.cF,r40.2.cu,r40.2.fN,r40.2.fD,r40.2.bM,r40.2.dv,r40.2.ch)
theorem Yk(u:Nat)(p1:Int)(s:Int×Int×Int×Int×(List Int)×(List Int)×(List aM)×(List aA)×(List ar)×(List ah)×(List br)×Int)(k:Nat)(hn:(p1:Int)<=9223372036854775807)(hk:sY p1 < k):dM u k p1 0 s.1 s.2.1 s.2.2.1 s.2.2.2.1 s.2.2.2.2.1 s.2.2.2.2.2.1 s.2.2.2.2.2.2.1 s.2.2.2.2.2.2.2.1 s.2.2.2.2.2.2.2.2.1 s.2.2.2.2.2.2.2.2.2.1 s.2.2.2.2.2.2.2.2.2.2.1 s.2.2.2.2.2.2.2.2.2.2.2=Pu.qn (Gu u p1) (Gw u p1) (sY p1) 0 s:=Pu.o3 (λ(k:Nat) (s:Int×Int×Int×Int×(List Int)×(List Int)×(List aM)×(List aA)×(List ar)×(List ah)×(List br)×Int) (i:Int)=>dM u k p1 i s.1 s.2.1 s.2.2.1 s.2.2.2.1 s.2.2.2.2.1 s.2.2.2.2.2.1 s.2.2.2.2.2.2.1 s.2.2.2.2.2.2.2.1 s.2.2.2.2.2.2.2.2.1 s.2.2.2.2.2.2.2.2.2.1 s.2.2.2.2.2.2.2.2.2.2.1 s.2.2.2.2.2.2.2.2.2.2.2) hn (λ_ _ _=>rfl) s hk
def p5(u:Nat)(x41 x42:Int)(x43 x44:Int)(x45 x46:List Int)(x47:List aM)(x48:List aA)(x49:List ar)(x50:List ah)(x51:List br)(x52:Int):Option World:=
 (qx u (World.mk (eG.mk x41 x42 x43 x44) (bV.mk x45) x46 x47 x48 x49 x50 x51 x52) 6000).bind λr53=>some r53
def eo(u ib:Nat)(p0:World)(x14 x15:Int)(x16 x17 x18:Int)(x19 x20:List Int)(x21:List aM)(x22:List aA)(x23:List ar)(x24:List ah)(x25:List br)(x26:Int):Option World:=match ib with
  | 0=>none
  | ib+1=>bif decide (x14 < (p0.fN.length:Int)) then (fH u (World.mk (eG.mk x15 x16 x17 x18) (bV.mk x19) x20 x21 x22 x23 x24 x25 x26) (AT.mk 1 x14 0 (ah.mk 0 0 []))).bind λr40=>eo u ib p0 (aS .i64 x14 1) r40.2.fC.aG r40.2.fC.bi r40.2.fC.a9 r40.2.fC.bd r40.2.fT.bP r40.2.cF r40.2.cu r40.2.fN r40.2.fD r40.2.bM r40.2.dv r40.2.ch else p5 u x15 x16 x17 x18 x19 x20 x21 x22 x23 x24 x25 x26
def p6(u:Nat)(p0:World):Option World:=
 eo u u p0 0 p0.fC.aG p0.fC.bi p0.fC.a9 p0.fC.bd p0.fT.bP p0.cF p0.cu p0.fN p0.fD p0.bM p0.dv p0.ch
def H7(u:Nat)(p0:World)(s:Int×Int×Int×Int×(List Int)×(List Int)×(List aM)×(List aA)×(List ar)×(List ah)×(List br)×Int):Option World:=p5 u s.1 s.2.1 s.2.2.1 s.2.2.2.1 s.2.2.2.2.1 s.2.2.2.2.2.1 s.2.2.2.2.2.2.1 s.2.2.2.2.2.2.2.1 s.2.2.2.2.2.2.2.2.1 s.2.2.2.2.2.2.2.2.2.1 s.2.2.2.2.2.2.2.2.2.2.1 s.2.2.2.2.2.2.2.2.2.2.2
def H8(u:Nat)(p0:World)(i_:Nat)(s:Int×Int×Int×Int×(List Int)×(List Int)×(List aM)×(List aA)×(List ar)×(List ah)×(List br)×Int)(k_:(Int×Int×Int×Int×(List Int)×(List Int)×(List aM)×(List aA)×(List ar)×(List ah)×(List br)×Int)->Option World):Option World:=(fH u (World.mk (eG.mk s.1 s.2.1 s.2.2.1 s.2.2.2.1) (bV.mk s.2.2.2.2.1) s.2.2.2.2.2.1 s.2.2.2.2.2.2.1 s.2.2.2.2.2.2.2.1 s.2.2.2.2.2.2.2.2.1 s.2.2.2.2.2.2.2.2.2.1 s.2.2.2.2.2.2.2.2.2.2.1 s.2.2.2.2.2.2.2.2.2.2.2) (AT.mk 1 (i_:Int) 0 (ah.mk 0 0 []))).bind λr40=>k_ (r40.2.fC.aG,r40.2.fC.bi,r40.2.fC.a9,r40.2.fC.bd,r40.2.fT.bP,r40.2.cF,r40.2.cu,r40.2.fN,r40.2.fD,r40.2.bM,r40.2.dv,r40.2.ch)
theorem ZS(u:Nat)(p0:World)(s:Int×Int×Int×Int×(List Int)×(List Int)×(List aM)×(List aA)×(List ar)×(List ah)×(List br)×Int)(k:Nat)(hn:((p0.fN.length:Int):Int)<=9223372036854775807)(hk:sY (p0.fN.length:Int) < k):eo u k p0 0 s.1 s.2.1 s.2.2.1 s.2.2.2.1 s.2.2.2.2.1 s.2.2.2.2.2.1 s.2.2.2.2.2.2.1 s.2.2.2.2.2.2.2.1 s.2.2.2.2.2.2.2.2.1 s.2.2.2.2.2.2.2.2.2.1 s.2.2.2.2.2.2.2.2.2.2.1 s.2.2.2.2.2.2.2.2.2.2.2=Pu.qn (H7 u p0) (H8 u p0) (sY (p0.fN.length:Int)) 0 s:=Pu.o3 (λ(k:Nat) (s:Int×Int×Int×Int×(List Int)×(List Int)×(List aM)×(List aA)×(List ar)×(List ah)×(List br)×Int) (i:Int)=>eo u k p0 i s.1 s.2.1 s.2.2.1 s.2.2.2.1 s.2.2.2.2.1 s.2.2.2.2.2.1 s.2.2.2.2.2.2.1 s.2.2.2.2.2.2.2.1 s.2.2.2.2.2.2.2.2.1 s.2.2.2.2.2.2.2.2.2.1 s.2.2.2.2.2.2.2.2.2.2.1 s.2.2.2.2.2.2.2.2.2.2.2) hn (λ_ _ _=>rfl) s hk
def Aj(u:Nat)(p1:Int):Option Int:=
 some p1
def gn(u kh:Nat)(p1 x18:Int)(x19 x20:Int)(x21 x22:Int)(x23 x24:List Int)(x25:List aM)(x26:List aA)(x27:List ar)(x28:List ah)(x29:List br)(x30:Int):Option Int:=match kh with
  | 0=>none
  | kh+1=>bif decide (x18 < p1) then (k6 u (World.mk (eG.mk x19 x20 x21 x22) (bV.mk x23) x24 x25 x26 x27 x28 x29 x30)).bind λr44=>bif r44 then some x18 else (p6 u (World.mk (eG.mk x19 x20 x21 x22) (bV.mk x23) x24 x25 x26 x27 x28 x29 x30)).bind λr45=>gn u kh p1 (aS .i64 x18 1) r45.fC.aG r45.fC.bi r45.fC.a9 r45.fC.bd r45.fT.bP r45.cF r45.cu r45.fN r45.fD r45.bM r45.dv r45.ch else Aj u p1
def tu(u:Nat)(p1:Int)(x3:Bool)(p0:World):Option Int:=
 bif x3 then some 0 else (ud u p0).bind λr4=>gn u u p1 0 r4.fC.aG r4.fC.bi r4.fC.a9 r4.fC.bd r4.fT.bP r4.cF r4.cu r4.fN r4.fD r4.bM r4.dv r4.ch
def un(u:Nat)(p0:World)(p1:Int):Option Int:=
 (zR u p0).bind λr1=>bif !r1 then tu u p1 true p0 else (bN u p1 0 500).bind λr2=>tu u p1 (!r2) p0
def Ll(u:Nat)(p1:Int)(s:Int×Int×Int×Int×(List Int)×(List Int)×(List aM)×(List aA)×(List ar)×(List ah)×(List br)×Int):Option Int:=Aj u p1
def Lm(u:Nat)(p1:Int)(i_:Nat)(s:Int×Int×Int×Int×(List Int)×(List Int)×(List aM)×(List aA)×(List ar)×(List ah)×(List br)×Int)(k_:(Int×Int×Int×Int×(List Int)×(List Int)×(List aM)×(List aA)×(List ar)×(List ah)×(List br)×Int)->Option Int):Option Int:=(k6 u (World.mk (eG.mk s.1 s.2.1 s.2.2.1 s.2.2.2.1) (bV.mk s.2.2.2.2.1) s.2.2.2.2.2.1 s.2.2.2.2.2.2.1 s.2.2.2.2.2.2.2.1 s.2.2.2.2.2.2.2.2.1 s.2.2.2.2.2.2.2.2.2.1 s.2.2.2.2.2.2.2.2.2.2.1 s.2.2.2.2.2.2.2.2.2.2.2)).bind λr44=>bif r44 then some (i_:Int) else (p6 u (World.mk (eG.mk s.1 s.2.1 s.2.2.1 s.2.2.2.1) (bV.mk s.2.2.2.2.1) s.2.2.2.2.2.1 s.2.2.2.2.2.2.1 s.2.2.2.2.2.2.2.1 s.2.2.2.2.2.2.2.2.1 s.2.2.2.2.2.2.2.2.2.1 s.2.2.2.2.2.2.2.2.2.2.1 s.2.2.2.2.2.2.2.2.2.2.2)).bind λr45=>k_ (r45.fC.aG,r45.fC.bi,r45.fC.a9,r45.fC.bd,r45.fT.bP,r45.cF,r45.cu,r45.fN,r45.fD,r45.bM,r45.dv,r45.ch)
theorem qci(u:Nat)(p1:Int)(s:Int×Int×Int×Int×(List Int)×(List Int)×(List aM)×(List aA)×(List ar)×(List ah)×(List br)×Int)(k:Nat)(hn:(p1:Int)<=9223372036854775807)(hk:sY p1 < k):gn u k p1 0 s.1 s.2.1 s.2.2.1 s.2.2.2.1 s.2.2.2.2.1 s.2.2.2.2.2.1 s.2.2.2.2.2.2.1 s.2.2.2.2.2.2.2.1 s.2.2.2.2.2.2.2.2.1 s.2.2.2.2.2.2.2.2.2.1 s.2.2.2.2.2.2.2.2.2.2.1 s.2.2.2.2.2.2.2.2.2.2.2=Pu.qn (Ll u p1) (Lm u p1) (sY p1) 0 s:=Pu.o3 (λ(k:Nat) (s:Int×Int×Int×Int×(List Int)×(List Int)×(List aM)×(List aA)×(List ar)×(List ah)×(List br)×Int) (i:Int)=>gn u k p1 i s.1 s.2.1 s.2.2.1 s.2.2.2.1 s.2.2.2.2.1 s.2.2.2.2.2.1 s.2.2.2.2.2.2.1 s.2.2.2.2.2.2.2.1 s.2.2.2.2.2.2.2.2.1 s.2.2.2.2.2.2.2.2.2.1 s.2.2.2.2.2.2.2.2.2.2.1 s.2.2.2.2.2.2.2.2.2.2.2) hn (λ_ _ _=>rfl) s hk
def Cp(u:Nat)(p0 p1:eG):Option Bool:=
 bif p0.aG != p1.aG then some false else bif p0.bi != p1.bi then some false else bif p0.a9 != p1.a9 then some false else bif p0.bd != p1.bd then some false else some true
def EJ(u:Nat)  : Option Bool:=
 some true
def rf(u n5:Nat)(p0 p1:List Int)(x2:Int):Option Bool:=match n5 with
  | 0=>none
  | n5+1=>bif decide (x2 < (p0.length:Int)) then (ce p0 x2).bind λy4=>(ce p1 x2).bind λy5=>bif y4 != y5 then some false else rf u n5 p0 p1 (aS .i64 x2 1) else EJ u
def Cq(u:Nat)(p0 p1:List Int):Option Bool:=
 bif (p0.length:Int) != (p1.length:Int) then some false else rf u u p0 p1 0
def QI(u:Nat)(p0 p1:List Int)(s:Unit):Option Bool:=EJ u
def Hr(u:Nat)(p0 p1:List Int)(y4:Int)(i_:Nat)(s:Unit)(k_:Unit->Option Bool):Option Bool:=(ce p1 (i_:Int)).bind λy5=>bif y4 != y5 then some false else k_ ()
theorem QJ(u:Nat)(p0 p1:List Int)(s:Unit)(k:Nat)(hn:p0.length<=9223372036854775807)(hk:p0.length < k):rf u k p0 p1 0=Pu.bn (QI u p0 p1) (Hr u p0 p1) p0 0 s:=Pu.bw (λ(k:Nat) (s:Unit) (i:Int)=>rf u k p0 p1 i) hn (λ_ _ _=>rfl) s hk
def Cr(u:Nat)(p0 p1:bV):Option Bool:=
 (Cq u p0.bP p1.bP).bind λr1=>bif !r1 then some false else some true
def C8(u:Nat)  : Option Bool:=
 some true
def pv(u mD:Nat)(p0 p1:List Int)(x2:Int):Option Bool:=match mD with
  | 0=>none
  | mD+1=>bif decide (x2 < (p0.length:Int)) then (ce p0 x2).bind λy4=>(ce p1 x2).bind λy5=>bif y4 != y5 then some false else pv u mD p0 p1 (aS .i64 x2 1) else C8 u
def j4(u:Nat)(p0 p1:List Int):Option Bool:=
 bif (p0.length:Int) != (p1.length:Int) then some false else pv u u p0 p1 0
def NY(u:Nat)(p0 p1:List Int)(s:Unit):Option Bool:=C8 u
def FT(u:Nat)(p0 p1:List Int)(y4:Int)(i_:Nat)(s:Unit)(k_:Unit->Option Bool):Option Bool:=(ce p1 (i_:Int)).bind λy5=>bif y4 != y5 then some false else k_ ()
theorem NZ(u:Nat)(p0 p1:List Int)(s:Unit)(k:Nat)(hn:p0.length<=9223372036854775807)(hk:p0.length < k):pv u k p0 p1 0=Pu.bn (NY u p0 p1) (FT u p0 p1) p0 0 s:=Pu.bw (λ(k:Nat) (s:Unit) (i:Int)=>pv u k p0 p1 i) hn (λ_ _ _=>rfl) s hk
def vE(u:Nat)(p0 p1:aM):Option Bool:=
 (j4 u p0.fB p1.fB).bind λr1=>bif !r1 then some false else some true
def Bm(u:Nat)  : Option Bool:=
 some true
def nR(u lj:Nat)(p0 p1:List aM)(x2:Int):Option Bool:=match lj with
  | 0=>none
  | lj+1=>bif decide (x2 < (p0.length:Int)) then (ce p0 x2).bind λy4=>(ce p1 x2).bind λy5=>(vE u y4 y5).bind λr6=>bif !r6 then some false else nR u lj p0 p1 (aS .i64 x2 1) else Bm u
def wR(u:Nat)(p0 p1:List aM):Option Bool:=
 bif (p0.length:Int) != (p1.length:Int) then some false else nR u u p0 p1 0
def Mm(u:Nat)(p0 p1:List aM)(s:Unit):Option Bool:=Bm u
def EK(u:Nat)(p0 p1:List aM)(y4:aM)(i_:Nat)(s:Unit)(k_:Unit->Option Bool):Option Bool:=(ce p1 (i_:Int)).bind λy5=>(vE u y4 y5).bind λr6=>bif !r6 then some false else k_ ()
theorem Mn(u:Nat)(p0 p1:List aM)(s:Unit)(k:Nat)(hn:p0.length<=9223372036854775807)(hk:p0.length < k):nR u k p0 p1 0=Pu.bn (Mm u p0 p1) (EK u p0 p1) p0 0 s:=Pu.bw (λ(k:Nat) (s:Unit) (i:Int)=>nR u k p0 p1 i) hn (λ_ _ _=>rfl) s hk
def Bn(u:Nat)(p0 p1:bQ):Option Bool:=
 bif p0.fW != p1.fW then some false else bif p0.fS != p1.fS then some false else some true
def EM(u:Nat)  : Option Bool:=
 some true
def rh(u n8:Nat)(p0 p1:List bQ)(x2:Int):Option Bool:=match n8 with
  | 0=>none
  | n8+1=>bif decide (x2 < (p0.length:Int)) then (ce p0 x2).bind λy4=>(ce p1 x2).bind λy5=>(Bn u y4 y5).bind λr6=>bif !r6 then some false else rh u n8 p0 p1 (aS .i64 x2 1) else EM u
def Ct(u:Nat)(p0 p1:List bQ):Option Bool:=
 bif (p0.length:Int) != (p1.length:Int) then some false else rh u u p0 p1 0
def QK(u:Nat)(p0 p1:List bQ)(s:Unit):Option Bool:=EM u
def Hs(u:Nat)(p0 p1:List bQ)(y4:bQ)(i_:Nat)(s:Unit)(k_:Unit->Option Bool):Option Bool:=(ce p1 (i_:Int)).bind λy5=>(Bn u y4 y5).bind λr6=>bif !r6 then some false else k_ ()
theorem QL(u:Nat)(p0 p1:List bQ)(s:Unit)(k:Nat)(hn:p0.length<=9223372036854775807)(hk:p0.length < k):rh u k p0 p1 0=Pu.bn (QK u p0 p1) (Hs u p0 p1) p0 0 s:=Pu.bw (λ(k:Nat) (s:Unit) (i:Int)=>rh u k p0 p1 i) hn (λ_ _ _=>rfl) s hk
def sB(u:Nat)(p0 p1:ae):Option Bool:=
 bif p0.aN != p1.aN then some false else bif p0.aG != p1.aG then some false else bif p0.aV != p1.aV then some false else (Ct u p0.aI p1.aI).bind λr1=>bif !r1 then some false else some true
def Ak(u:Nat)(p0 p1:aY):Option Bool:=
 bif p0.aT != p1.aT then some false else (j4 u p0.bj p1.bj).bind λr1=>bif !r1 then some false else some true
def Bo(u:Nat)(p0 p1:Kid):Option Bool:=
 bif p0.gj != p1.gj then some false else bif p0.bJ != p1.bJ then some false else bif p0.bG != p1.bG then some false else bif p0.mg != p1.mg then some false else bif p0.ef != p1.ef then some false else some true
def EN(u:Nat)  : Option Bool:=
 some true
def ri(u n6:Nat)(p0 p1:List Kid)(x2:Int):Option Bool:=match n6 with
  | 0=>none
  | n6+1=>bif decide (x2 < (p0.length:Int)) then (ce p0 x2).bind λy4=>(ce p1 x2).bind λy5=>(Bo u y4 y5).bind λr6=>bif !r6 then some false else ri u n6 p0 p1 (aS .i64 x2 1) else EN u
def Cu(u:Nat)(p0 p1:List Kid):Option Bool:=
 bif (p0.length:Int) != (p1.length:Int) then some false else ri u u p0 p1 0
def QM(u:Nat)(p0 p1:List Kid)(s:Unit):Option Bool:=EN u
def Ht(u:Nat)(p0 p1:List Kid)(y4:Kid)(i_:Nat)(s:Unit)(k_:Unit->Option Bool):Option Bool:=(ce p1 (i_:Int)).bind λy5=>(Bo u y4 y5).bind λr6=>bif !r6 then some false else k_ ()
theorem QN(u:Nat)(p0 p1:List Kid)(s:Unit)(k:Nat)(hn:p0.length<=9223372036854775807)(hk:p0.length < k):ri u k p0 p1 0=Pu.bn (QM u p0 p1) (Ht u p0 p1) p0 0 s:=Pu.bw (λ(k:Nat) (s:Unit) (i:Int)=>ri u k p0 p1 i) hn (λ_ _ _=>rfl) s hk
def yM(u:Nat)(p0 p1:aA):Option Bool:=
 bif !(p0.eh == p1.eh) then some false else bif p0.bh != p1.bh then some false else bif p0.ba != p1.ba then some false else (sB u p0.ay p1.ay).bind λr1=>bif !r1 then some false else (Ak u p0.aZ p1.aZ).bind λr2=>bif !r2 then some false else bif p0.aH != p1.aH then some false else (Cu u p0.aW p1.aW).bind λr3=>bif !r3 then some false else bif p0.a7 != p1.a7 then some false else some true
def C9(u:Nat)  : Option Bool:=
 some true
def pw(u mF:Nat)(p0 p1:List aA)(x2:Int):Option Bool:=match mF with
  | 0=>none
  | mF+1=>bif decide (x2 < (p0.length:Int)) then (ce p0 x2).bind λy4=>(ce p1 x2).bind λy5=>(yM u y4 y5).bind λr6=>bif !r6 then some false else pw u mF p0 p1 (aS .i64 x2 1) else C9 u
def Al(u:Nat)(p0 p1:List aA):Option Bool:=
 bif (p0.length:Int) != (p1.length:Int) then some false else pw u u p0 p1 0
def N0(u:Nat)(p0 p1:List aA)(s:Unit):Option Bool:=C9 u
def FU(u:Nat)(p0 p1:List aA)(y4:aA)(i_:Nat)(s:Unit)(k_:Unit->Option Bool):Option Bool:=(ce p1 (i_:Int)).bind λy5=>(yM u y4 y5).bind λr6=>bif !r6 then some false else k_ ()
theorem N3(u:Nat)(p0 p1:List aA)(s:Unit)(k:Nat)(hn:p0.length<=9223372036854775807)(hk:p0.length < k):pw u k p0 p1 0=Pu.bn (N0 u p0 p1) (FU u p0 p1) p0 0 s:=Pu.bw (λ(k:Nat) (s:Unit) (i:Int)=>pw u k p0 p1 i) hn (λ_ _ _=>rfl) s hk
def s4(u:Nat)(p0 p1:ct):Option Bool:=
 bif p0.aN != p1.aN then some false else bif p0.b9 != p1.b9 then some false else bif p0.aV != p1.aV then some false else some true
def Bp(u:Nat)(p0 p1:bR):Option Bool:=
 bif p0.eK != p1.eK then some false else bif p0.Gl != p1.Gl then some false else (j4 u p0.fB p1.fB).bind λr1=>bif !r1 then some false else (s4 u p0.fR p1.fR).bind λr2=>bif !r2 then some false else some true
def EO(u:Nat)  : Option Bool:=
 some true
def rj(u n7:Nat)(p0 p1:List bR)(x2:Int):Option Bool:=match n7 with
  | 0=>none
  | n7+1=>bif decide (x2 < (p0.length:Int)) then (ce p0 x2).bind λy4=>(ce p1 x2).bind λy5=>(Bp u y4 y5).bind λr6=>bif !r6 then some false else rj u n7 p0 p1 (aS .i64 x2 1) else EO u
def Cv(u:Nat)(p0 p1:List bR):Option Bool:=
 bif (p0.length:Int) != (p1.length:Int) then some false else rj u u p0 p1 0
def QO(u:Nat)(p0 p1:List bR)(s:Unit):Option Bool:=EO u
def Hu(u:Nat)(p0 p1:List bR)(y4:bR)(i_:Nat)(s:Unit)(k_:Unit->Option Bool):Option Bool:=(ce p1 (i_:Int)).bind λy5=>(Bp u y4 y5).bind λr6=>bif !r6 then some false else k_ ()
theorem QP(u:Nat)(p0 p1:List bR)(s:Unit)(k:Nat)(hn:p0.length<=9223372036854775807)(hk:p0.length < k):rj u k p0 p1 0=Pu.bn (QO u p0 p1) (Hu u p0 p1) p0 0 s:=Pu.bw (λ(k:Nat) (s:Unit) (i:Int)=>rj u k p0 p1 i) hn (λ_ _ _=>rfl) s hk
def yN(u:Nat)(p0 p1:ar):Option Bool:=
 (j4 u p0.fA p1.fA).bind λr1=>bif !r1 then some false else (j4 u p0.fB p1.fB).bind λr2=>bif !r2 then some false else (s4 u p0.fR p1.fR).bind λr3=>bif !r3 then some false else (Cv u p0.fP p1.fP).bind λr4=>bif !r4 then some false else some true
def Da(u:Nat)  : Option Bool:=
 some true
def pz(u mE:Nat)(p0 p1:List ar)(x2:Int):Option Bool:=match mE with
  | 0=>none
  | mE+1=>bif decide (x2 < (p0.length:Int)) then (ce p0 x2).bind λy4=>(ce p1 x2).bind λy5=>(yN u y4 y5).bind λr6=>bif !r6 then some false else pz u mE p0 p1 (aS .i64 x2 1) else Da u
def Am(u:Nat)(p0 p1:List ar):Option Bool:=
 bif (p0.length:Int) != (p1.length:Int) then some false else pz u u p0 p1 0
def N4(u:Nat)(p0 p1:List ar)(s:Unit):Option Bool:=Da u
def FV(u:Nat)(p0 p1:List ar)(y4:ar)(i_:Nat)(s:Unit)(k_:Unit->Option Bool):Option Bool:=(ce p1 (i_:Int)).bind λy5=>(yN u y4 y5).bind λr6=>bif !r6 then some false else k_ ()
theorem N5(u:Nat)(p0 p1:List ar)(s:Unit)(k:Nat)(hn:p0.length<=9223372036854775807)(hk:p0.length < k):pz u k p0 p1 0=Pu.bn (N4 u p0 p1) (FV u p0 p1) p0 0 s:=Pu.bw (λ(k:Nat) (s:Unit) (i:Int)=>pz u k p0 p1 i) hn (λ_ _ _=>rfl) s hk
def s5(u:Nat)(p0 p1:ah):Option Bool:=
 bif p0.cM != p1.cM then some false else bif p0.w9 != p1.w9 then some false else (j4 u p0.fB p1.fB).bind λr1=>bif !r1 then some false else some true
def An(u:Nat)  : Option Bool:=
 some true
def mv(u kn:Nat)(p0 p1:List ah)(x2:Int):Option Bool:=match kn with
  | 0=>none
  | kn+1=>bif decide (x2 < (p0.length:Int)) then (ce p0 x2).bind λy4=>(ce p1 x2).bind λy5=>(s5 u y4 y5).bind λr6=>bif !r6 then some false else mv u kn p0 p1 (aS .i64 x2 1) else An u
def uo(u:Nat)(p0 p1:List ah):Option Bool:=
 bif (p0.length:Int) != (p1.length:Int) then some false else mv u u p0 p1 0
def Ln(u:Nat)(p0 p1:List ah)(s:Unit):Option Bool:=An u
def DE(u:Nat)(p0 p1:List ah)(y4:ah)(i_:Nat)(s:Unit)(k_:Unit->Option Bool):Option Bool:=(ce p1 (i_:Int)).bind λy5=>(s5 u y4 y5).bind λr6=>bif !r6 then some false else k_ ()
theorem Lo(u:Nat)(p0 p1:List ah)(s:Unit)(k:Nat)(hn:p0.length<=9223372036854775807)(hk:p0.length < k):mv u k p0 p1 0=Pu.bn (Ln u p0 p1) (DE u p0 p1) p0 0 s:=Pu.bw (λ(k:Nat) (s:Unit) (i:Int)=>mv u k p0 p1 i) hn (λ_ _ _=>rfl) s hk
def yO(u:Nat)(p0 p1:br):Option Bool:=
 bif p0.cM != p1.cM then some false else bif p0.w9 != p1.w9 then some false else bif p0.fI != p1.fI then some false else some true
def Db(u:Nat)  : Option Bool:=
 some true
def pA(u mG:Nat)(p0 p1:List br)(x2:Int):Option Bool:=match mG with
  | 0=>none
  | mG+1=>bif decide (x2 < (p0.length:Int)) then (ce p0 x2).bind λy4=>(ce p1 x2).bind λy5=>(yO u y4 y5).bind λr6=>bif !r6 then some false else pA u mG p0 p1 (aS .i64 x2 1) else Db u
def Ao(u:Nat)(p0 p1:List br):Option Bool:=
 bif (p0.length:Int) != (p1.length:Int) then some false else pA u u p0 p1 0
def N6(u:Nat)(p0 p1:List br)(s:Unit):Option Bool:=Db u
def FW(u:Nat)(p0 p1:List br)(y4:br)(i_:Nat)(s:Unit)(k_:Unit->Option Bool):Option Bool:=(ce p1 (i_:Int)).bind λy5=>(yO u y4 y5).bind λr6=>bif !r6 then some false else k_ ()
theorem N7(u:Nat)(p0 p1:List br)(s:Unit)(k:Nat)(hn:p0.length<=9223372036854775807)(hk:p0.length < k):pA u k p0 p1 0=Pu.bn (N6 u p0 p1) (FW u p0 p1) p0 0 s:=Pu.bw (λ(k:Nat) (s:Unit) (i:Int)=>pA u k p0 p1 i) hn (λ_ _ _=>rfl) s hk
def Ap(u:Nat)(p0 p1:World):Option Bool:=
 (Cp u p0.fC p1.fC).bind λr1=>bif !r1 then some false else (Cr u p0.fT p1.fT).bind λr2=>bif !r2 then some false else (j4 u p0.cF p1.cF).bind λr3=>bif !r3 then some false else (wR u p0.cu p1.cu).bind λr4=>bif !r4 then some false else (Al u p0.fN p1.fN).bind λr5=>bif !r5 then some false else (Am u p0.fD p1.fD).bind λr6=>bif !r6 then some false else (uo u p0.bM p1.bM).bind λr7=>bif !r7 then some false else (Ao u p0.dv p1.dv).bind λr8=>bif !r8 then some false else bif p0.ch != p1.ch then some false else some true
def kP(u:Nat)(p0:World)(p1:Int):Option Bool:=
 (yZ u p0 1048576).bind λr1=>bif decide (r1 < 0) then some true else (rE u p0).bind λr2=>(t1 u r2 p1).bind λr3=>(rE u p0).bind λr4=>(un u r4 p1).bind λr5=>bif r5 != r3 then some false else (rE u p0).bind λr6=>(Ap u r4 r6).bind λr7=>bif !r7 then some false else some true
end Go.Tm
