/- Go functions as pure functions (printed). -/
import Derived.Test.YthdbkkomigbflaaGreatCFnExactUselessF3
set_option maxRecDepth 100000
set_option maxHeartbeats 20000000
set_option linter.unusedVariables false
set_option linter.unusedSimpArgs false
namespace Go.Tm
structure vm where
  aS:Int
  gB:Int
  eo:Int
  ik:Int
  deriving DecidableEq
def pG (x:vm):List T:=[.int .i64 x.aS,.int .i64 x.gB,.int .i64 x.eo,.int .i64 x.ik]
def vm.wf (x:vm):Prop:=(lX .i64) x.aS∧(lX .i64) x.gB∧(lX .i64) x.eo∧(lX .i64) x.ik∧True
structure co where
  cx:List Int
  deriving DecidableEq
def hH (x:co):List T:=[.sl 1 (x.cx.map (aw .i64))]
def co.wf (x:co):Prop:=(Hs (lX .i64)) x.cx∧True
structure ba where
  fB:List Int
  deriving DecidableEq
def bd (x:ba):List T:=[.sl 1 (x.fB.map (aw .u8))]
def ba.wf (x:ba):Prop:=(Hs (lX .u8)) x.fB∧True
structure bN where
  fW:Int
  fS:Int
  deriving DecidableEq
def aH (x:bN):List T:=[.int .i64 x.fW,.int .i64 x.fS]
def bN.wf (x:bN):Prop:=(lX .i64) x.fW∧(lX .i64) x.fS∧True
structure af where
  aP:Int
  aS:Int
  aY:Int
  aD:List bN
  deriving DecidableEq
def ai (x:af):List T:=[.int .i64 x.aP,.int .i64 x.aS,.int .i64 x.aY,.sl 2 (x.aD.map aH)]
def af.wf (x:af):Prop:=(lX .i64) x.aP∧(lX .i64) x.aS∧(lX .i64) x.aY∧(Hs bN.wf) x.aD∧True
structure aX where
  aT:Int
  bg:List Int
  deriving DecidableEq
def cJ (x:aX):List T:=[.int .i64 x.aT,.sl 1 (x.bg.map (aw .u8))]
def aX.wf (x:aX):Prop:=(lX .i64) x.aT∧(Hs (lX .u8)) x.bg∧True
structure Kid where
  fd:Int
  bx:Int
  bL:Int
  qP:Int
  c8:Int
  deriving DecidableEq
def am (x:Kid):List T:=[.int .i64 x.fd,.int .i64 x.bx,.int .i64 x.bL,.int .i64 x.qP,.int .i64 x.c8]
def Kid.wf (x:Kid):Prop:=(lX .i64) x.fd∧(lX .i64) x.bx∧(lX .i64) x.bL∧(lX .i64) x.qP∧(lX .i64) x.c8∧True
structure aA where
  fM:Bool
  bf:Int
  be:Int
  av:af
  a7:aX
  aJ:Int
  aO:List Kid
  a8:Int
  deriving DecidableEq
def ay (x:aA):List T:=[.bool x.fM,.int .i64 x.bf,.int .i64 x.be,.int .i64 x.av.aP,.int .i64 x.av.aS,.int .i64 x.av.aY,.sl 2 (x.av.aD.map aH),.int .i64 x.a7.aT,.sl 1 (x.a7.bg.map (aw .u8)),.int .i64 x.aJ,.sl 5 (x.aO.map am),.int .i64 x.a8]
def aA.wf (x:aA):Prop:=(fun _=>True) x.fM∧(lX .i64) x.bf∧(lX .i64) x.be∧af.wf x.av∧aX.wf x.a7∧(lX .i64) x.aJ∧(Hs Kid.wf) x.aO∧(lX .i64) x.a8∧True
structure c7 where
  aP:Int
  cL:Int
  aY:Int
  deriving DecidableEq
def fk (x:c7):List T:=[.int .i64 x.aP,.int .i64 x.cL,.int .i64 x.aY]
def c7.wf (x:c7):Prop:=(lX .i64) x.aP∧(lX .i64) x.cL∧(lX .i64) x.aY∧True
structure ca where
  d1:Int
  Cl:Int
  fB:List Int
  fR:c7
  deriving DecidableEq
def aU (x:ca):List T:=[.int .i64 x.d1,.int .i64 x.Cl,.sl 1 (x.fB.map (aw .u8)),.int .i64 x.fR.aP,.int .i64 x.fR.cL,.int .i64 x.fR.aY]
def ca.wf (x:ca):Prop:=(lX .i64) x.d1∧(lX .i64) x.Cl∧(Hs (lX .u8)) x.fB∧c7.wf x.fR∧True
structure aG where
  fA:List Int
  fB:List Int
  fR:c7
  fP:List ca
  deriving DecidableEq
def aB (x:aG):List T:=[.sl 1 (x.fA.map (aw .u8)),.sl 1 (x.fB.map (aw .u8)),.int .i64 x.fR.aP,.int .i64 x.fR.cL,.int .i64 x.fR.aY,.sl 6 (x.fP.map aU)]
def aG.wf (x:aG):Prop:=(Hs (lX .u8)) x.fA∧(Hs (lX .u8)) x.fB∧c7.wf x.fR∧(Hs ca.wf) x.fP∧True
structure au where
  du:Int
  G2:Int
  fB:List Int
  deriving DecidableEq
def aI (x:au):List T:=[.int .i64 x.du,.int .i64 x.G2,.sl 1 (x.fB.map (aw .u8))]
def au.wf (x:au):Prop:=(lX .i64) x.du∧(lX .i64) x.G2∧(Hs (lX .u8)) x.fB∧True
structure dC where
  du:Int
  G2:Int
  fI:Int
  deriving DecidableEq
def cp (x:dC):List T:=[.int .i64 x.du,.int .i64 x.G2,.int .i64 x.fI]
def dC.wf (x:dC):Prop:=(lX .i64) x.du∧(lX .i64) x.G2∧(lX .i64) x.fI∧True
structure World where
  fC:vm
  fT:co
  jj:List Int
  f6:List ba
  fN:List aA
  fD:List aG
  dX:List au
  p5:List dC
  qO:Int
  deriving DecidableEq
def bw (x:World):List T:=[.int .i64 x.fC.aS,.int .i64 x.fC.gB,.int .i64 x.fC.eo,.int .i64 x.fC.ik,.sl 1 (x.fT.cx.map (aw .i64)),.sl 1 (x.jj.map (aw .u8)),.sl 1 (x.f6.map bd),.sl 12 (x.fN.map ay),.sl 6 (x.fD.map aB),.sl 3 (x.dX.map aI),.sl 3 (x.p5.map cp),.int .i64 x.qO]
def World.wf (x:World):Prop:=vm.wf x.fC∧co.wf x.fT∧(Hs (lX .u8)) x.jj∧(Hs ba.wf) x.f6∧(Hs aA.wf) x.fN∧(Hs aG.wf) x.fD∧(Hs au.wf) x.dX∧(Hs dC.wf) x.p5∧(lX .i64) x.qO∧True
structure ei where
  bA:Int
  aP:Int
  av:af
  bx:Int
  bL:Int
  fI:Int
  fB:List Int
  deriving DecidableEq
def dA (x:ei):List T:=[.int .i64 x.bA,.int .i64 x.aP,.int .i64 x.av.aP,.int .i64 x.av.aS,.int .i64 x.av.aY,.sl 2 (x.av.aD.map aH),.int .i64 x.bx,.int .i64 x.bL,.int .i64 x.fI,.sl 1 (x.fB.map (aw .u8))]
def ei.wf (x:ei):Prop:=(lX .i64) x.bA∧(lX .i64) x.aP∧af.wf x.av∧(lX .i64) x.bx∧(lX .i64) x.bL∧(lX .i64) x.fI∧(Hs (lX .u8)) x.fB∧True
structure Act where
  fN:aA
  sW:List au
  deriving DecidableEq
def tM (x:Act):List T:=[.bool x.fN.fM,.int .i64 x.fN.bf,.int .i64 x.fN.be,.int .i64 x.fN.av.aP,.int .i64 x.fN.av.aS,.int .i64 x.fN.av.aY,.sl 2 (x.fN.av.aD.map aH),.int .i64 x.fN.a7.aT,.sl 1 (x.fN.a7.bg.map (aw .u8)),.int .i64 x.fN.aJ,.sl 5 (x.fN.aO.map am),.int .i64 x.fN.a8,.sl 3 (x.sW.map aI)]
def Act.wf (x:Act):Prop:=aA.wf x.fN∧(Hs au.wf) x.sW∧True
def BF (u:Nat) (p0:List Int) (p1:Int):Option Int :=
  bif decide ((cy .i64 p1 ((p0.length:Int))) < 0) then (some (-1)) else (some (cy .i64 p1 ((p0.length:Int))))
def yo (u:Nat) (p0:co) (p1:Int):Option Int :=
  (BF u p0.cx p1).bind fun r1=>bif decide (r1 < 0) then (some (-1)) else (some r1)
def gO (u:Nat) (p0:List Int) (p1:Int):Option Int :=
  bif decide ((cy .i64 p1 ((p0.length:Int))) < 0) then (some (-1)) else (some (cy .i64 p1 ((p0.length:Int))))
def rF (u:Nat) (p0:ba) (p1:Int):Option Int :=
  (gO u p0.fB p1).bind fun r1=>bif decide (r1 < 0) then (some (-1)) else (some r1)
def xm (u:Nat) (x9:Int):Option Int :=
  some x9
def jo (u jF:Nat) (p0:List ba) (x3 x4:Int):Option Int:=match jF with
  | 0=>none
  | jF+1=>bif decide (x4 < ((p0.length:Int))) then ((ci p0 x4).bind fun y7=>(rF u y7 x3).bind fun r8=>bif decide (r8 < 0) then (some (-1)) else ((fun z0 z1 z2=>jo u jF z0 z1 z2) p0 r8 (aW .i64 x4 1))) else (xm u x3)
def p6 (u:Nat) (p0:List ba) (p1:Int):Option Int :=
  bif decide ((cy .i64 p1 ((p0.length:Int))) < 0) then (some (-1)) else (jo u u p0 (cy .i64 p1 ((p0.length:Int))) 0)
def G3 (u:Nat) (p0:List ba) (s:Int):Option Int:=(xm u s)
def AB (u:Nat) (p0:List ba) (y7:ba) (i_:Nat) (s:Int) (k_:Int→Option Int):Option Int:=(rF u y7 s).bind fun r8=>bif decide (r8 < 0) then (some (-1)) else ((fun z0 z1 z2=>k_ z1) p0 r8 (aW .i64 (i_:Int) 1))
theorem G4 (u:Nat) (p0:List ba) (s:Int) (k:Nat) (hn:p0.length≤9223372036854775807) (hk:p0.length < k):jo u k p0 s 0=Pu.bt (G3 u p0) (AB u p0) p0 0 s:=Pu.bP (fun (k:Nat) (s i:Int)=>jo u k p0 s i) hn (fun _ _ _=>rfl) s hk
def BG (u:Nat) (p0:List bN) (p1:Int):Option Int :=
  bif decide ((cy .i64 p1 ((p0.length:Int))) < 0) then (some (-1)) else (some (cy .i64 p1 ((p0.length:Int))))
def pH (u:Nat) (p0:af) (p1:Int):Option Int :=
  (BG u p0.aD p1).bind fun r1=>bif decide (r1 < 0) then (some (-1)) else (some r1)
def rG (u:Nat) (p0:aX) (p1:Int):Option Int :=
  (gO u p0.bg p1).bind fun r1=>bif decide (r1 < 0) then (some (-1)) else (some r1)
def uH (u:Nat) (p0:List Kid) (p1:Int):Option Int :=
  bif decide ((cy .i64 p1 ((p0.length:Int))) < 0) then (some (-1)) else (some (cy .i64 p1 ((p0.length:Int))))
def uI (u:Nat) (p0:aA) (p1:Int):Option Int :=
  (pH u p0.av p1).bind fun r1=>bif decide (r1 < 0) then (some (-1)) else ((rG u p0.a7 r1).bind fun r2=>bif decide (r2 < 0) then (some (-1)) else ((uH u p0.aO r2).bind fun r3=>bif decide (r3 < 0) then (some (-1)) else (some r3)))
def za (u:Nat) (x9:Int):Option Int :=
  some x9
def kW (u kO:Nat) (p0:List aA) (x3 x4:Int):Option Int:=match kO with
  | 0=>none
  | kO+1=>bif decide (x4 < ((p0.length:Int))) then ((ci p0 x4).bind fun y7=>(uI u y7 x3).bind fun r8=>bif decide (r8 < 0) then (some (-1)) else ((fun z0 z1 z2=>kW u kO z0 z1 z2) p0 r8 (aW .i64 x4 1))) else (za u x3)
def pp (u:Nat) (p0:List aA) (p1:Int):Option Int :=
  bif decide ((cy .i64 p1 ((p0.length:Int))) < 0) then (some (-1)) else (kW u u p0 (cy .i64 p1 ((p0.length:Int))) 0)
def H5 (u:Nat) (p0:List aA) (s:Int):Option Int:=(za u s)
def BH (u:Nat) (p0:List aA) (y7:aA) (i_:Nat) (s:Int) (k_:Int→Option Int):Option Int:=(uI u y7 s).bind fun r8=>bif decide (r8 < 0) then (some (-1)) else ((fun z0 z1 z2=>k_ z1) p0 r8 (aW .i64 (i_:Int) 1))
theorem H6 (u:Nat) (p0:List aA) (s:Int) (k:Nat) (hn:p0.length≤9223372036854775807) (hk:p0.length < k):kW u k p0 s 0=Pu.bt (H5 u p0) (BH u p0) p0 0 s:=Pu.bP (fun (k:Nat) (s i:Int)=>kW u k p0 s i) hn (fun _ _ _=>rfl) s hk
def xn (u:Nat) (p0:ca) (p1:Int):Option Int :=
  (gO u p0.fB p1).bind fun r1=>bif decide (r1 < 0) then (some (-1)) else (some r1)
def AC (u:Nat) (x9:Int):Option Int :=
  some x9
def mz (u mi:Nat) (p0:List ca) (x3 x4:Int):Option Int:=match mi with
  | 0=>none
  | mi+1=>bif decide (x4 < ((p0.length:Int))) then ((ci p0 x4).bind fun y7=>(xn u y7 x3).bind fun r8=>bif decide (r8 < 0) then (some (-1)) else ((fun z0 z1 z2=>mz u mi z0 z1 z2) p0 r8 (aW .i64 x4 1))) else (AC u x3)
def uJ (u:Nat) (p0:List ca) (p1:Int):Option Int :=
  bif decide ((cy .i64 p1 ((p0.length:Int))) < 0) then (some (-1)) else (mz u u p0 (cy .i64 p1 ((p0.length:Int))) 0)
def Kn (u:Nat) (p0:List ca) (s:Int):Option Int:=(AC u s)
def CG (u:Nat) (p0:List ca) (y7:ca) (i_:Nat) (s:Int) (k_:Int→Option Int):Option Int:=(xn u y7 s).bind fun r8=>bif decide (r8 < 0) then (some (-1)) else ((fun z0 z1 z2=>k_ z1) p0 r8 (aW .i64 (i_:Int) 1))
theorem Ko (u:Nat) (p0:List ca) (s:Int) (k:Nat) (hn:p0.length≤9223372036854775807) (hk:p0.length < k):mz u k p0 s 0=Pu.bt (Kn u p0) (CG u p0) p0 0 s:=Pu.bP (fun (k:Nat) (s i:Int)=>mz u k p0 s i) hn (fun _ _ _=>rfl) s hk
def uK (u:Nat) (p0:aG) (p1:Int):Option Int :=
  (gO u p0.fA p1).bind fun r1=>bif decide (r1 < 0) then (some (-1)) else ((gO u p0.fB r1).bind fun r2=>bif decide (r2 < 0) then (some (-1)) else ((uJ u p0.fP r2).bind fun r3=>bif decide (r3 < 0) then (some (-1)) else (some r3)))
def zb (u:Nat) (x9:Int):Option Int :=
  some x9
def kX (u kN:Nat) (p0:List aG) (x3 x4:Int):Option Int:=match kN with
  | 0=>none
  | kN+1=>bif decide (x4 < ((p0.length:Int))) then ((ci p0 x4).bind fun y7=>(uK u y7 x3).bind fun r8=>bif decide (r8 < 0) then (some (-1)) else ((fun z0 z1 z2=>kX u kN z0 z1 z2) p0 r8 (aW .i64 x4 1))) else (zb u x3)
def nH (u:Nat) (p0:List aG) (p1:Int):Option Int :=
  bif decide ((cy .i64 p1 ((p0.length:Int))) < 0) then (some (-1)) else (kX u u p0 (cy .i64 p1 ((p0.length:Int))) 0)
def H7 (u:Nat) (p0:List aG) (s:Int):Option Int:=(zb u s)
def BI (u:Nat) (p0:List aG) (y7:aG) (i_:Nat) (s:Int) (k_:Int→Option Int):Option Int:=(uK u y7 s).bind fun r8=>bif decide (r8 < 0) then (some (-1)) else ((fun z0 z1 z2=>k_ z1) p0 r8 (aW .i64 (i_:Int) 1))
theorem H8 (u:Nat) (p0:List aG) (s:Int) (k:Nat) (hn:p0.length≤9223372036854775807) (hk:p0.length < k):kX u k p0 s 0=Pu.bt (H7 u p0) (BI u p0) p0 0 s:=Pu.bP (fun (k:Nat) (s i:Int)=>kX u k p0 s i) hn (fun _ _ _=>rfl) s hk
def p7 (u:Nat) (p0:au) (p1:Int):Option Int :=
  (gO u p0.fB p1).bind fun r1=>bif decide (r1 < 0) then (some (-1)) else (some r1)
def vo (u:Nat) (x9:Int):Option Int :=
  some x9
def iA (u iY:Nat) (p0:List au) (x3 x4:Int):Option Int:=match iY with
  | 0=>none
  | iY+1=>bif decide (x4 < ((p0.length:Int))) then ((ci p0 x4).bind fun y7=>(p7 u y7 x3).bind fun r8=>bif decide (r8 < 0) then (some (-1)) else ((fun z0 z1 z2=>iA u iY z0 z1 z2) p0 r8 (aW .i64 x4 1))) else (vo u x3)
def iB (u:Nat) (p0:List au) (p1:Int):Option Int :=
  bif decide ((cy .i64 p1 ((p0.length:Int))) < 0) then (some (-1)) else (iA u u p0 (cy .i64 p1 ((p0.length:Int))) 0)
def Gb (u:Nat) (p0:List au) (s:Int):Option Int:=(vo u s)
def zS (u:Nat) (p0:List au) (y7:au) (i_:Nat) (s:Int) (k_:Int→Option Int):Option Int:=(p7 u y7 s).bind fun r8=>bif decide (r8 < 0) then (some (-1)) else ((fun z0 z1 z2=>k_ z1) p0 r8 (aW .i64 (i_:Int) 1))
theorem Gd (u:Nat) (p0:List au) (s:Int) (k:Nat) (hn:p0.length≤9223372036854775807) (hk:p0.length < k):iA u k p0 s 0=Pu.bt (Gb u p0) (zS u p0) p0 0 s:=Pu.bP (fun (k:Nat) (s i:Int)=>iA u k p0 s i) hn (fun _ _ _=>rfl) s hk
def jM (u:Nat) (p0:List dC) (p1:Int):Option Int :=
  bif decide ((cy .i64 p1 ((p0.length:Int))) < 0) then (some (-1)) else (some (cy .i64 p1 ((p0.length:Int))))
def vp (u:Nat) (p0:World) (p1:Int):Option Int :=
  (yo u p0.fT p1).bind fun r1=>bif decide (r1 < 0) then (some (-1)) else ((gO u p0.jj r1).bind fun r2=>bif decide (r2 < 0) then (some (-1)) else ((p6 u p0.f6 r2).bind fun r3=>bif decide (r3 < 0) then (some (-1)) else ((pp u p0.fN r3).bind fun r4=>bif decide (r4 < 0) then (some (-1)) else ((nH u p0.fD r4).bind fun r5=>bif decide (r5 < 0) then (some (-1)) else ((iB u p0.dX r5).bind fun r6=>bif decide (r6 < 0) then (some (-1)) else ((jM u p0.p5 r6).bind fun r7=>bif decide (r7 < 0) then (some (-1)) else (some r7)))))))
def yp (u:Nat) (p0:vm):Option vm :=
  some p0
def AD (u:Nat) (x11:List Int):Option ((List Int)) :=
  some x11
def oe (u mj:Nat) (p0 x5:List Int) (x6:Int):Option ((List Int)):=match mj with
  | 0=>none
  | mj+1=>bif decide (x6 < ((p0.length:Int))) then ((ci p0 x6).bind fun y9=>(ci x5 x6).bind fun y10=>(fun z0 z1 z2=>oe u mj z0 z1 z2) p0 (x5.set (Int.toNat x6) y9) (aW .i64 x6 1)) else (AD u x5)
def yq (u:Nat) (p0:List Int):Option ((List Int)) :=
  (dW (decide (0≤((p0.length:Int))) && (((p0.length:Int)) == 0 || ((p0.length:Int)) == ((p0.length:Int))))).bind fun _=>(dW (decide (Int.toNat ((p0.length:Int))*8≤140737488355328))).bind fun _=>oe u u p0 (List.replicate (Int.toNat ((p0.length:Int))) (0:Int)) 0
def Kp (u:Nat) (p0:List Int) (s:(List Int)):Option ((List Int)):=(AD u s)
def CH (u:Nat) (p0:List Int) (y9:Int) (i_:Nat) (s:(List Int)) (k_:((List Int))→Option ((List Int))):Option ((List Int)):=(ci s (i_:Int)).bind fun y10=>(fun z0 z1 z2=>k_ z1) p0 (s.set (Int.toNat (i_:Int)) y9) (aW .i64 (i_:Int) 1)
theorem Kr (u:Nat) (p0:List Int) (s:(List Int)) (k:Nat) (hn:p0.length≤9223372036854775807) (hk:p0.length < k):oe u k p0 s 0=Pu.bt (Kp u p0) (CH u p0) p0 0 s:=Pu.bP (fun (k:Nat) (s:(List Int)) (i:Int)=>oe u k p0 s i) hn (fun _ _ _=>rfl) s hk
def yr (u:Nat) (p0:co):Option co :=
  (yq u p0.cx).bind fun r1=>some ((co.mk r1))
def zd (u:Nat) (x11:List Int):Option ((List Int)) :=
  some x11
def m4 (u kP:Nat) (p0 x5:List Int) (x6:Int):Option ((List Int)):=match kP with
  | 0=>none
  | kP+1=>bif decide (x6 < ((p0.length:Int))) then ((ci p0 x6).bind fun y9=>(ci x5 x6).bind fun y10=>(fun z0 z1 z2=>m4 u kP z0 z1 z2) p0 (x5.set (Int.toNat x6) y9) (aW .i64 x6 1)) else (zd u x5)
def iC (u:Nat) (p0:List Int):Option ((List Int)) :=
  (dW (decide (0≤((p0.length:Int))) && (((p0.length:Int)) == 0 || ((p0.length:Int)) == ((p0.length:Int))))).bind fun _=>(dW (decide (Int.toNat ((p0.length:Int))*1≤140737488355328))).bind fun _=>m4 u u p0 (List.replicate (Int.toNat ((p0.length:Int))) (0:Int)) 0
def H9 (u:Nat) (p0:List Int) (s:(List Int)):Option ((List Int)):=(zd u s)
def BJ (u:Nat) (p0:List Int) (y9:Int) (i_:Nat) (s:(List Int)) (k_:((List Int))→Option ((List Int))):Option ((List Int)):=(ci s (i_:Int)).bind fun y10=>(fun z0 z1 z2=>k_ z1) p0 (s.set (Int.toNat (i_:Int)) y9) (aW .i64 (i_:Int) 1)
theorem Ia (u:Nat) (p0:List Int) (s:(List Int)) (k:Nat) (hn:p0.length≤9223372036854775807) (hk:p0.length < k):m4 u k p0 s 0=Pu.bt (H9 u p0) (BJ u p0) p0 0 s:=Pu.bP (fun (k:Nat) (s:(List Int)) (i:Int)=>m4 u k p0 s i) hn (fun _ _ _=>rfl) s hk
def rH (u:Nat) (p0:ba):Option ba :=
  (iC u p0.fB).bind fun r1=>some ((ba.mk r1))
def xo (u:Nat) (x12:List ba):Option ((List ba)) :=
  some x12
def lQ (u jG:Nat) (p0 x5:List ba) (x6:Int):Option ((List ba)):=match jG with
  | 0=>none
  | jG+1=>bif decide (x6 < ((p0.length:Int))) then ((ci p0 x6).bind fun y9=>(rH u y9).bind fun r10=>(ci x5 x6).bind fun y11=>(fun z0 z1 z2=>lQ u jG z0 z1 z2) p0 (x5.set (Int.toNat x6) r10) (aW .i64 x6 1)) else (xo u x5)
def s0 (u:Nat) (p0:List ba):Option ((List ba)) :=
  (dW (decide (0≤((p0.length:Int))) && (((p0.length:Int)) == 0 || ((p0.length:Int)) == ((p0.length:Int))))).bind fun _=>(dW (decide (Int.toNat ((p0.length:Int))*24≤140737488355328))).bind fun _=>lQ u u p0 (List.replicate (Int.toNat ((p0.length:Int))) ((ba.mk ([])):ba)) 0
def G5 (u:Nat) (p0:List ba) (s:(List ba)):Option ((List ba)):=(xo u s)
def AE (u:Nat) (p0:List ba) (y9:ba) (i_:Nat) (s:(List ba)) (k_:((List ba))→Option ((List ba))):Option ((List ba)):=(rH u y9).bind fun r10=>(ci s (i_:Int)).bind fun y11=>(fun z0 z1 z2=>k_ z1) p0 (s.set (Int.toNat (i_:Int)) r10) (aW .i64 (i_:Int) 1)
theorem G6 (u:Nat) (p0:List ba) (s:(List ba)) (k:Nat) (hn:p0.length≤9223372036854775807) (hk:p0.length < k):lQ u k p0 s 0=Pu.bt (G5 u p0) (AE u p0) p0 0 s:=Pu.bP (fun (k:Nat) (s:(List ba)) (i:Int)=>lQ u k p0 s i) hn (fun _ _ _=>rfl) s hk
def xp (u:Nat) (p0:bN):Option bN :=
  some p0
def AF (u:Nat) (x12:List bN):Option ((List bN)) :=
  some x12
def og (u mn:Nat) (p0 x5:List bN) (x6:Int):Option ((List bN)):=match mn with
  | 0=>none
  | mn+1=>bif decide (x6 < ((p0.length:Int))) then ((ci p0 x6).bind fun y9=>(xp u y9).bind fun r10=>(ci x5 x6).bind fun y11=>(fun z0 z1 z2=>og u mn z0 z1 z2) p0 (x5.set (Int.toNat x6) r10) (aW .i64 x6 1)) else (AF u x5)
def yu (u:Nat) (p0:List bN):Option ((List bN)) :=
  (dW (decide (0≤((p0.length:Int))) && (((p0.length:Int)) == 0 || ((p0.length:Int)) == ((p0.length:Int))))).bind fun _=>(dW (decide (Int.toNat ((p0.length:Int))*16≤140737488355328))).bind fun _=>og u u p0 (List.replicate (Int.toNat ((p0.length:Int))) ((bN.mk 0 0):bN)) 0
def Ks (u:Nat) (p0:List bN) (s:(List bN)):Option ((List bN)):=(AF u s)
def CI (u:Nat) (p0:List bN) (y9:bN) (i_:Nat) (s:(List bN)) (k_:((List bN))→Option ((List bN))):Option ((List bN)):=(xp u y9).bind fun r10=>(ci s (i_:Int)).bind fun y11=>(fun z0 z1 z2=>k_ z1) p0 (s.set (Int.toNat (i_:Int)) r10) (aW .i64 (i_:Int) 1)
theorem Kt (u:Nat) (p0:List bN) (s:(List bN)) (k:Nat) (hn:p0.length≤9223372036854775807) (hk:p0.length < k):og u k p0 s 0=Pu.bt (Ks u p0) (CI u p0) p0 0 s:=Pu.bP (fun (k:Nat) (s:(List bN)) (i:Int)=>og u k p0 s i) hn (fun _ _ _=>rfl) s hk
def pI (u:Nat) (p0:af):Option af :=
  (yu u p0.aD).bind fun r1=>some ((af.mk p0.aP p0.aS p0.aY r1))
def vq (u:Nat) (p0:aX):Option aX :=
  (iC u p0.bg).bind fun r1=>some ((aX.mk p0.aT r1))
def xq (u:Nat) (p0:Kid):Option Kid :=
  some p0
def AG (u:Nat) (x12:List Kid):Option ((List Kid)) :=
  some x12
def oh (u ml:Nat) (p0 x5:List Kid) (x6:Int):Option ((List Kid)):=match ml with
  | 0=>none
  | ml+1=>bif decide (x6 < ((p0.length:Int))) then ((ci p0 x6).bind fun y9=>(xq u y9).bind fun r10=>(ci x5 x6).bind fun y11=>(fun z0 z1 z2=>oh u ml z0 z1 z2) p0 (x5.set (Int.toNat x6) r10) (aW .i64 x6 1)) else (AG u x5)
def yv (u:Nat) (p0:List Kid):Option ((List Kid)) :=
  (dW (decide (0≤((p0.length:Int))) && (((p0.length:Int)) == 0 || ((p0.length:Int)) == ((p0.length:Int))))).bind fun _=>(dW (decide (Int.toNat ((p0.length:Int))*40≤140737488355328))).bind fun _=>oh u u p0 (List.replicate (Int.toNat ((p0.length:Int))) ((Kid.mk 0 0 0 0 0):Kid)) 0
def Ku (u:Nat) (p0:List Kid) (s:(List Kid)):Option ((List Kid)):=(AG u s)
def CJ (u:Nat) (p0:List Kid) (y9:Kid) (i_:Nat) (s:(List Kid)) (k_:((List Kid))→Option ((List Kid))):Option ((List Kid)):=(xq u y9).bind fun r10=>(ci s (i_:Int)).bind fun y11=>(fun z0 z1 z2=>k_ z1) p0 (s.set (Int.toNat (i_:Int)) r10) (aW .i64 (i_:Int) 1)
theorem Kv (u:Nat) (p0:List Kid) (s:(List Kid)) (k:Nat) (hn:p0.length≤9223372036854775807) (hk:p0.length < k):oh u k p0 s 0=Pu.bt (Ku u p0) (CJ u p0) p0 0 s:=Pu.bP (fun (k:Nat) (s:(List Kid)) (i:Int)=>oh u k p0 s i) hn (fun _ _ _=>rfl) s hk
def uL (u:Nat) (p0:aA):Option aA :=
  (pI u p0.av).bind fun r1=>(vq u p0.a7).bind fun r2=>(yv u p0.aO).bind fun r3=>some ((aA.mk p0.fM p0.bf p0.be r1 r2 p0.aJ r3 p0.a8))
def ze (u:Nat) (x12:List aA):Option ((List aA)) :=
  some x12
def m5 (u kR:Nat) (p0 x5:List aA) (x6:Int):Option ((List aA)):=match kR with
  | 0=>none
  | kR+1=>bif decide (x6 < ((p0.length:Int))) then ((ci p0 x6).bind fun y9=>(uL u y9).bind fun r10=>(ci x5 x6).bind fun y11=>(fun z0 z1 z2=>m5 u kR z0 z1 z2) p0 (x5.set (Int.toNat x6) r10) (aW .i64 x6 1)) else (ze u x5)
def vt (u:Nat) (p0:List aA):Option ((List aA)) :=
  (dW (decide (0≤((p0.length:Int))) && (((p0.length:Int)) == 0 || ((p0.length:Int)) == ((p0.length:Int))))).bind fun _=>(dW (decide (Int.toNat ((p0.length:Int))*144≤140737488355328))).bind fun _=>m5 u u p0 (List.replicate (Int.toNat ((p0.length:Int))) ((aA.mk false 0 0 ((af.mk 0 0 0 ([]))) ((aX.mk 0 ([]))) 0 ([]) 0):aA)) 0
def Ib (u:Nat) (p0:List aA) (s:(List aA)):Option ((List aA)):=(ze u s)
def BK (u:Nat) (p0:List aA) (y9:aA) (i_:Nat) (s:(List aA)) (k_:((List aA))→Option ((List aA))):Option ((List aA)):=(uL u y9).bind fun r10=>(ci s (i_:Int)).bind fun y11=>(fun z0 z1 z2=>k_ z1) p0 (s.set (Int.toNat (i_:Int)) r10) (aW .i64 (i_:Int) 1)
theorem Ic (u:Nat) (p0:List aA) (s:(List aA)) (k:Nat) (hn:p0.length≤9223372036854775807) (hk:p0.length < k):m5 u k p0 s 0=Pu.bt (Ib u p0) (BK u p0) p0 0 s:=Pu.bP (fun (k:Nat) (s:(List aA)) (i:Int)=>m5 u k p0 s i) hn (fun _ _ _=>rfl) s hk
def p8 (u:Nat) (p0:c7):Option c7 :=
  some p0
def xr (u:Nat) (p0:ca):Option ca :=
  (iC u p0.fB).bind fun r1=>(p8 u p0.fR).bind fun r2=>some ((ca.mk p0.d1 p0.Cl r1 r2))
def AH (u:Nat) (x12:List ca):Option ((List ca)) :=
  some x12
def oj (u mm:Nat) (p0 x5:List ca) (x6:Int):Option ((List ca)):=match mm with
  | 0=>none
  | mm+1=>bif decide (x6 < ((p0.length:Int))) then ((ci p0 x6).bind fun y9=>(xr u y9).bind fun r10=>(ci x5 x6).bind fun y11=>(fun z0 z1 z2=>oj u mm z0 z1 z2) p0 (x5.set (Int.toNat x6) r10) (aW .i64 x6 1)) else (AH u x5)
def yw (u:Nat) (p0:List ca):Option ((List ca)) :=
  (dW (decide (0≤((p0.length:Int))) && (((p0.length:Int)) == 0 || ((p0.length:Int)) == ((p0.length:Int))))).bind fun _=>(dW (decide (Int.toNat ((p0.length:Int))*64≤140737488355328))).bind fun _=>oj u u p0 (List.replicate (Int.toNat ((p0.length:Int))) ((ca.mk 0 0 ([]) ((c7.mk 0 0 0))):ca)) 0
def Kw (u:Nat) (p0:List ca) (s:(List ca)):Option ((List ca)):=(AH u s)
def CK (u:Nat) (p0:List ca) (y9:ca) (i_:Nat) (s:(List ca)) (k_:((List ca))→Option ((List ca))):Option ((List ca)):=(xr u y9).bind fun r10=>(ci s (i_:Int)).bind fun y11=>(fun z0 z1 z2=>k_ z1) p0 (s.set (Int.toNat (i_:Int)) r10) (aW .i64 (i_:Int) 1)
theorem Kx (u:Nat) (p0:List ca) (s:(List ca)) (k:Nat) (hn:p0.length≤9223372036854775807) (hk:p0.length < k):oj u k p0 s 0=Pu.bt (Kw u p0) (CK u p0) p0 0 s:=Pu.bP (fun (k:Nat) (s:(List ca)) (i:Int)=>oj u k p0 s i) hn (fun _ _ _=>rfl) s hk
def uM (u:Nat) (p0:aG):Option aG :=
  (iC u p0.fA).bind fun r1=>(iC u p0.fB).bind fun r2=>(p8 u p0.fR).bind fun r3=>(yw u p0.fP).bind fun r4=>some ((aG.mk r1 r2 r3 r4))
def zf (u:Nat) (x12:List aG):Option ((List aG)) :=
  some x12
def m6 (u kQ:Nat) (p0 x5:List aG) (x6:Int):Option ((List aG)):=match kQ with
  | 0=>none
  | kQ+1=>bif decide (x6 < ((p0.length:Int))) then ((ci p0 x6).bind fun y9=>(uM u y9).bind fun r10=>(ci x5 x6).bind fun y11=>(fun z0 z1 z2=>m6 u kQ z0 z1 z2) p0 (x5.set (Int.toNat x6) r10) (aW .i64 x6 1)) else (zf u x5)
def vu (u:Nat) (p0:List aG):Option ((List aG)) :=
  (dW (decide (0≤((p0.length:Int))) && (((p0.length:Int)) == 0 || ((p0.length:Int)) == ((p0.length:Int))))).bind fun _=>(dW (decide (Int.toNat ((p0.length:Int))*96≤140737488355328))).bind fun _=>m6 u u p0 (List.replicate (Int.toNat ((p0.length:Int))) ((aG.mk ([]) ([]) ((c7.mk 0 0 0)) ([])):aG)) 0
def Id (u:Nat) (p0:List aG) (s:(List aG)):Option ((List aG)):=(zf u s)
def BL (u:Nat) (p0:List aG) (y9:aG) (i_:Nat) (s:(List aG)) (k_:((List aG))→Option ((List aG))):Option ((List aG)):=(uM u y9).bind fun r10=>(ci s (i_:Int)).bind fun y11=>(fun z0 z1 z2=>k_ z1) p0 (s.set (Int.toNat (i_:Int)) r10) (aW .i64 (i_:Int) 1)
theorem Ie (u:Nat) (p0:List aG) (s:(List aG)) (k:Nat) (hn:p0.length≤9223372036854775807) (hk:p0.length < k):m6 u k p0 s 0=Pu.bt (Id u p0) (BL u p0) p0 0 s:=Pu.bP (fun (k:Nat) (s:(List aG)) (i:Int)=>m6 u k p0 s i) hn (fun _ _ _=>rfl) s hk
def p9 (u:Nat) (p0:au):Option au :=
  (iC u p0.fB).bind fun r1=>some ((au.mk p0.du p0.G2 r1))
def vw (u:Nat) (x12:List au):Option ((List au)) :=
  some x12
def ku (u iZ:Nat) (p0 x5:List au) (x6:Int):Option ((List au)):=match iZ with
  | 0=>none
  | iZ+1=>bif decide (x6 < ((p0.length:Int))) then ((ci p0 x6).bind fun y9=>(p9 u y9).bind fun r10=>(ci x5 x6).bind fun y11=>(fun z0 z1 z2=>ku u iZ z0 z1 z2) p0 (x5.set (Int.toNat x6) r10) (aW .i64 x6 1)) else (vw u x5)
def qQ (u:Nat) (p0:List au):Option ((List au)) :=
  (dW (decide (0≤((p0.length:Int))) && (((p0.length:Int)) == 0 || ((p0.length:Int)) == ((p0.length:Int))))).bind fun _=>(dW (decide (Int.toNat ((p0.length:Int))*40≤140737488355328))).bind fun _=>ku u u p0 (List.replicate (Int.toNat ((p0.length:Int))) ((au.mk 0 0 ([])):au)) 0
def Ge (u:Nat) (p0:List au) (s:(List au)):Option ((List au)):=(vw u s)
def zT (u:Nat) (p0:List au) (y9:au) (i_:Nat) (s:(List au)) (k_:((List au))→Option ((List au))):Option ((List au)):=(p9 u y9).bind fun r10=>(ci s (i_:Int)).bind fun y11=>(fun z0 z1 z2=>k_ z1) p0 (s.set (Int.toNat (i_:Int)) r10) (aW .i64 (i_:Int) 1)
theorem Gf (u:Nat) (p0:List au) (s:(List au)) (k:Nat) (hn:p0.length≤9223372036854775807) (hk:p0.length < k):ku u k p0 s 0=Pu.bt (Ge u p0) (zT u p0) p0 0 s:=Pu.bP (fun (k:Nat) (s:(List au)) (i:Int)=>ku u k p0 s i) hn (fun _ _ _=>rfl) s hk
def uN (u:Nat) (p0:dC):Option dC :=
  some p0
def zg (u:Nat) (x12:List dC):Option ((List dC)) :=
  some x12
def m7 (u kS:Nat) (p0 x5:List dC) (x6:Int):Option ((List dC)):=match kS with
  | 0=>none
  | kS+1=>bif decide (x6 < ((p0.length:Int))) then ((ci p0 x6).bind fun y9=>(uN u y9).bind fun r10=>(ci x5 x6).bind fun y11=>(fun z0 z1 z2=>m7 u kS z0 z1 z2) p0 (x5.set (Int.toNat x6) r10) (aW .i64 x6 1)) else (zg u x5)
def vz (u:Nat) (p0:List dC):Option ((List dC)) :=
  (dW (decide (0≤((p0.length:Int))) && (((p0.length:Int)) == 0 || ((p0.length:Int)) == ((p0.length:Int))))).bind fun _=>(dW (decide (Int.toNat ((p0.length:Int))*24≤140737488355328))).bind fun _=>m7 u u p0 (List.replicate (Int.toNat ((p0.length:Int))) ((dC.mk 0 0 0):dC)) 0
def If (u:Nat) (p0:List dC) (s:(List dC)):Option ((List dC)):=(zg u s)
def BM (u:Nat) (p0:List dC) (y9:dC) (i_:Nat) (s:(List dC)) (k_:((List dC))→Option ((List dC))):Option ((List dC)):=(uN u y9).bind fun r10=>(ci s (i_:Int)).bind fun y11=>(fun z0 z1 z2=>k_ z1) p0 (s.set (Int.toNat (i_:Int)) r10) (aW .i64 (i_:Int) 1)
theorem Ig (u:Nat) (p0:List dC) (s:(List dC)) (k:Nat) (hn:p0.length≤9223372036854775807) (hk:p0.length < k):m7 u k p0 s 0=Pu.bt (If u p0) (BM u p0) p0 0 s:=Pu.bP (fun (k:Nat) (s:(List dC)) (i:Int)=>m7 u k p0 s i) hn (fun _ _ _=>rfl) s hk
def pq (u:Nat) (p0:World):Option World :=
  (yp u p0.fC).bind fun r1=>(yr u p0.fT).bind fun r2=>(iC u p0.jj).bind fun r3=>(s0 u p0.f6).bind fun r4=>(vt u p0.fN).bind fun r5=>(vu u p0.fD).bind fun r6=>(qQ u p0.dX).bind fun r7=>(vz u p0.p5).bind fun r8=>some ((World.mk r1 r2 r3 r4 r5 r6 r7 r8 p0.qO))
def bF (u:Nat) (p0 p1 p2:Int):Option Bool :=
  bif decide (p0≥p1) then (some (decide (p0≤p2))) else (some false)
def yx (u:Nat) (p0:vm):Option Bool :=
  (bF u p0.aS 2 6).bind fun r1=>bif r1 then ((bF u p0.gB 1 40).bind fun r2=>bif r2 then ((bF u p0.eo 1 5).bind fun r3=>bif r3 then ((bF u p0.ik 2 8).bind fun r4=>some r4) else (some false)) else (some false)) else (some false)
def AI (u:Nat)  : Option Bool :=
  some true
def jX (u mu:Nat) (x5:Int) (p0:co):Option Bool:=match mu with
  | 0=>none
  | mu+1=>bif decide (x5 < ((p0.cx.length:Int))) then ((ci p0.cx x5).bind fun y7=>(bF u y7 0 (cy .i64 x5 1)).bind fun r8=>bif !r8 then (some false) else ((fun z0 z1=>jX u mu z0 z1) (aW .i64 x5 1) p0)) else (AI u)
def vA (u:Nat) (x3:Bool) (p0:co):Option Bool :=
  bif x3 then (some false) else (jX u u 1 p0)
def uO (u:Nat) (p0:co):Option Bool :=
  (bF u ((p0.cx.length:Int)) 1 7).bind fun r1=>bif !r1 then (vA u true p0) else ((ci p0.cx 0).bind fun y2=>vA u (y2 != (-1)) p0)
def CL (u:Nat) (p0:co) (s:Unit):Option Bool:=(AI u)
def xt (u:Nat) (p0:co) (y7:Int) (i_:Nat) (s:Unit) (k_:Unit→Option Bool):Option Bool:=(bF u y7 0 (cy .i64 (i_:Int) 1)).bind fun r8=>bif !r8 then (some false) else ((fun z0 z1=>k_ ()) (aW .i64 (i_:Int) 1) p0)
theorem WX (u:Nat) (p0:co) (s:Unit) (k:Nat) (hn:p0.cx.length≤9223372036854775807) (hk:p0.cx.length < k):jX u k 0 p0=Pu.bt (CL u p0) (xt u p0) p0.cx 0 s:=Pu.bP (fun (k:Nat) (s:Unit) (i:Int)=>jX u k i p0) hn (fun _ _ _=>rfl) s hk
def o9 (u:Nat) (p0 p1:Int):Option Bool :=
  (bF u p0 2 6).bind fun r1=>bif r1 then ((bF u p1 0 (gS .i64 p0 40)).bind fun r2=>some r2) else (some false)
def zh (u:Nat) (p0:List ba) (p1:Int):Option Bool :=
  some (((p0.length:Int)) == p1)
def m8 (u kV:Nat) (p0:List ba) (p1 x2:Int):Option Bool:=match kV with
  | 0=>none
  | kV+1=>bif decide (x2 < ((p0.length:Int))) then ((ci p0 x2).bind fun y4=>bif decide (((y4.fB.length:Int)) > 240) then (some false) else ((fun z0 z1 z2=>m8 u kV z0 z1 z2) p0 p1 (aW .i64 x2 1))) else (zh u p0 p1)
def vB (u:Nat) (p0:List ba) (p1:Int):Option Bool :=
  m8 u u p0 p1 0
def Ih (u:Nat) (p0:List ba) (p1:Int) (s:Unit):Option Bool:=(zh u p0 p1)
def BN (u:Nat) (p0:List ba) (p1:Int) (y4:ba) (i_:Nat) (s:Unit) (k_:Unit→Option Bool):Option Bool:=bif decide (((y4.fB.length:Int)) > 240) then (some false) else ((fun z0 z1 z2=>k_ ()) p0 p1 (aW .i64 (i_:Int) 1))
theorem Ii (u:Nat) (p0:List ba) (p1:Int) (s:Unit) (k:Nat) (hn:p0.length≤9223372036854775807) (hk:p0.length < k):m8 u k p0 p1 0=Pu.bt (Ih u p0 p1) (BN u p0 p1) p0 0 s:=Pu.bP (fun (k:Nat) (s:Unit) (i:Int)=>m8 u k p0 p1 i) hn (fun _ _ _=>rfl) s hk
def tN (u:Nat) (p0 p1:Int) (x3:Bool):Option Int :=
  bif x3 then (some 0) else ((dW (!(p1 == 0))).bind fun _=>some (VG .i64 (cy .i64 (aW .i64 p0 p1) 1) p1))
def vC (u:Nat) (p0 p1:Int):Option Int :=
  (bF u p0 0 1000000000000).bind fun r1=>bif !r1 then (tN u p0 p1 true) else ((bF u p1 1 1000000000000).bind fun r2=>tN u p0 p1 (!r2))
def pa (u:Nat) (p0 p1:Int):Option Int :=
  (o9 u p0 p1).bind fun r1=>bif !r1 then (some 0) else ((vC u p1 p0).bind fun r2=>some r2)
def AJ (u:Nat) (p0 p1:Int):Option Int :=
  bif decide (p1 < p0) then (some p1) else (some p0)
def f8 (u:Nat) (p0 p1 p2:Int):Option (Int×Int) :=
  (pa u p0 p1).bind fun r1=>(bF u p2 0 (cy .i64 r1 1)).bind fun r2=>bif !r2 then (some ((0,0))) else ((AJ u p0 (cy .i64 p1 (gS .i64 p2 p0))).bind fun r3=>some ((gS .i64 p2 p0,r3)))
def rI (u:Nat) (p0:List Int) (p1 p2:Int):Option ((List Int)×Bool) :=
  (f8 u p1 ((p0.length:Int)) p2).bind fun r1=>bif r1.2 == 0 then (some ((([]:List Int),false))) else ((dW (dU r1.1 (aW .i64 r1.1 r1.2) p0.length)).bind fun _=>(dW (decide (((([]:List Int)).length+((p0.take (Int.toNat (aW .i64 r1.1 r1.2))).drop (Int.toNat r1.1)).length)*1≤140737488355328))).bind fun _=>some (((([]:List Int))++((p0.take (Int.toNat (aW .i64 r1.1 r1.2))).drop (Int.toNat r1.1)),true)))
def qR (u:Nat) (x11 x12:Int):Option Int :=
  some (aW .i64 x11 (gS .i64 251 x12))
def ol (u mv:Nat) (p0:List Int) (x4 x5 x6:Int):Option Int:=match mv with
  | 0=>none
  | mv+1=>bif decide (x6 < ((p0.length:Int))) then ((ci p0 x6).bind fun y10=>(fun z0 z1 z2 z3=>ol u mv z0 z1 z2 z3) p0 (ru .i64 (aW .i64 x4 (IntKind.wrap .i64 y10)) 251) (ru .i64 (aW .i64 x5 (ru .i64 (aW .i64 x4 (IntKind.wrap .i64 y10)) 251)) 251) (aW .i64 x6 1)) else (qR u x4 x5)
def pb (u:Nat) (p0:List Int):Option Int :=
  ol u u p0 0 0 0
def CM (u:Nat) (p0:List Int) (s:Int×Int):Option Int:=(qR u s.1 s.2)
def xu (u:Nat) (p0:List Int) (y10:Int) (i_:Nat) (s:Int×Int) (k_:(Int×Int)→Option Int):Option Int:=(fun z0 z1 z2 z3=>k_ (z1,z2)) p0 (ru .i64 (aW .i64 s.1 (IntKind.wrap .i64 y10)) 251) (ru .i64 (aW .i64 s.2 (ru .i64 (aW .i64 s.1 (IntKind.wrap .i64 y10)) 251)) 251) (aW .i64 (i_:Int) 1)
theorem Ky (u:Nat) (p0:List Int) (s:Int×Int) (k:Nat) (hn:p0.length≤9223372036854775807) (hk:p0.length < k):ol u k p0 s.1 s.2 0=Pu.bt (CM u p0) (xu u p0) p0 0 s:=Pu.bP (fun (k:Nat) (s:Int×Int) (i:Int)=>ol u k p0 s.1 s.2 i) hn (fun _ _ _=>rfl) s hk
def s4 (u:Nat) (p0:List Int) (x8:Int):Option bN :=
  (pb u p0).bind fun r9=>some ((bN.mk r9 x8))
def qa (u nD:Nat) (p0:List Int) (x3 x4:Int):Option bN:=match nD with
  | 0=>none
  | nD+1=>bif decide (x4 < ((p0.length:Int))) then ((ci p0 x4).bind fun y7=>(fun z0 z1 z2=>qa u nD z0 z1 z2) p0 (aW .i64 (gS .i64 256 x3) (IntKind.wrap .i64 y7)) (aW .i64 x4 1)) else (s4 u p0 x3)
def gZ (u:Nat) (p0:List Int):Option bN :=
  bif decide (((p0.length:Int)) > 6) then (some ((bN.mk 0 0))) else (qa u u p0 1 0)
def Ef (u:Nat) (p0:List Int) (s:Int):Option bN:=(s4 u p0 s)
def zi (u:Nat) (p0:List Int) (y7:Int) (i_:Nat) (s:Int) (k_:Int→Option bN):Option bN:=(fun z0 z1 z2=>k_ z1) p0 (aW .i64 (gS .i64 256 s) (IntKind.wrap .i64 y7)) (aW .i64 (i_:Int) 1)
theorem MS (u:Nat) (p0:List Int) (s:Int) (k:Nat) (hn:p0.length≤9223372036854775807) (hk:p0.length < k):qa u k p0 s 0=Pu.bt (Ef u p0) (zi u p0) p0 0 s:=Pu.bP (fun (k:Nat) (s i:Int)=>qa u k p0 s i) hn (fun _ _ _=>rfl) s hk
def AK (u:Nat) (x10:List bN):Option ((List bN)) :=
  some x10
def om (u mt:Nat) (p0:List Int) (p1:Int) (x3:List bN) (x4:Int):Option ((List bN)):=match mt with
  | 0=>none
  | mt+1=>(pa u p1 ((p0.length:Int))).bind fun r7=>bif decide (x4 < r7) then ((rI u p0 p1 x4).bind fun r8=>(gZ u r8.1).bind fun r9=>(dW (decide ((x3.length+([r9]).length)*16≤140737488355328))).bind fun _=>(fun z0 z1 z2 z3=>om u mt z0 z1 z2 z3) p0 p1 (x3++([r9])) (aW .i64 x4 1)) else (AK u x3)
def uP (u:Nat) (p0:List Int) (p1:Int):Option ((List bN)) :=
  om u u p0 p1 (([]:List bN)) 0
def xT (u:Nat) (p0:Int) (p1:List Int) (p2:Int) (x3:Bool):Option af :=
  bif x3 then (some ((af.mk 0 0 0 ([])))) else ((uP u p1 p2).bind fun r4=>some ((af.mk p0 p2 ((p1.length:Int)) r4)))
def AL (u:Nat) (p0:Int) (p1:List Int) (p2:Int):Option af :=
  (bF u p0 1 1000000).bind fun r1=>bif !r1 then (xT u p0 p1 p2 true) else ((o9 u p2 ((p1.length:Int))).bind fun r2=>xT u p0 p1 p2 (!r2))
def AM (u:Nat) (p0:World):Option af :=
  (AL u 1 p0.jj p0.fC.aS).bind fun r1=>some r1
def ur (u:Nat)  : Option Bool :=
  some true
def jp (u ii:Nat) (p0 p1:List bN) (x2:Int):Option Bool:=match ii with
  | 0=>none
  | ii+1=>bif decide (x2 < ((p0.length:Int))) then ((ci p0 x2).bind fun y4=>(ci p1 x2).bind fun y5=>bif !([y4.fW,y4.fS] == [y5.fW,y5.fS]) then (some false) else ((fun z0 z1 z2=>jp u ii z0 z1 z2) p0 p1 (aW .i64 x2 1))) else (ur u)
def m9 (u:Nat) (p0 p1:List bN):Option Bool :=
  bif ((p0.length:Int)) != ((p1.length:Int)) then (some false) else (jp u u p0 p1 0)
def ES (u:Nat) (p0 p1:List bN) (s:Unit):Option Bool:=(ur u)
def yy (u:Nat) (p0 p1:List bN) (y4:bN) (i_:Nat) (s:Unit) (k_:Unit→Option Bool):Option Bool:=(ci p1 (i_:Int)).bind fun y5=>bif !([y4.fW,y4.fS] == [y5.fW,y5.fS]) then (some false) else ((fun z0 z1 z2=>k_ ()) p0 p1 (aW .i64 (i_:Int) 1))
theorem ET (u:Nat) (p0 p1:List bN) (s:Unit) (k:Nat) (hn:p0.length≤9223372036854775807) (hk:p0.length < k):jp u k p0 p1 0=Pu.bt (ES u p0 p1) (yy u p0 p1) p0 0 s:=Pu.bP (fun (k:Nat) (s:Unit) (i:Int)=>jp u k p0 p1 i) hn (fun _ _ _=>rfl) s hk
def jN (u:Nat) (p0 p1:af):Option Bool :=
  bif p0.aP == p1.aP then (bif p0.aS == p1.aS then (bif p0.aY == p1.aY then ((m9 u p0.aD p1.aD).bind fun r1=>some r1) else (some false)) else (some false)) else (some false)
def rJ (u:Nat) (p0:aA):Option Bool :=
  (jN u p0.av ((af.mk 0 0 0 ([])))).bind fun r1=>bif r1 then (bif p0.a7.aT == 0 then (some (((p0.a7.bg.length:Int)) == 0)) else (some false)) else (some false)
def vD (u:Nat) (x11:List Int):Option ((List Int)) :=
  some x11
def qS (u:Nat) (Ms:Int→(List Int)→co→Option ((List Int))) (x3:Int) (x4:List Int) (x8:Bool) (p0:co):Option ((List Int)) :=
  bif x8 then ((dW (decide ((x4.length+(([x3]:List Int)).length)*8≤140737488355328))).bind fun _=>(ci p0.cx x3).bind fun y10=>Ms y10 (x4++(([x3]:List Int))) p0) else (vD u x4)
def iD (u ig:Nat) (x3:Int) (x4:List Int) (p0:co):Option ((List Int)):=match ig with
  | 0=>none
  | ig+1=>(bF u x3 0 (cy .i64 ((p0.cx.length:Int)) 1)).bind fun r7=>bif r7 then (qS u (fun z0 z1 z2=>iD u ig z0 z1 z2) x3 x4 (decide (((x4.length:Int)) < ((p0.cx.length:Int)))) p0) else (qS u (fun z0 z1 z2=>iD u ig z0 z1 z2) x3 x4 false p0)
def yz (u:Nat) (p0:co) (p1:Int):Option ((List Int)) :=
  iD u u p1 (([]:List Int)) p0
def AN (u:Nat)  : Option Bool :=
  some false
def oo (u mw:Nat) (p0:List Int) (p1 x2:Int):Option Bool:=match mw with
  | 0=>none
  | mw+1=>bif decide (x2 < ((p0.length:Int))) then ((ci p0 x2).bind fun y4=>bif y4 == p1 then (some true) else ((fun z0 z1 z2=>oo u mw z0 z1 z2) p0 p1 (aW .i64 x2 1))) else (AN u)
def yA (u:Nat) (p0:List Int) (p1:Int):Option Bool :=
  oo u u p0 p1 0
def CN (u:Nat) (p0:List Int) (p1:Int) (s:Unit):Option Bool:=(AN u)
def xv (u:Nat) (p0:List Int) (p1 y4:Int) (i_:Nat) (s:Unit) (k_:Unit→Option Bool):Option Bool:=bif y4 == p1 then (some true) else ((fun z0 z1 z2=>k_ ()) p0 p1 (aW .i64 (i_:Int) 1))
theorem Kz (u:Nat) (p0:List Int) (p1:Int) (s:Unit) (k:Nat) (hn:p0.length≤9223372036854775807) (hk:p0.length < k):oo u k p0 p1 0=Pu.bt (CN u p0 p1) (xv u p0 p1) p0 0 s:=Pu.bP (fun (k:Nat) (s:Unit) (i:Int)=>oo u k p0 p1 i) hn (fun _ _ _=>rfl) s hk
def qb (u:Nat) (p0:co) (p1 p2:Int):Option Bool :=
  bif p1 != p2 then ((yz u p0 p2).bind fun r1=>(yA u r1 p1).bind fun r2=>some r2) else (some false)
def cz (u:Nat) (p0:Int):Option Bool :=
  (bF u p0 0 1099511627775).bind fun r1=>some r1
def AO (u:Nat)  : Option Bool :=
  some true
def cm (u:Nat) (Mq:(List Kid)→Int→Option Bool) (p0:List Kid) (x2:Int) (x22:Bool):Option Bool :=
  bif x22 then (some false) else (Mq p0 (aW .i64 x2 1))
def dg (u cK:Nat) (p0:List Kid) (x2:Int):Option Bool:=match cK with
  | 0=>none
  | cK+1=>bif decide (x2 < ((p0.length:Int))) then ((ci p0 x2).bind fun y4=>(bF u y4.fd 0 6).bind fun r5=>bif !r5 then (cm u (fun z0 z1=>dg u cK z0 z1) p0 x2 true) else (bif decide (x2 > 0) then ((ci p0 (cy .i64 x2 1)).bind fun y6=>(ci p0 x2).bind fun y7=>bif decide (y6.fd≥y7.fd) then (cm u (fun z0 z1=>dg u cK z0 z1) p0 x2 true) else ((ci p0 x2).bind fun y8=>(cz u y8.bx).bind fun r9=>bif !r9 then (cm u (fun z0 z1=>dg u cK z0 z1) p0 x2 true) else ((ci p0 x2).bind fun y10=>(cz u y10.bL).bind fun r11=>bif !r11 then (cm u (fun z0 z1=>dg u cK z0 z1) p0 x2 true) else ((ci p0 x2).bind fun y12=>(cz u y12.c8).bind fun r13=>bif !r13 then (cm u (fun z0 z1=>dg u cK z0 z1) p0 x2 true) else ((ci p0 x2).bind fun y14=>cm u (fun z0 z1=>dg u cK z0 z1) p0 x2 (decide (y14.qP < 0))))))) else ((ci p0 x2).bind fun y15=>(cz u y15.bx).bind fun r16=>bif !r16 then (cm u (fun z0 z1=>dg u cK z0 z1) p0 x2 true) else ((ci p0 x2).bind fun y17=>(cz u y17.bL).bind fun r18=>bif !r18 then (cm u (fun z0 z1=>dg u cK z0 z1) p0 x2 true) else ((ci p0 x2).bind fun y19=>(cz u y19.c8).bind fun r20=>bif !r20 then (cm u (fun z0 z1=>dg u cK z0 z1) p0 x2 true) else ((ci p0 x2).bind fun y21=>cm u (fun z0 z1=>dg u cK z0 z1) p0 x2 (decide (y21.qP < 0)))))))) else (AO u)
def pc (u:Nat) (p0:List Kid):Option Bool :=
  dg u u p0 0
def KA (u:Nat) (p0:List Kid) (s:Unit):Option Bool:=(AO u)
def CO (u:Nat) (p0:List Kid) (y4:Kid) (i_:Nat) (s:Unit) (k_:Unit→Option Bool):Option Bool:=(bF u y4.fd 0 6).bind fun r5=>bif !r5 then (cm u (fun z0 z1=>k_ ()) p0 (i_:Int) true) else (bif decide ((i_:Int) > 0) then ((ci p0 (cy .i64 (i_:Int) 1)).bind fun y6=>(ci p0 (i_:Int)).bind fun y7=>bif decide (y6.fd≥y7.fd) then (cm u (fun z0 z1=>k_ ()) p0 (i_:Int) true) else ((ci p0 (i_:Int)).bind fun y8=>(cz u y8.bx).bind fun r9=>bif !r9 then (cm u (fun z0 z1=>k_ ()) p0 (i_:Int) true) else ((ci p0 (i_:Int)).bind fun y10=>(cz u y10.bL).bind fun r11=>bif !r11 then (cm u (fun z0 z1=>k_ ()) p0 (i_:Int) true) else ((ci p0 (i_:Int)).bind fun y12=>(cz u y12.c8).bind fun r13=>bif !r13 then (cm u (fun z0 z1=>k_ ()) p0 (i_:Int) true) else ((ci p0 (i_:Int)).bind fun y14=>cm u (fun z0 z1=>k_ ()) p0 (i_:Int) (decide (y14.qP < 0))))))) else ((ci p0 (i_:Int)).bind fun y15=>(cz u y15.bx).bind fun r16=>bif !r16 then (cm u (fun z0 z1=>k_ ()) p0 (i_:Int) true) else ((ci p0 (i_:Int)).bind fun y17=>(cz u y17.bL).bind fun r18=>bif !r18 then (cm u (fun z0 z1=>k_ ()) p0 (i_:Int) true) else ((ci p0 (i_:Int)).bind fun y19=>(cz u y19.c8).bind fun r20=>bif !r20 then (cm u (fun z0 z1=>k_ ()) p0 (i_:Int) true) else ((ci p0 (i_:Int)).bind fun y21=>cm u (fun z0 z1=>k_ ()) p0 (i_:Int) (decide (y21.qP < 0)))))))
theorem KB (u:Nat) (p0:List Kid) (s:Unit) (k:Nat) (hn:p0.length≤9223372036854775807) (hk:p0.length < k):dg u k p0 0=Pu.bt (KA u p0) (CO u p0) p0 0 s:=Pu.bP (fun (k:Nat) (s:Unit) (i:Int)=>dg u k p0 i) hn (fun _ _ _=>rfl) s hk
def zj (u:Nat) (x8:List Int):Option ((List Int)×Bool) :=
  some ((x8,true))
def na (u kT:Nat) (x4:Int) (x5:List Int):Option ((List Int)×Bool):=match kT with
  | 0=>none
  | kT+1=>bif decide (x4 > 1) then (bif decide (x4 < 256) then (some ((([]:List Int),false))) else ((dW (decide (((([IntKind.wrap .u8 (fE .i64 x4 255)]:List Int)).length+x5.length)*1≤140737488355328))).bind fun _=>(fun z0 z1=>na u kT z0 z1) (n4 .i64 x4 8) ((([IntKind.wrap .u8 (fE .i64 x4 255)]:List Int))++x5))) else (zj u x5)
def pr (u:Nat) (p0:Int):Option ((List Int)×Bool) :=
  (bF u p0 1 562949953421311).bind fun r1=>bif !r1 then (some ((([]:List Int),false))) else (na u u p0 (([]:List Int)))
def Cm (u:Nat)  : Option Bool :=
  some true
def lE (u:Nat) (OU:Int→af→Option Bool) (x6:Int) (x13:Bool) (p0:af):Option Bool :=
  bif x13 then (some false) else (OU (aW .i64 x6 1) p0)
def jO (u gY:Nat) (x6:Int) (p0:af):Option Bool:=match gY with
  | 0=>none
  | gY+1=>bif decide (x6 < ((p0.aD.length:Int))) then ((ci p0.aD x6).bind fun y8=>(pr u y8.fS).bind fun r9=>(f8 u p0.aS p0.aY x6).bind fun r10=>bif !r9.2 then (lE u (fun z0 z1=>jO u gY z0 z1) x6 true p0) else (bif ((r9.1.length:Int)) != r10.2 then (lE u (fun z0 z1=>jO u gY z0 z1) x6 true p0) else ((gZ u r9.1).bind fun r11=>(ci p0.aD x6).bind fun y12=>lE u (fun z0 z1=>jO u gY z0 z1) x6 (!([r11.fW,r11.fS] == [y12.fW,y12.fS])) p0))) else (Cm u)
def s5 (u:Nat) (x4:Bool) (p0:af):Option Bool :=
  bif x4 then (some false) else (jO u u 0 p0)
def jq (u:Nat) (p0:af):Option Bool :=
  bif p0.aP == 0 then (bif p0.aS == 0 then (bif p0.aY == 0 then (some (((p0.aD.length:Int)) == 0)) else (some false)) else (some false)) else ((bF u p0.aP 1 1000000).bind fun r1=>bif !r1 then (s5 u true p0) else ((o9 u p0.aS p0.aY).bind fun r2=>bif !r2 then (s5 u true p0) else ((pa u p0.aS p0.aY).bind fun r3=>s5 u (((p0.aD.length:Int)) != r3) p0)))
def Eg (u:Nat) (p0:af) (s:Unit):Option Bool:=(Cm u)
def zk (u:Nat) (p0:af) (y8:bN) (i_:Nat) (s:Unit) (k_:Unit→Option Bool):Option Bool:=(pr u y8.fS).bind fun r9=>(f8 u p0.aS p0.aY (i_:Int)).bind fun r10=>bif !r9.2 then (lE u (fun z0 z1=>k_ ()) (i_:Int) true p0) else (bif ((r9.1.length:Int)) != r10.2 then (lE u (fun z0 z1=>k_ ()) (i_:Int) true p0) else ((gZ u r9.1).bind fun r11=>(ci p0.aD (i_:Int)).bind fun y12=>lE u (fun z0 z1=>k_ ()) (i_:Int) (!([r11.fW,r11.fS] == [y12.fW,y12.fS])) p0))
theorem MT (u:Nat) (p0:af) (s:Unit) (k:Nat) (hn:p0.aD.length≤9223372036854775807) (hk:p0.aD.length < k):jO u k 0 p0=Pu.bt (Eg u p0) (zk u p0) p0.aD 0 s:=Pu.bP (fun (k:Nat) (s:Unit) (i:Int)=>jO u k i p0) hn (fun _ _ _=>rfl) s hk
def rK (u:Nat) (p0:Int):Option Int :=
  (bF u p0 0 40).bind fun r1=>bif !r1 then (some 0) else ((dW (decide (0≤p0))).bind fun _=>some (cy .i64 (i7 .i64 1 p0) 1))
def qc (u:Nat) (p0:af):Option Int :=
  (rK u ((p0.aD.length:Int))).bind fun r1=>some r1
def tO (u:Nat) (p0 p1:Int) (x3:Bool):Option Int :=
  bif x3 then (some 0) else (some (Ap .i64 p0 p1))
def rL (u:Nat) (p0 p1:Int):Option Int :=
  (cz u p0).bind fun r1=>bif !r1 then (tO u p0 p1 true) else ((cz u p1).bind fun r2=>tO u p0 p1 (!r2))
def fX (u:Nat) (p0 p1:Int):Option Bool :=
  (cz u p0).bind fun r1=>bif r1 then ((bF u p1 0 39).bind fun r2=>bif r2 then ((dW (decide (0≤p1))).bind fun _=>some ((fE .i64 (n4 .i64 p0 p1) 1) == 1)) else (some false)) else (some false)
def AP (u:Nat)  : Option Bool :=
  some true
def oq (u mx:Nat) (p0:List Int) (x2:Int):Option Bool:=match mx with
  | 0=>none
  | mx+1=>bif decide (x2 < ((p0.length:Int))) then ((ci p0 x2).bind fun y4=>bif y4 != 0 then (some false) else ((fun z0 z1=>oq u mx z0 z1) p0 (aW .i64 x2 1))) else (AP u)
def pd (u:Nat) (p0:List Int):Option Bool :=
  oq u u p0 0
def KC (u:Nat) (p0:List Int) (s:Unit):Option Bool:=(AP u)
def CP (u:Nat) (p0:List Int) (y4:Int) (i_:Nat) (s:Unit) (k_:Unit→Option Bool):Option Bool:=bif y4 != 0 then (some false) else ((fun z0 z1=>k_ ()) p0 (aW .i64 (i_:Int) 1))
theorem KD (u:Nat) (p0:List Int) (s:Unit) (k:Nat) (hn:p0.length≤9223372036854775807) (hk:p0.length < k):oq u k p0 0=Pu.bt (KC u p0) (CP u p0) p0 0 s:=Pu.bP (fun (k:Nat) (s:Unit) (i:Int)=>oq u k p0 i) hn (fun _ _ _=>rfl) s hk
def zl (u:Nat)  : Option Bool :=
  some true
def d2 (u:Nat) (Kh:Int→af→aX→Option Bool) (x7:Int) (x18:Bool) (p0:af) (p1:aX):Option Bool :=
  bif x18 then (some false) else (Kh (aW .i64 x7 1) p0 p1)
def ey (u dQ:Nat) (x7:Int) (p0:af) (p1:aX):Option Bool:=match dQ with
  | 0=>none
  | dQ+1=>bif decide (x7 < ((p0.aD.length:Int))) then ((f8 u p0.aS p0.aY x7).bind fun r9=>(dW (dU r9.1 (aW .i64 r9.1 r9.2) p1.bg.length)).bind fun _=>(fX u p1.aT x7).bind fun r11=>bif r11 then ((gZ u ((p1.bg.take (Int.toNat (aW .i64 r9.1 r9.2))).drop (Int.toNat r9.1))).bind fun r12=>(ci p0.aD x7).bind fun y13=>bif !([r12.fW,r12.fS] == [y13.fW,y13.fS]) then (d2 u (fun z0 z1 z2=>ey u dQ z0 z1 z2) x7 true p0 p1) else ((fX u p1.aT x7).bind fun r14=>bif !r14 then ((pd u ((p1.bg.take (Int.toNat (aW .i64 r9.1 r9.2))).drop (Int.toNat r9.1))).bind fun r15=>d2 u (fun z0 z1 z2=>ey u dQ z0 z1 z2) x7 (!r15) p0 p1) else (d2 u (fun z0 z1 z2=>ey u dQ z0 z1 z2) x7 false p0 p1))) else ((fX u p1.aT x7).bind fun r16=>bif !r16 then ((pd u ((p1.bg.take (Int.toNat (aW .i64 r9.1 r9.2))).drop (Int.toNat r9.1))).bind fun r17=>d2 u (fun z0 z1 z2=>ey u dQ z0 z1 z2) x7 (!r17) p0 p1) else (d2 u (fun z0 z1 z2=>ey u dQ z0 z1 z2) x7 false p0 p1))) else (zl u)
def nb (u:Nat) (x5:Bool) (p0:af) (p1:aX):Option Bool :=
  bif x5 then (some false) else (ey u u 0 p0 p1)
def nI (u:Nat) (p0:af) (p1:aX):Option Bool :=
  (jq u p0).bind fun r1=>bif !r1 then (nb u true p0 p1) else ((cz u p1.aT).bind fun r2=>bif !r2 then (nb u true p0 p1) else ((qc u p0).bind fun r3=>(rL u p1.aT r3).bind fun r4=>bif r4 != 0 then (nb u true p0 p1) else (nb u (((p1.bg.length:Int)) != p0.aY) p0 p1)))
def Ij (u:Nat) (p0:af) (p1:aX) (s:Unit):Option Bool:=(zl u)
def BO (u:Nat) (p0:af) (p1:aX) (i_:Nat) (s:Unit) (k_:Unit→Option Bool):Option Bool:=(f8 u p0.aS p0.aY (i_:Int)).bind fun r9=>(dW (dU r9.1 (aW .i64 r9.1 r9.2) p1.bg.length)).bind fun _=>(fX u p1.aT (i_:Int)).bind fun r11=>bif r11 then ((gZ u ((p1.bg.take (Int.toNat (aW .i64 r9.1 r9.2))).drop (Int.toNat r9.1))).bind fun r12=>(ci p0.aD (i_:Int)).bind fun y13=>bif !([r12.fW,r12.fS] == [y13.fW,y13.fS]) then (d2 u (fun z0 z1 z2=>k_ ()) (i_:Int) true p0 p1) else ((fX u p1.aT (i_:Int)).bind fun r14=>bif !r14 then ((pd u ((p1.bg.take (Int.toNat (aW .i64 r9.1 r9.2))).drop (Int.toNat r9.1))).bind fun r15=>d2 u (fun z0 z1 z2=>k_ ()) (i_:Int) (!r15) p0 p1) else (d2 u (fun z0 z1 z2=>k_ ()) (i_:Int) false p0 p1))) else ((fX u p1.aT (i_:Int)).bind fun r16=>bif !r16 then ((pd u ((p1.bg.take (Int.toNat (aW .i64 r9.1 r9.2))).drop (Int.toNat r9.1))).bind fun r17=>d2 u (fun z0 z1 z2=>k_ ()) (i_:Int) (!r17) p0 p1) else (d2 u (fun z0 z1 z2=>k_ ()) (i_:Int) false p0 p1))
theorem Ik (u:Nat) (p0:af) (p1:aX) (s:Unit) (k:Nat) (hn:(((p0.aD.length:Int)):Int)≤9223372036854775807) (hk:Int.toNat (((p0.aD.length:Int))) < k):ey u k 0 p0 p1=Pu.pT (Ij u p0 p1) (BO u p0 p1) (Int.toNat (((p0.aD.length:Int)))) 0 s:=Pu.rx (fun (k:Nat) (s:Unit) (i:Int)=>ey u k i p0 p1) hn (fun _ _ _=>rfl) s hk
def vE (u:Nat) (p0:af) (p1:aX):Option Int :=
  (qc u p0).bind fun r1=>(rL u r1 p1.aT).bind fun r2=>some r2
def AQ (u:Nat) (p0:af) (p1:aX):Option Bool :=
  bif p0.aP != 0 then ((nI u p0 p1).bind fun r1=>bif r1 then ((vE u p0 p1).bind fun r2=>some (r2 == 0)) else (some false)) else (some false)
def qT (u:Nat) (p2:aA):Option Bool :=
  bif p2.aJ == 0 then ((rJ u p2).bind fun r18=>some r18) else (bif p2.aJ == 1 then (bif p2.av.aP != 0 then ((nI u p2.av p2.a7).bind fun r19=>some r19) else (some false)) else ((bF u p2.aJ 2 6).bind fun r20=>bif r20 then ((AQ u p2.av p2.a7).bind fun r21=>some r21) else (some false)))
def ot (u:Nat) (Mr:Int→Int→co→aA→Option Bool) (p1 x13:Int) (x17:Bool) (p0:co) (p2:aA):Option Bool :=
  bif x17 then (some false) else (Mr p1 (aW .i64 x13 1) p0 p2)
def iE (u ie:Nat) (p1 x13:Int) (p0:co) (p2:aA):Option Bool:=match ie with
  | 0=>none
  | ie+1=>bif decide (x13 < ((p2.aO.length:Int))) then ((ci p2.aO x13).bind fun y15=>bif y15.fd == p1 then (ot u (fun z0 z1 z2 z3=>iE u ie z0 z1 z2 z3) p1 x13 true p0 p2) else ((ci p2.aO x13).bind fun y16=>ot u (fun z0 z1 z2 z3=>iE u ie z0 z1 z2 z3) p1 x13 (decide (y16.fd≥((p0.cx.length:Int)))) p0 p2)) else (qT u p2)
def cr (u:Nat) (p1:Int) (x11:Bool) (p0:co) (p2:aA):Option Bool :=
  bif x11 then (some false) else (iE u u p1 0 p0 p2)
def vF (u:Nat) (p1:Int) (x3:Bool) (p0:co) (p2:aA):Option Bool :=
  bif x3 then (some false) else (bif !p2.fM then (bif p2.bf == 0 then (bif p2.be == 0 then ((rJ u p2).bind fun r4=>bif r4 then (bif p2.aJ == 0 then (bif ((p2.aO.length:Int)) == 0 then (some (p2.a8 == 0)) else (some false)) else (some false)) else (some false)) else (some false)) else (some false)) else (bif p1 == 0 then (bif p2.bf != (-1) then (cr u p1 true p0 p2) else (bif decide (p1 > 0) then ((qb u p0 p2.bf p1).bind fun r5=>bif !r5 then (cr u p1 true p0 p2) else (bif decide (p2.be < 0) then (cr u p1 true p0 p2) else (bif decide (p2.a8 < 0) then (cr u p1 true p0 p2) else (bif !((p2.aJ == 6) == (p1 == 0)) then (cr u p1 true p0 p2) else ((pc u p2.aO).bind fun r6=>cr u p1 (!r6) p0 p2))))) else (bif decide (p2.be < 0) then (cr u p1 true p0 p2) else (bif decide (p2.a8 < 0) then (cr u p1 true p0 p2) else (bif !((p2.aJ == 6) == (p1 == 0)) then (cr u p1 true p0 p2) else ((pc u p2.aO).bind fun r7=>cr u p1 (!r7) p0 p2)))))) else (bif decide (p1 > 0) then ((qb u p0 p2.bf p1).bind fun r8=>bif !r8 then (cr u p1 true p0 p2) else (bif decide (p2.be < 0) then (cr u p1 true p0 p2) else (bif decide (p2.a8 < 0) then (cr u p1 true p0 p2) else (bif !((p2.aJ == 6) == (p1 == 0)) then (cr u p1 true p0 p2) else ((pc u p2.aO).bind fun r9=>cr u p1 (!r9) p0 p2))))) else (bif decide (p2.be < 0) then (cr u p1 true p0 p2) else (bif decide (p2.a8 < 0) then (cr u p1 true p0 p2) else (bif !((p2.aJ == 6) == (p1 == 0)) then (cr u p1 true p0 p2) else ((pc u p2.aO).bind fun r10=>cr u p1 (!r10) p0 p2)))))))
def uQ (u:Nat) (p0:co) (p1:Int) (p2:aA):Option Bool :=
  (uO u p0).bind fun r1=>bif !r1 then (vF u p1 true p0 p2) else ((bF u p1 0 (cy .i64 ((p0.cx.length:Int)) 1)).bind fun r2=>vF u p1 (!r2) p0 p2)
def KE (u:Nat) (p1:Int) (p0:co) (p2:aA) (s:Unit):Option Bool:=(qT u p2)
def CQ (u:Nat) (p1:Int) (p0:co) (p2:aA) (y15:Kid) (i_:Nat) (s:Unit) (k_:Unit→Option Bool):Option Bool:=bif y15.fd == p1 then (ot u (fun z0 z1 z2 z3=>k_ ()) p1 (i_:Int) true p0 p2) else ((ci p2.aO (i_:Int)).bind fun y16=>ot u (fun z0 z1 z2 z3=>k_ ()) p1 (i_:Int) (decide (y16.fd≥((p0.cx.length:Int)))) p0 p2)
theorem KF (u:Nat) (p1:Int) (p0:co) (p2:aA) (s:Unit) (k:Nat) (hn:p2.aO.length≤9223372036854775807) (hk:p2.aO.length < k):iE u k p1 0 p0 p2=Pu.bt (KE u p1 p0 p2) (CQ u p1 p0 p2) p2.aO 0 s:=Pu.bP (fun (k:Nat) (s:Unit) (i:Int)=>iE u k p1 i p0 p2) hn (fun _ _ _=>rfl) s hk
def qd (u:Nat) (p0:c7):Option Bool :=
  (bF u p0.aP 0 1000000).bind fun r1=>bif r1 then ((bF u p0.cL 0 1).bind fun r2=>bif r2 then ((bF u p0.aY 0 240).bind fun r3=>some r3) else (some false)) else (some false)
def pe (u:Nat) (p0:aG) (p1:Int):Option ((List Int)) :=
  bif p1 == 1 then (some p0.fB) else (some p0.fA)
def ut (u:Nat) (p0:ca):Option Bool :=
  bif p0.d1 == 2 then (bif p0.Cl == 0 then (bif ((p0.fB.length:Int)) == 0 then ((qd u p0.fR).bind fun r1=>some r1) else (some false)) else (some false)) else ((bF u p0.d1 0 1).bind fun r2=>bif r2 then ((bF u p0.Cl 0 240).bind fun r3=>bif r3 then (bif decide (((p0.fB.length:Int))≤(cy .i64 240 p0.Cl)) then (some ([p0.fR.aP,p0.fR.cL,p0.fR.aY] == [0,0,0])) else (some false)) else (some false)) else (some false))
def AR (u:Nat)  : Option Bool :=
  some true
def mA (u mp:Nat) (x5:Int) (p0:aG):Option Bool:=match mp with
  | 0=>none
  | mp+1=>bif decide (x5 < ((p0.fP.length:Int))) then ((ci p0.fP x5).bind fun y7=>(ut u y7).bind fun r8=>bif !r8 then (some false) else ((fun z0 z1=>mA u mp z0 z1) (aW .i64 x5 1) p0)) else (AR u)
def mB (u:Nat) (x3:Bool) (p0:aG):Option Bool :=
  bif x3 then (some false) else (mA u u 0 p0)
def pf (u:Nat) (p0:aG):Option Bool :=
  bif decide (((p0.fA.length:Int)) > 240) then (mB u true p0) else (bif decide (((p0.fB.length:Int)) > 240) then (mB u true p0) else ((qd u p0.fR).bind fun r1=>bif !r1 then (mB u true p0) else ((pe u p0 p0.fR.cL).bind fun r2=>bif decide (p0.fR.aY > ((r2.length:Int))) then (mB u true p0) else (mB u (decide (((p0.fP.length:Int)) > 200)) p0))))
def CR (u:Nat) (p0:aG) (s:Unit):Option Bool:=(AR u)
def xw (u:Nat) (p0:aG) (y7:ca) (i_:Nat) (s:Unit) (k_:Unit→Option Bool):Option Bool:=(ut u y7).bind fun r8=>bif !r8 then (some false) else ((fun z0 z1=>k_ ()) (aW .i64 (i_:Int) 1) p0)
theorem KG (u:Nat) (p0:aG) (s:Unit) (k:Nat) (hn:p0.fP.length≤9223372036854775807) (hk:p0.fP.length < k):mA u k 0 p0=Pu.bt (CR u p0) (xw u p0) p0.fP 0 s:=Pu.bP (fun (k:Nat) (s:Unit) (i:Int)=>mA u k i p0) hn (fun _ _ _=>rfl) s hk
def rM (u:Nat) (p0:aG):Option (Int×(List Int)) :=
  (pf u p0).bind fun r1=>bif !r1 then (some ((0,([]:List Int)))) else ((pe u p0 p0.fR.cL).bind fun r2=>(dW (dU 0 p0.fR.aY r2.length)).bind fun _=>(dW (decide (((([]:List Int)).length+((r2.take (Int.toNat p0.fR.aY)).drop (Int.toNat 0)).length)*1≤140737488355328))).bind fun _=>some ((p0.fR.aP,(([]:List Int))++((r2.take (Int.toNat p0.fR.aY)).drop (Int.toNat 0)))))
def ou (u:Nat) (p0 p1:List Int):Option Bool :=
  some ((strOfNums p0).toList == (strOfNums p1).toList)
def nU (u:Nat) (p0:aG) (p1:Int) (p2:List Int):Option Bool :=
  (rM u p0).bind fun r1=>bif r1.1 == p1 then ((ou u r1.2 p2).bind fun r2=>some r2) else (some false)
def s6 (u:Nat) (p0:aG) (p1:List Int) (p2:Int) (p3:List Int):Option Bool :=
  (nU u p0 0 p1).bind fun r1=>bif r1 then (some true) else ((nU u p0 p2 p3).bind fun r2=>some r2)
def qU (u:Nat) (p0:aG):Option Int :=
  some (cy .i64 1 p0.fR.cL)
def qV (u:Nat) (p0:ca):Option ca :=
  (dW (decide (((([]:List Int)).length+p0.fB.length)*1≤140737488355328))).bind fun _=>some ((ca.mk p0.d1 p0.Cl ((([]:List Int))++p0.fB) p0.fR))
def AS (u:Nat) (p0:aG) (x11:List ca):Option aG :=
  some ((aG.mk ((([]:List Int))++p0.fA) ((([]:List Int))++p0.fB) p0.fR x11))
def oz (u my:Nat) (x5:Int) (p0:aG) (x6:List ca):Option aG:=match my with
  | 0=>none
  | my+1=>bif decide (x5 < ((p0.fP.length:Int))) then ((ci p0.fP x5).bind fun y9=>(qV u y9).bind fun r10=>(dW (decide ((x6.length+([r10]).length)*64≤140737488355328))).bind fun _=>(fun z0 z1 z2=>oz u my z0 z1 z2) (aW .i64 x5 1) p0 (x6++([r10]))) else (AS u p0 x6)
def uR (u:Nat) (p0:aG):Option aG :=
  (dW (decide (((([]:List Int)).length+p0.fA.length)*1≤140737488355328))).bind fun _=>(dW (decide (((([]:List Int)).length+p0.fB.length)*1≤140737488355328))).bind fun _=>oz u u 0 p0 (([]:List ca))
def KH (u:Nat) (p0:aG) (s:(List ca)):Option aG:=(AS u p0 s)
def CS (u:Nat) (p0:aG) (y9:ca) (i_:Nat) (s:(List ca)) (k_:((List ca))→Option aG):Option aG:=(qV u y9).bind fun r10=>(dW (decide ((s.length+([r10]).length)*64≤140737488355328))).bind fun _=>(fun z0 z1 z2=>k_ z2) (aW .i64 (i_:Int) 1) p0 (s++([r10]))
theorem KI (u:Nat) (p0:aG) (s:(List ca)) (k:Nat) (hn:p0.fP.length≤9223372036854775807) (hk:p0.fP.length < k):oz u k 0 p0 s=Pu.bt (KH u p0) (CS u p0) p0.fP 0 s:=Pu.bP (fun (k:Nat) (s:(List ca)) (i:Int)=>oz u k i p0 s) hn (fun _ _ _=>rfl) s hk
def xU (u:Nat) (x14:List Int):Option ((List Int)) :=
  some x14
def qe (u nF:Nat) (p1:Int) (p2 x8:List Int) (x9:Int):Option ((List Int)):=match nF with
  | 0=>none
  | nF+1=>bif decide (x9 < ((p2.length:Int))) then ((ci p2 x9).bind fun y12=>(ci x8 (aW .i64 p1 x9)).bind fun y13=>(fun z0 z1 z2 z3=>qe u nF z0 z1 z2 z3) p1 p2 (x8.set (Int.toNat (aW .i64 p1 x9)) y12) (aW .i64 x9 1)) else (xU u x8)
def xV (u:Nat) (p1:Int) (p2 x5:List Int):Option ((List Int)) :=
  qe u u p1 p2 x5 0
def s7 (u nG:Nat) (p1:Int) (p2 x3:List Int):Option ((List Int)):=match nG with
  | 0=>none
  | nG+1=>bif decide (((x3.length:Int)) < (aW .i64 p1 ((p2.length:Int)))) then ((dW (decide ((x3.length+(([0]:List Int)).length)*1≤140737488355328))).bind fun _=>(fun z0 z1 z2=>s7 u nG z0 z1 z2) p1 p2 (x3++(([0]:List Int)))) else (xV u p1 p2 x3)
def xy (u:Nat) (p0:List Int) (p1:Int) (p2:List Int):Option ((List Int)) :=
  (dW (decide (((([]:List Int)).length+p0.length)*1≤140737488355328))).bind fun _=>s7 u u p1 p2 ((([]:List Int))++p0)
def zn (u:Nat) (p1:Int) (p2:List Int) (s:(List Int)):Option ((List Int)):=(xU u s)
def zo (u:Nat) (p1:Int) (p2:List Int) (y12:Int) (i_:Nat) (s:(List Int)) (k_:((List Int))→Option ((List Int))):Option ((List Int)):=(ci s (aW .i64 p1 (i_:Int))).bind fun y13=>(fun z0 z1 z2 z3=>k_ z2) p1 p2 (s.set (Int.toNat (aW .i64 p1 (i_:Int))) y12) (aW .i64 (i_:Int) 1)
theorem MU (u:Nat) (p1:Int) (p2:List Int) (s:(List Int)) (k:Nat) (hn:p2.length≤9223372036854775807) (hk:p2.length < k):qe u k p1 p2 s 0=Pu.bt (zn u p1 p2) (zo u p1 p2) p2 0 s:=Pu.bP (fun (k:Nat) (s:(List Int)) (i:Int)=>qe u k p1 p2 s i) hn (fun _ _ _=>rfl) s hk
def qW (u:Nat) (x5 x6:List Int) (x7 x8 x9:Int) (r1:aG):Option aG :=
  some ((aG.mk x5 x6 ((c7.mk x7 x8 x9)) r1.fP))
def qX (u:Nat) (p0:aG) (p1:ca):Option aG :=
  (uR u p0).bind fun r1=>(ut u p1).bind fun r2=>bif !r2 then (qW u r1.fA r1.fB r1.fR.aP r1.fR.cL r1.fR.aY r1) else (bif p1.d1 == 0 then ((xy u p0.fA p1.Cl p1.fB).bind fun r3=>qW u r3 r1.fB r1.fR.aP r1.fR.cL r1.fR.aY r1) else (bif p1.d1 == 1 then ((xy u p0.fB p1.Cl p1.fB).bind fun r4=>qW u r1.fA r4 r1.fR.aP r1.fR.cL r1.fR.aY r1) else (qW u r1.fA r1.fB p1.fR.aP p1.fR.cL p1.fR.aY r1)))
def DJ (u:Nat) (x26 x27:List Int) (x28 x29 x30:Int) (x31:List ca):Option aG :=
  some ((aG.mk x26 x27 ((c7.mk x28 x29 x30)) (([]:List ca))))
def rN (u o8:Nat) (x10:Int) (p0:aG) (x11 x12:List Int) (x13 x14 x15:Int) (x16:List ca):Option aG:=match o8 with
  | 0=>none
  | o8+1=>bif decide (x10 < ((p0.fP.length:Int))) then ((ci p0.fP x10).bind fun y24=>(qX u ((aG.mk x11 x12 ((c7.mk x13 x14 x15)) x16)) y24).bind fun r25=>(fun z0 z1 z2 z3 z4 z5 z6 z7=>rN u o8 z0 z1 z2 z3 z4 z5 z6 z7) (aW .i64 x10 1) p0 r25.fA r25.fB r25.fR.aP r25.fR.cL r25.fR.aY r25.fP) else (DJ u x11 x12 x13 x14 x15 x16)
def CT (u:Nat) (p0:aG):Option aG :=
  (uR u p0).bind fun r1=>(pf u p0).bind fun r2=>bif !r2 then (some r1) else (rN u u 0 p0 r1.fA r1.fB r1.fR.aP r1.fR.cL r1.fR.aY r1.fP)
def AT (u:Nat) (p0:aG) (s:(List Int)×(List Int)×Int×Int×Int×(List ca)):Option aG:=(DJ u s.1 s.2.1 s.2.2.1 s.2.2.2.1 s.2.2.2.2.1 s.2.2.2.2.2)
def AU (u:Nat) (p0:aG) (y24:ca) (i_:Nat) (s:(List Int)×(List Int)×Int×Int×Int×(List ca)) (k_:((List Int)×(List Int)×Int×Int×Int×(List ca))→Option aG):Option aG:=(qX u ((aG.mk s.1 s.2.1 ((c7.mk s.2.2.1 s.2.2.2.1 s.2.2.2.2.1)) s.2.2.2.2.2)) y24).bind fun r25=>(fun z0 z1 z2 z3 z4 z5 z6 z7=>k_ (z2,z3,z4,z5,z6,z7)) (aW .i64 (i_:Int) 1) p0 r25.fA r25.fB r25.fR.aP r25.fR.cL r25.fR.aY r25.fP
theorem O8 (u:Nat) (p0:aG) (s:(List Int)×(List Int)×Int×Int×Int×(List ca)) (k:Nat) (hn:p0.fP.length≤9223372036854775807) (hk:p0.fP.length < k):rN u k 0 p0 s.1 s.2.1 s.2.2.1 s.2.2.2.1 s.2.2.2.2.1 s.2.2.2.2.2=Pu.bt (AT u p0) (AU u p0) p0.fP 0 s:=Pu.bP (fun (k:Nat) (s:(List Int)×(List Int)×Int×Int×Int×(List ca)) (i:Int)=>rN u k i p0 s.1 s.2.1 s.2.2.1 s.2.2.2.1 s.2.2.2.2.1 s.2.2.2.2.2) hn (fun _ _ _=>rfl) s hk
def mC (u:Nat) (p0 p1:List Int):Option Bool :=
  bif decide (((p0.length:Int))≥((p1.length:Int))) then ((dW (dU 0 ((p1.length:Int)) p0.length)).bind fun _=>(ou u ((p0.take (Int.toNat ((p1.length:Int)))).drop (Int.toNat 0)) p1).bind fun r2=>some r2) else (some false)
def qC (u:Nat) (p0:aG) (p2:aX):Option Bool :=
  (CT u p0).bind fun r8=>(qU u p0).bind fun r9=>(pe u r8 r9).bind fun r10=>(mC u r10 p2.bg).bind fun r11=>some r11
def iF (u i4:Nat) (x4:Int) (p0:aG) (p2:aX):Option Bool:=match i4 with
  | 0=>none
  | i4+1=>bif decide (x4 < ((p0.fP.length:Int))) then ((ci p0.fP x4).bind fun y6=>(qU u p0).bind fun r7=>bif y6.d1 != r7 then (some false) else ((fun z0 z1 z2=>iF u i4 z0 z1 z2) (aW .i64 x4 1) p0 p2)) else (qC u p0 p2)
def qY (u:Nat) (p0:aG) (p1:af) (p2:aX) (p3:Int):Option Bool :=
  (qU u p0).bind fun r1=>(pe u p0 r1).bind fun r2=>bif p3 == 2 then (iF u u 0 p0 p2) else (bif p3 == 3 then (bif ((p0.fP.length:Int)) == 0 then ((mC u r2 p2.bg).bind fun r8=>some r8) else (some false)) else (bif p3 == 4 then ((qU u p0).bind fun r9=>bif ((p0.fP.length:Int)) == 1 then ((ci p0.fP 0).bind fun y10=>bif y10.d1 == 2 then ((ci p0.fP 0).bind fun y11=>bif [y11.fR.aP,y11.fR.cL,y11.fR.aY] == [p1.aP,r9,p1.aY] then ((mC u r2 p2.bg).bind fun r12=>some r12) else (some false)) else (some false)) else (some false)) else (some false)))
def sJ (u:Nat) (p0:aG) (p2:aX) (s:Unit):Option Bool:=(qC u p0 p2)
def zU (u:Nat) (p0:aG) (p2:aX) (y6:ca) (i_:Nat) (s:Unit) (k_:Unit→Option Bool):Option Bool:=(qU u p0).bind fun r7=>bif y6.d1 != r7 then (some false) else ((fun z0 z1 z2=>k_ ()) (aW .i64 (i_:Int) 1) p0 p2)
theorem Gg (u:Nat) (p0:aG) (p2:aX) (s:Unit) (k:Nat) (hn:p0.fP.length≤9223372036854775807) (hk:p0.fP.length < k):iF u k 0 p0 p2=Pu.bt (sJ u p0 p2) (zU u p0 p2) p0.fP 0 s:=Pu.bP (fun (k:Nat) (s:Unit) (i:Int)=>iF u k i p0 p2) hn (fun _ _ _=>rfl) s hk
def iG (u:Nat) (p0:World) (p1:Int):Option Bool :=
  (ci p0.fN p1).bind fun y1=>(ci p0.fD p1).bind fun y2=>bif p1 == 0 then (bif y1.fM then ((ci p0.f6 0).bind fun y3=>(nU u y2 0 y3.fB).bind fun r4=>bif r4 then (some (((y2.fP.length:Int)) == 0)) else (some false)) else (some false)) else ((ci p0.f6 p1).bind fun y5=>(s6 u y2 y5.fB 1 p0.jj).bind fun r6=>bif !r6 then (some false) else (bif y1.aJ == 0 then (some (((y2.fP.length:Int)) == 0)) else (bif y1.aJ == 1 then (bif ((y2.fP.length:Int)) == 0 then ((ci p0.f6 p1).bind fun y7=>(nU u y2 0 y7.fB).bind fun r8=>some r8) else (some false)) else (bif y1.aJ == 5 then (bif ((y2.fP.length:Int)) == 0 then ((nU u y2 1 p0.jj).bind fun r9=>some r9) else (some false)) else ((ci p0.f6 p1).bind fun y10=>(nU u y2 0 y10.fB).bind fun r11=>bif r11 then ((qY u y2 y1.av y1.a7 y1.aJ).bind fun r12=>some r12) else (some false))))))
def zp (u:Nat)  : Option Bool :=
  some true
def nc (u:Nat) (Kk:World→Int→Option Bool) (p0:World) (x21:Int) (x27:Bool):Option Bool :=
  bif x27 then (some false) else (Kk p0 (aW .i64 x21 1))
def ja (u gz:Nat) (p0:World) (x21:Int):Option Bool:=match gz with
  | 0=>none
  | gz+1=>bif decide (x21 < ((p0.dX.length:Int))) then ((ci p0.dX x21).bind fun y23=>(bF u y23.du 0 (cy .i64 ((p0.fT.cx.length:Int)) 1)).bind fun r24=>bif !r24 then (nc u (fun z0 z1=>ja u gz z0 z1) p0 x21 true) else ((ci p0.dX x21).bind fun y25=>(bF u y25.G2 0 (cy .i64 ((p0.fT.cx.length:Int)) 1)).bind fun r26=>nc u (fun z0 z1=>ja u gz z0 z1) p0 x21 (!r26))) else (zp u)
def pJ (u:Nat) (p0:World):Option Bool :=
  ja u u p0 0
def d3 (u:Nat) (Kl:World→Int→af→Option Bool) (p0:World) (x8:Int) (x19:Bool) (r6:af):Option Bool :=
  bif x19 then (some false) else (Kl p0 (aW .i64 x8 1) r6)
def d4 (u dR:Nat) (p0:World) (x8:Int) (r6:af):Option Bool:=match dR with
  | 0=>none
  | dR+1=>bif decide (x8 < ((p0.fT.cx.length:Int))) then ((ci p0.fN x8).bind fun y10=>(uQ u p0.fT x8 y10).bind fun r11=>bif !r11 then (d3 u (fun z0 z1 z2=>d4 u dR z0 z1 z2) p0 x8 true r6) else ((ci p0.fD x8).bind fun y12=>(pf u y12).bind fun r13=>bif !r13 then (d3 u (fun z0 z1 z2=>d4 u dR z0 z1 z2) p0 x8 true r6) else ((ci p0.fN x8).bind fun y14=>bif y14.aJ != 0 then ((ci p0.fN x8).bind fun y15=>(jN u y15.av r6).bind fun r16=>bif !r16 then (d3 u (fun z0 z1 z2=>d4 u dR z0 z1 z2) p0 x8 true r6) else ((iG u p0 x8).bind fun r17=>d3 u (fun z0 z1 z2=>d4 u dR z0 z1 z2) p0 x8 (!r17) r6)) else ((iG u p0 x8).bind fun r18=>d3 u (fun z0 z1 z2=>d4 u dR z0 z1 z2) p0 x8 (!r18) r6)))) else (pJ u p0)
def d5 (u:Nat) (p0:World) (x5:Bool):Option Bool :=
  bif x5 then (some false) else ((AM u p0).bind fun r6=>d4 u u p0 0 r6)
def vG (u:Nat) (p0:World):Option Bool :=
  (yx u p0.fC).bind fun r1=>bif !r1 then (d5 u p0 true) else ((uO u p0.fT).bind fun r2=>bif !r2 then (d5 u p0 true) else ((o9 u p0.fC.aS ((p0.jj.length:Int))).bind fun r3=>bif !r3 then (d5 u p0 true) else ((vB u p0.f6 ((p0.fT.cx.length:Int))).bind fun r4=>bif !r4 then (d5 u p0 true) else (bif ((p0.fN.length:Int)) != ((p0.fT.cx.length:Int)) then (d5 u p0 true) else (bif ((p0.fD.length:Int)) != ((p0.fT.cx.length:Int)) then (d5 u p0 true) else (bif decide (((p0.dX.length:Int)) > 400) then (d5 u p0 true) else (bif decide (((p0.p5.length:Int)) > 3000) then (d5 u p0 true) else (d5 u p0 (decide (p0.qO < 0))))))))))
def Il (u:Nat) (p0:World) (s:Unit):Option Bool:=(zp u)
def BP (u:Nat) (p0:World) (y23:au) (i_:Nat) (s:Unit) (k_:Unit→Option Bool):Option Bool:=(bF u y23.du 0 (cy .i64 ((p0.fT.cx.length:Int)) 1)).bind fun r24=>bif !r24 then (nc u (fun z0 z1=>k_ ()) p0 (i_:Int) true) else ((ci p0.dX (i_:Int)).bind fun y25=>(bF u y25.G2 0 (cy .i64 ((p0.fT.cx.length:Int)) 1)).bind fun r26=>nc u (fun z0 z1=>k_ ()) p0 (i_:Int) (!r26))
theorem Im (u:Nat) (p0:World) (s:Unit) (k:Nat) (hn:p0.dX.length≤9223372036854775807) (hk:p0.dX.length < k):ja u k p0 0=Pu.bt (Il u p0) (BP u p0) p0.dX 0 s:=Pu.bP (fun (k:Nat) (s:Unit) (i:Int)=>ja u k p0 i) hn (fun _ _ _=>rfl) s hk
def Io (u:Nat) (p0:World) (r6:af) (s:Unit):Option Bool:=(pJ u p0)
def BQ (u:Nat) (p0:World) (r6:af) (i_:Nat) (s:Unit) (k_:Unit→Option Bool):Option Bool:=(ci p0.fN (i_:Int)).bind fun y10=>(uQ u p0.fT (i_:Int) y10).bind fun r11=>bif !r11 then (d3 u (fun z0 z1 z2=>k_ ()) p0 (i_:Int) true r6) else ((ci p0.fD (i_:Int)).bind fun y12=>(pf u y12).bind fun r13=>bif !r13 then (d3 u (fun z0 z1 z2=>k_ ()) p0 (i_:Int) true r6) else ((ci p0.fN (i_:Int)).bind fun y14=>bif y14.aJ != 0 then ((ci p0.fN (i_:Int)).bind fun y15=>(jN u y15.av r6).bind fun r16=>bif !r16 then (d3 u (fun z0 z1 z2=>k_ ()) p0 (i_:Int) true r6) else ((iG u p0 (i_:Int)).bind fun r17=>d3 u (fun z0 z1 z2=>k_ ()) p0 (i_:Int) (!r17) r6)) else ((iG u p0 (i_:Int)).bind fun r18=>d3 u (fun z0 z1 z2=>k_ ()) p0 (i_:Int) (!r18) r6)))
theorem Ip (u:Nat) (p0:World) (r6:af) (s:Unit) (k:Nat) (hn:(((p0.fT.cx.length:Int)):Int)≤9223372036854775807) (hk:Int.toNat (((p0.fT.cx.length:Int))) < k):d4 u k p0 0 r6=Pu.pT (Io u p0 r6) (BQ u p0 r6) (Int.toNat (((p0.fT.cx.length:Int)))) 0 s:=Pu.rx (fun (k:Nat) (s:Unit) (i:Int)=>d4 u k p0 i r6) hn (fun _ _ _=>rfl) s hk
def uS (u:Nat) (p0:af):Option af :=
  (dW (decide (((([]:List bN)).length+p0.aD.length)*16≤140737488355328))).bind fun _=>some ((af.mk p0.aP p0.aS p0.aY ((([]:List bN))++p0.aD)))
def uT (u:Nat) (p0:aX):Option aX :=
  (dW (decide (((([]:List Int)).length+p0.bg.length)*1≤140737488355328))).bind fun _=>some ((aX.mk p0.aT ((([]:List Int))++p0.bg)))
def fF (u:Nat) (p0:aA):Option aA :=
  (uS u p0.av).bind fun r1=>(uT u p0.a7).bind fun r2=>(dW (decide (((([]:List Kid)).length+p0.aO.length)*40≤140737488355328))).bind fun _=>some ((aA.mk p0.fM p0.bf p0.be r1 r2 p0.aJ ((([]:List Kid))++p0.aO) p0.a8))
def vH (u:Nat)  : Option (Int×Int×Bool) :=
  some ((0,0,false))
def qZ (u:Nat) (o7:(List Int)→Int→Int→Int→Option (Int×Int×Bool)) (p0:List Int) (p1 x3:Int) (y8 x4:Int) (x10:Bool):Option (Int×Int×Bool) :=
  bif x10 then (some ((0,0,false))) else (some ((sZ .i64 x3 (i7 .i64 (fE .i64 (IntKind.wrap .i64 y8) 127) (gS .i64 7 x4)),aW .i64 (aW .i64 p1 x4) 1,true)))
def mD (u:Nat) (o7:(List Int)→Int→Int→Int→Option (Int×Int×Bool)) (p0:List Int) (p1 x3 x4:Int) (x7:Bool):Option (Int×Int×Bool) :=
  bif x7 then (some ((0,0,false))) else ((ci p0 (aW .i64 p1 x4)).bind fun y8=>(dW (decide (0≤(gS .i64 7 x4)))).bind fun _=>bif decide ((IntKind.wrap .i64 y8) < 128) then (bif (IntKind.wrap .i64 y8) == 0 then (bif decide (x4 > 0) then (qZ u o7 p0 p1 x3 y8 x4 true) else (qZ u o7 p0 p1 x3 y8 x4 (decide ((sZ .i64 x3 (i7 .i64 (fE .i64 (IntKind.wrap .i64 y8) 127) (gS .i64 7 x4))) > 1000000000000)))) else (qZ u o7 p0 p1 x3 y8 x4 (decide ((sZ .i64 x3 (i7 .i64 (fE .i64 (IntKind.wrap .i64 y8) 127) (gS .i64 7 x4))) > 1000000000000)))) else (o7 p0 p1 (sZ .i64 x3 (i7 .i64 (fE .i64 (IntKind.wrap .i64 y8) 127) (gS .i64 7 x4))) (aW .i64 x4 1)))
def dE (u fL:Nat) (p0:List Int) (p1 x3 x4:Int):Option (Int×Int×Bool):=match fL with
  | 0=>none
  | fL+1=>bif decide (x4 < 6) then (bif decide (p1 < 0) then (mD u (fun z0 z1 z2 z3=>dE u fL z0 z1 z2 z3) p0 p1 x3 x4 true) else (mD u (fun z0 z1 z2 z3=>dE u fL z0 z1 z2 z3) p0 p1 x3 x4 (decide (p1≥(cy .i64 ((p0.length:Int)) x4))))) else (vH u)
def ga (u:Nat) (p0:List Int) (p1:Int):Option (Int×Int×Bool) :=
  dE u u p0 p1 0 0
def KJ (u:Nat) (p0:List Int) (p1 s:Int):Option (Int×Int×Bool):=(vH u)
def KK (u:Nat) (p0:List Int) (p1:Int) (i_:Nat) (s:Int) (k_:Int→Option (Int×Int×Bool)):Option (Int×Int×Bool):=bif decide (p1 < 0) then (mD u (fun z0 z1 z2 z3=>k_ z2) p0 p1 s (i_:Int) true) else (mD u (fun z0 z1 z2 z3=>k_ z2) p0 p1 s (i_:Int) (decide (p1≥(cy .i64 ((p0.length:Int)) (i_:Int)))))
theorem WY (u:Nat) (p0:List Int) (p1 s:Int) (k:Nat) (hn:(6:Int)≤9223372036854775807) (hk:Int.toNat (6) < k):dE u k p0 p1 s 0=Pu.pT (KJ u p0 p1) (KK u p0 p1) (Int.toNat (6)) 0 s:=Pu.rx (fun (k:Nat) (s i:Int)=>dE u k p0 p1 s i) hn (fun _ _ _=>rfl) s hk
def rO (u:Nat)  : Option (Int×Int×Bool) :=
  some ((0,0,false))
def fG (u jI:Nat) (p0:List Int) (p1 x3 x4:Int):Option (Int×Int×Bool):=match jI with
  | 0=>none
  | jI+1=>bif decide (x4 < 8) then (bif decide (p1≥(cy .i64 ((p0.length:Int)) x4)) then (some ((0,0,false))) else ((ci p0 (aW .i64 p1 x4)).bind fun y7=>(dW (decide (0≤(gS .i64 7 x4)))).bind fun _=>bif decide ((IntKind.wrap .i64 y7) < 128) then (bif decide ((IntKind.wrap .i64 y7) > 0) then (some ((sZ .i64 x3 (i7 .i64 (fE .i64 (IntKind.wrap .i64 y7) 127) (gS .i64 7 x4)),aW .i64 (aW .i64 p1 x4) 1,true))) else (some ((sZ .i64 x3 (i7 .i64 (fE .i64 (IntKind.wrap .i64 y7) 127) (gS .i64 7 x4)),aW .i64 (aW .i64 p1 x4) 1,x4 == 0)))) else ((fun z0 z1 z2 z3=>fG u jI z0 z1 z2 z3) p0 p1 (sZ .i64 x3 (i7 .i64 (fE .i64 (IntKind.wrap .i64 y7) 127) (gS .i64 7 x4))) (aW .i64 x4 1)))) else (rO u)
def s8 (u:Nat) (p0:List Int) (p1:Int):Option (Int×Int×Bool) :=
  fG u u p0 p1 0 0
def G7 (u:Nat) (p0:List Int) (p1 s:Int):Option (Int×Int×Bool):=(rO u)
def G8 (u:Nat) (p0:List Int) (p1:Int) (i_:Nat) (s:Int) (k_:Int→Option (Int×Int×Bool)):Option (Int×Int×Bool):=bif decide (p1≥(cy .i64 ((p0.length:Int)) (i_:Int))) then (some ((0,0,false))) else ((ci p0 (aW .i64 p1 (i_:Int))).bind fun y7=>(dW (decide (0≤(gS .i64 7 (i_:Int))))).bind fun _=>bif decide ((IntKind.wrap .i64 y7) < 128) then (bif decide ((IntKind.wrap .i64 y7) > 0) then (some ((sZ .i64 s (i7 .i64 (fE .i64 (IntKind.wrap .i64 y7) 127) (gS .i64 7 (i_:Int))),aW .i64 (aW .i64 p1 (i_:Int)) 1,true))) else (some ((sZ .i64 s (i7 .i64 (fE .i64 (IntKind.wrap .i64 y7) 127) (gS .i64 7 (i_:Int))),aW .i64 (aW .i64 p1 (i_:Int)) 1,(i_:Int) == 0)))) else ((fun z0 z1 z2 z3=>k_ z2) p0 p1 (sZ .i64 s (i7 .i64 (fE .i64 (IntKind.wrap .i64 y7) 127) (gS .i64 7 (i_:Int)))) (aW .i64 (i_:Int) 1)))
theorem Vj (u:Nat) (p0:List Int) (p1 s:Int) (k:Nat) (hn:(8:Int)≤9223372036854775807) (hk:Int.toNat (8) < k):fG u k p0 p1 s 0=Pu.pT (G7 u p0 p1) (G8 u p0 p1) (Int.toNat (8)) 0 s:=Pu.rx (fun (k:Nat) (s i:Int)=>fG u k p0 p1 s i) hn (fun _ _ _=>rfl) s hk
def oA (u:Nat) (x19:Int) (r1 r2 r3:Int×Int×Bool) (x20:List bN):Option (af×Int×Bool) :=
  (jq u ((af.mk r1.1 r2.1 r3.1 x20))).bind fun r21=>bif !r21 then (some (((af.mk 0 0 0 ([])),0,false))) else (some (((af.mk r1.1 r2.1 r3.1 x20),x19,true)))
def jY (u:Nat) (Mp:(List Int)→(Int×Int×Bool)→(Int×Int×Bool)→(Int×Int×Bool)→Int→Int→(List bN)→Option (af×Int×Bool)) (p0:List Int) (r1 r2 r3:Int×Int×Bool) (x8 x9:Int) (x15:Bool) (x10:List bN):Option (af×Int×Bool) :=
  bif x15 then ((s8 u p0 x8).bind fun r16=>bif !r16.2.2 then (some (((af.mk 0 0 0 ([])),0,false))) else ((pr u r16.1).bind fun r17=>(gZ u r17.1).bind fun r18=>(dW (decide ((x10.length+([(bN.mk r18.fW r16.1)]).length)*16≤140737488355328))).bind fun _=>Mp p0 r1 r2 r3 r16.2.1 (aW .i64 x9 1) (x10++([(bN.mk r18.fW r16.1)])))) else (oA u x8 r1 r2 r3 x10)
def dG (u ic:Nat) (p0:List Int) (r1 r2 r3:Int×Int×Bool) (x8 x9:Int) (x10:List bN):Option (af×Int×Bool):=match ic with
  | 0=>none
  | ic+1=>(pa u r2.1 r3.1).bind fun r14=>bif decide (x9 < r14) then (jY u (fun z0 z1 z2 z3 z4 z5 z6=>dG u ic z0 z1 z2 z3 z4 z5 z6) p0 r1 r2 r3 x8 x9 (decide (r1.1 > 0)) x10) else (jY u (fun z0 z1 z2 z3 z4 z5 z6=>dG u ic z0 z1 z2 z3 z4 z5 z6) p0 r1 r2 r3 x8 x9 false x10)
def q5 (u:Nat) (p0:List Int) (r1 r2 r3:Int×Int×Bool) (x4:Bool):Option (af×Int×Bool) :=
  bif x4 then (some (((af.mk 0 0 0 ([])),0,false))) else (dG u u p0 r1 r2 r3 r3.2.1 0 ([]))
def yB (u:Nat) (p0:List Int) (p1:Int):Option (af×Int×Bool) :=
  (ga u p0 p1).bind fun r1=>(ga u p0 r1.2.1).bind fun r2=>(ga u p0 r2.2.1).bind fun r3=>bif !r1.2.2 then (q5 u p0 r1 r2 r3 true) else (bif !r2.2.2 then (q5 u p0 r1 r2 r3 true) else (q5 u p0 r1 r2 r3 (!r3.2.2)))
def pK (u:Nat) (p0:List Int) (r1:Int×Int×Bool) (x2:Bool):Option ((List Int)×Int×Bool) :=
  bif x2 then (some ((([]:List Int),0,false))) else ((dW (dU r1.2.1 (aW .i64 r1.2.1 r1.1) p0.length)).bind fun _=>(dW (decide (((([]:List Int)).length+((p0.take (Int.toNat (aW .i64 r1.2.1 r1.1))).drop (Int.toNat r1.2.1)).length)*1≤140737488355328))).bind fun _=>some (((([]:List Int))++((p0.take (Int.toNat (aW .i64 r1.2.1 r1.1))).drop (Int.toNat r1.2.1)),aW .i64 r1.2.1 r1.1,true)))
def vI (u:Nat) (p0:List Int) (p1 p2:Int):Option ((List Int)×Int×Bool) :=
  (ga u p0 p1).bind fun r1=>bif !r1.2.2 then (pK u p0 r1 true) else (bif decide (r1.1 > p2) then (pK u p0 r1 true) else (pK u p0 r1 (decide (r1.1 > (cy .i64 ((p0.length:Int)) r1.2.1)))))
def tP (u:Nat) (x20 p2:Int) (r2:Int×Int×Bool) (x21 x22:Int):Option (ei×Int×Bool) :=
  some (((ei.mk p2 r2.1 ((af.mk 0 0 0 ([]))) x21 x22 0 ([])),x20,true))
def tQ (u:Nat) (x14:Int) (x15:List Int) (p2:Int) (r2:Int×Int×Bool):Option (ei×Int×Bool) :=
  (ci x15 0).bind fun y16=>(ci x15 1).bind fun y17=>(ci x15 2).bind fun y18=>(ci x15 3).bind fun y19=>tP u x14 p2 r2 (aW .i64 y16 (i7 .i64 y17 20)) (aW .i64 y18 (i7 .i64 y19 20))
def ng (u:Nat) (Km:(List Int)→Int→(List Int)→Int→Int→(Int×Int×Bool)→Option (ei×Int×Bool)) (p0:List Int) (x6:Int) (x7:List Int) (x8:Int) (r12:Int×Int×Bool) (x13:Bool) (p2:Int) (r2:Int×Int×Bool):Option (ei×Int×Bool) :=
  bif x13 then (some (((ei.mk p2 r2.1 ((af.mk 0 0 0 ([]))) 0 0 0 ([])),0,false))) else ((dW (decide ((x7.length+(([r12.1]:List Int)).length)*8≤140737488355328))).bind fun _=>Km p0 r12.2.1 (x7++(([r12.1]:List Int))) (aW .i64 x8 1) p2 r2)
def cY (u gA:Nat) (p0:List Int) (x6:Int) (x7:List Int) (x8 p2:Int) (r2:Int×Int×Bool):Option (ei×Int×Bool):=match gA with
  | 0=>none
  | gA+1=>bif decide (x8 < 4) then ((ga u p0 x6).bind fun r12=>bif !r12.2.2 then (ng u (fun z0 z1 z2 z3 z4 z5=>cY u gA z0 z1 z2 z3 z4 z5) p0 x6 x7 x8 r12 true p2 r2) else (ng u (fun z0 z1 z2 z3 z4 z5=>cY u gA z0 z1 z2 z3 z4 z5) p0 x6 x7 x8 r12 (decide (r12.1≥1048576)) p2 r2)) else (tQ u x6 x7 p2 r2)
def fH (u:Nat) (p0:List Int) (p1 p2:Int):Option (ei×Int×Bool) :=
  bif p2 == 1 then ((yB u p0 p1).bind fun r1=>some (((ei.mk p2 0 r1.1 0 0 0 ([])),r1.2.1,r1.2.2))) else ((ga u p0 p1).bind fun r2=>bif !r2.2.2 then (some (((ei.mk p2 r2.1 ((af.mk 0 0 0 ([]))) 0 0 0 ([])),0,false))) else (bif p2 == 2 then (cY u u p0 r2.2.1 (([]:List Int)) 0 p2 r2) else (bif p2 == 3 then ((ga u p0 r2.2.1).bind fun r13=>(vI u p0 r13.2.1 6).bind fun r14=>bif r13.2.2 then (some (((ei.mk p2 r2.1 ((af.mk 0 0 0 ([]))) 0 0 r13.1 r14.1),r14.2.1,r14.2.2))) else (some (((ei.mk p2 r2.1 ((af.mk 0 0 0 ([]))) 0 0 r13.1 r14.1),r14.2.1,false)))) else (tP u r2.2.1 p2 r2 0 0))))
def Iq (u:Nat) (p0:List Int) (p2:Int) (r2:Int×Int×Bool) (s:Int×(List Int)):Option (ei×Int×Bool):=(tQ u s.1 s.2 p2 r2)
def Ir (u:Nat) (p0:List Int) (p2:Int) (r2:Int×Int×Bool) (i_:Nat) (s:Int×(List Int)) (k_:(Int×(List Int))→Option (ei×Int×Bool)):Option (ei×Int×Bool):=(ga u p0 s.1).bind fun r12=>bif !r12.2.2 then (ng u (fun z0 z1 z2 z3 z4 z5=>k_ (z1,z2)) p0 s.1 s.2 (i_:Int) r12 true p2 r2) else (ng u (fun z0 z1 z2 z3 z4 z5=>k_ (z1,z2)) p0 s.1 s.2 (i_:Int) r12 (decide (r12.1≥1048576)) p2 r2)
theorem Wt (u:Nat) (p0:List Int) (p2:Int) (r2:Int×Int×Bool) (s:Int×(List Int)) (k:Nat) (hn:(4:Int)≤9223372036854775807) (hk:Int.toNat (4) < k):cY u k p0 s.1 s.2 0 p2 r2=Pu.pT (Iq u p0 p2 r2) (Ir u p0 p2 r2) (Int.toNat (4)) 0 s:=Pu.rx (fun (k:Nat) (s:Int×(List Int)) (i:Int)=>cY u k p0 s.1 s.2 i p2 r2) hn (fun _ _ _=>rfl) s hk
def qf (u:Nat) (r1 x2:Bool) (p0:ei):Option Bool :=
  bif p0.bA == 1 then (bif p0.aP == 0 then (bif p0.av.aP != 0 then ((jq u p0.av).bind fun r3=>bif r3 then (some x2) else (some false)) else (some false)) else (some false)) else (bif p0.bA == 2 then ((bF u p0.aP 0 1000000).bind fun r4=>bif r4 then (bif r1 then ((cz u p0.bx).bind fun r5=>bif r5 then ((cz u p0.bL).bind fun r6=>bif r6 then (bif p0.fI == 0 then (some (((p0.fB.length:Int)) == 0)) else (some false)) else (some false)) else (some false)) else (some false)) else (some false)) else (bif p0.bA == 3 then ((bF u p0.aP 1 1000000).bind fun r7=>bif r7 then (bif r1 then (bif p0.bx == 0 then (bif p0.bL == 0 then ((bF u p0.fI 0 39).bind fun r8=>bif r8 then ((bF u ((p0.fB.length:Int)) 1 6).bind fun r9=>some r9) else (some false)) else (some false)) else (some false)) else (some false)) else (some false)) else (bif p0.bA == 4 then ((bF u p0.aP 0 1000000).bind fun r10=>bif r10 then (bif r1 then (some x2) else (some false)) else (some false)) else (some false))))
def xz (u:Nat) (p0:ei):Option Bool :=
  (jN u p0.av ((af.mk 0 0 0 ([])))).bind fun r1=>bif p0.bx == 0 then (bif p0.bL == 0 then (bif p0.fI == 0 then (qf u r1 (((p0.fB.length:Int)) == 0) p0) else (qf u r1 false p0)) else (qf u r1 false p0)) else (qf u r1 false p0)
def q6 (u:Nat) (x9:Bool) (r3:ei×Int×Bool):Option (ei×Bool) :=
  bif x9 then (some (((ei.mk 0 0 ((af.mk 0 0 0 ([]))) 0 0 0 ([])),false))) else (some ((r3.1,true)))
def vJ (u:Nat) (p0:List Int) (r3:ei×Int×Bool) (x5:Bool):Option (ei×Bool) :=
  bif x5 then (some (((ei.mk 0 0 ((af.mk 0 0 0 ([]))) 0 0 0 ([])),false))) else ((ga u p0 r3.2.1).bind fun r6=>bif !r6.2.2 then (q6 u true r3) else (bif r6.2.1 != ((p0.length:Int)) then (q6 u true r3) else ((dW (dU 0 r3.2.1 p0.length)).bind fun _=>(pb u ((p0.take (Int.toNat r3.2.1)).drop (Int.toNat 0))).bind fun r8=>q6 u (r6.1 != r8) r3)))
def vK (u:Nat) (p0:List Int) (r1:Int×Int×Bool) (x2:Bool):Option (ei×Bool) :=
  bif x2 then (some (((ei.mk 0 0 ((af.mk 0 0 0 ([]))) 0 0 0 ([])),false))) else ((fH u p0 r1.2.1 r1.1).bind fun r3=>bif !r3.2.2 then (vJ u p0 r3 true) else ((xz u r3.1).bind fun r4=>vJ u p0 r3 (!r4)))
def yC (u:Nat) (p0:List Int):Option (ei×Bool) :=
  (ga u p0 0).bind fun r1=>bif !r1.2.2 then (vK u p0 r1 true) else (vK u p0 r1 (decide (((p0.length:Int)) > 400)))
def lz (u:Nat) (p0:aA):Option aA :=
  (fF u p0).bind fun r1=>some ((aA.mk r1.fM r1.bf r1.be r1.av r1.a7 r1.aJ r1.aO (aW .i64 r1.a8 1)))
def Cn (u:Nat)  : Option Int :=
  some (-1)
def qg (u nC:Nat) (p0:List Kid) (p1 x2:Int):Option Int:=match nC with
  | 0=>none
  | nC+1=>bif decide (x2 < ((p0.length:Int))) then ((ci p0 x2).bind fun y4=>bif y4.fd == p1 then (some x2) else ((fun z0 z1 z2=>qg u nC z0 z1 z2) p0 p1 (aW .i64 x2 1))) else (Cn u)
def uv (u:Nat) (p0:List Kid) (p1:Int):Option Int :=
  qg u u p0 p1 0
def MV (u:Nat) (p0:List Kid) (p1:Int) (s:Unit):Option Int:=(Cn u)
def MW (u:Nat) (p0:List Kid) (p1:Int) (y4:Kid) (i_:Nat) (s:Unit) (k_:Unit→Option Int):Option Int:=bif y4.fd == p1 then (some (i_:Int)) else ((fun z0 z1 z2=>k_ ()) p0 p1 (aW .i64 (i_:Int) 1))
theorem MX (u:Nat) (p0:List Kid) (p1:Int) (s:Unit) (k:Nat) (hn:p0.length≤9223372036854775807) (hk:p0.length < k):qg u k p0 p1 0=Pu.bt (MV u p0 p1) (MW u p0 p1) p0 0 s:=Pu.bP (fun (k:Nat) (s:Unit) (i:Int)=>qg u k p0 p1 i) hn (fun _ _ _=>rfl) s hk
def Ag (u:Nat) (p1 p2 p3:Int) (p0:List Kid) (x12:Int):Option ((List Kid)) :=
  (dW (dU 0 x12 ((([]:List Kid))++p0).length)).bind fun _=>(dW (decide (((([]:List Kid)).length+((((([]:List Kid))++p0).take (Int.toNat x12)).drop (Int.toNat 0)).length)*40≤140737488355328))).bind fun _=>(dW (decide ((((([]:List Kid))++((((([]:List Kid))++p0).take (Int.toNat x12)).drop (Int.toNat 0))).length+([(Kid.mk p1 p2 p3 0 0)]).length)*40≤140737488355328))).bind fun _=>(dW (dU x12 ((((([]:List Kid))++p0).length:Int)) ((([]:List Kid))++p0).length)).bind fun _=>(dW (decide (((((([]:List Kid))++((((([]:List Kid))++p0).take (Int.toNat x12)).drop (Int.toNat 0)))++([(Kid.mk p1 p2 p3 0 0)])).length+((((([]:List Kid))++p0).take (Int.toNat ((((([]:List Kid))++p0).length:Int)))).drop (Int.toNat x12)).length)*40≤140737488355328))).bind fun _=>some ((((([]:List Kid))++((((([]:List Kid))++p0).take (Int.toNat x12)).drop (Int.toNat 0)))++([(Kid.mk p1 p2 p3 0 0)]))++((((([]:List Kid))++p0).take (Int.toNat ((((([]:List Kid))++p0).length:Int)))).drop (Int.toNat x12)))
def vL (u:Nat) (RN:Int→Int→Int→(List Kid)→Int→Option ((List Kid))) (p1 p2 p3:Int) (p0:List Kid) (x8:Int) (x11:Bool):Option ((List Kid)) :=
  bif x11 then (RN p1 p2 p3 p0 (aW .i64 x8 1)) else (Ag u p1 p2 p3 p0 x8)
def lA (u kn:Nat) (p1 p2 p3:Int) (p0:List Kid) (x8:Int):Option ((List Kid)):=match kn with
  | 0=>none
  | kn+1=>bif decide (x8 < ((((([]:List Kid))++p0).length:Int))) then ((ci ((([]:List Kid))++p0) x8).bind fun y10=>vL u (fun z0 z1 z2 z3 z4=>lA u kn z0 z1 z2 z3 z4) p1 p2 p3 p0 x8 (decide (y10.fd≤p1))) else (vL u (fun z0 z1 z2 z3 z4=>lA u kn z0 z1 z2 z3 z4) p1 p2 p3 p0 x8 false)
def vM (u:Nat) (p0:List Kid) (p1 p2 p3:Int) (x5:Bool):Option ((List Kid)) :=
  bif x5 then (some ((([]:List Kid))++p0)) else ((uv u p0 p1).bind fun r6=>bif decide (r6 < 0) then (lA u u p1 p2 p3 p0 0) else ((ci ((([]:List Kid))++p0) r6).bind fun y11=>(ci ((([]:List Kid))++p0) r6).bind fun y12=>some (((([]:List Kid))++p0).set (Int.toNat r6) ((Kid.mk y11.fd p2 (sZ .i64 y11.bL p3) 0 y11.c8)))))
def CU (u:Nat) (p0:List Kid) (p1 p2 p3:Int):Option ((List Kid)) :=
  (dW (decide (((([]:List Kid)).length+p0.length)*40≤140737488355328))).bind fun _=>(bF u p1 0 6).bind fun r2=>bif !r2 then (vM u p0 p1 p2 p3 true) else ((cz u p2).bind fun r3=>bif !r3 then (vM u p0 p1 p2 p3 true) else ((cz u p3).bind fun r4=>vM u p0 p1 p2 p3 (!r4)))
def vN (u:Nat) (x9:Int) (x10:List Int):Option ((List Int)) :=
  (dW (decide ((x10.length+(([IntKind.wrap .u8 x9]:List Int)).length)*1≤140737488355328))).bind fun _=>some (x10++(([IntKind.wrap .u8 x9]:List Int)))
def mE (u ms:Nat) (x5:Int) (x6:List Int):Option ((List Int)):=match ms with
  | 0=>none
  | ms+1=>bif decide (x5 > 127) then ((dW (decide ((x6.length+(([IntKind.wrap .u8 (sZ .i64 (fE .i64 x5 127) 128)]:List Int)).length)*1≤140737488355328))).bind fun _=>(fun z0 z1=>mE u ms z0 z1) (n4 .i64 x5 7) (x6++(([IntKind.wrap .u8 (sZ .i64 (fE .i64 x5 127) 128)]:List Int)))) else (vN u x5 x6)
def dY (u:Nat) (p0:List Int) (p1:Int):Option ((List Int)) :=
  (dW (decide (((([]:List Int)).length+p0.length)*1≤140737488355328))).bind fun _=>(bF u p1 0 1000000000000).bind fun r2=>bif !r2 then (some ((([]:List Int))++p0)) else (mE u u p1 ((([]:List Int))++p0))
def rP (u:Nat) (x7:List Int) (x8:Int):Option ((List Int)) :=
  (dW (decide ((x7.length+(([IntKind.wrap .u8 x8]:List Int)).length)*1≤140737488355328))).bind fun _=>some (x7++(([IntKind.wrap .u8 x8]:List Int)))
def jr (u jJ:Nat) (x3:List Int) (x4:Int):Option ((List Int)):=match jJ with
  | 0=>none
  | jJ+1=>bif decide (x4 > 127) then ((dW (decide ((x3.length+(([IntKind.wrap .u8 (sZ .i64 (fE .i64 x4 127) 128)]:List Int)).length)*1≤140737488355328))).bind fun _=>(fun z0 z1=>jr u jJ z0 z1) (x3++(([IntKind.wrap .u8 (sZ .i64 (fE .i64 x4 127) 128)]:List Int))) (n4 .i64 x4 7)) else (rP u x3 x4)
def s9 (u:Nat) (p0:List Int) (p1:Int):Option ((List Int)) :=
  jr u u p0 p1
def AV (u:Nat) (x14:List Int):Option ((List Int)) :=
  some x14
def oB (u mq:Nat) (x8:List Int) (x9:Int) (p1:af):Option ((List Int)):=match mq with
  | 0=>none
  | mq+1=>bif decide (x9 < ((p1.aD.length:Int))) then ((ci p1.aD x9).bind fun y12=>(s9 u x8 y12.fS).bind fun r13=>(fun z0 z1 z2=>oB u mq z0 z1 z2) r13 (aW .i64 x9 1) p1) else (AV u x8)
def yD (u:Nat) (p0:List Int) (p1:af):Option ((List Int)) :=
  (dW (decide (((([]:List Int)).length+p0.length)*1≤140737488355328))).bind fun _=>(jq u p1).bind fun r2=>bif !r2 then (some ((([]:List Int))++p0)) else ((dY u ((([]:List Int))++p0) p1.aP).bind fun r3=>(dY u r3 p1.aS).bind fun r4=>(dY u r4 p1.aY).bind fun r5=>oB u u r5 0 p1)
def CW (u:Nat) (p1:af) (s:(List Int)):Option ((List Int)):=(AV u s)
def xA (u:Nat) (p1:af) (y12:bN) (i_:Nat) (s:(List Int)) (k_:((List Int))→Option ((List Int))):Option ((List Int)):=(s9 u s y12.fS).bind fun r13=>(fun z0 z1 z2=>k_ z0) r13 (aW .i64 (i_:Int) 1) p1
theorem KL (u:Nat) (p1:af) (s:(List Int)) (k:Nat) (hn:p1.aD.length≤9223372036854775807) (hk:p1.aD.length < k):oB u k s 0 p1=Pu.bt (CW u p1) (xA u p1) p1.aD 0 s:=Pu.bP (fun (k:Nat) (s:(List Int)) (i:Int)=>oB u k s i p1) hn (fun _ _ _=>rfl) s hk
def vO (u:Nat) (p0:Int):Option (Int×Int) :=
  some ((fE .i64 p0 1048575,n4 .i64 p0 20))
def Ah (u:Nat) (p0 p1:List Int):Option ((List Int)) :=
  (dY u p0 ((p1.length:Int))).bind fun r1=>(dW (decide ((r1.length+p1.length)*1≤140737488355328))).bind fun _=>some (r1++p1)
def mF (u:Nat) (x15:List Int):Option ((List Int)) :=
  (pb u x15).bind fun r16=>(dY u x15 r16).bind fun r17=>some r17
def yE (u:Nat) (p0:ei):Option ((List Int)) :=
  (xz u p0).bind fun r1=>bif !r1 then (some (([]:List Int))) else ((dY u (([]:List Int)) p0.bA).bind fun r2=>bif p0.bA == 1 then ((yD u r2 p0.av).bind fun r3=>mF u r3) else (bif p0.bA == 2 then ((vO u p0.bx).bind fun r4=>(dY u r2 p0.aP).bind fun r5=>(dY u r5 r4.1).bind fun r6=>(dY u r6 r4.2).bind fun r7=>(vO u p0.bL).bind fun r8=>(dY u r7 r8.1).bind fun r9=>(dY u r9 r8.2).bind fun r10=>mF u r10) else (bif p0.bA == 3 then ((dY u r2 p0.aP).bind fun r11=>(dY u r11 p0.fI).bind fun r12=>(Ah u r12 p0.fB).bind fun r13=>mF u r13) else ((dY u r2 p0.aP).bind fun r14=>mF u r14))))
def iy (u:Nat) (p0 p1:Int) (p2:ei):Option au :=
  (yE u p2).bind fun r1=>some ((au.mk p0 p1 r1))
def uU (u:Nat) (p0:aA):Option Int :=
  some p0.a7.aT
def oC (u:Nat) (p0:List Kid) (p2 r1:Int) (x7:Bool):Option Int :=
  bif x7 then (some 0) else ((ci p0 r1).bind fun y8=>(ci p0 r1).bind fun y9=>some (Ap .i64 (fE .i64 y8.bx p2) y9.c8))
def uV (u:Nat) (p0:List Kid) (p1 p2:Int):Option Int :=
  (uv u p0 p1).bind fun r1=>bif decide (r1 < 0) then (oC u p0 p2 r1 true) else ((cz u p2).bind fun r2=>bif !r2 then (oC u p0 p2 r1 true) else ((ci p0 r1).bind fun y3=>(cz u y3.bx).bind fun r4=>bif !r4 then (oC u p0 p2 r1 true) else ((ci p0 r1).bind fun y5=>(cz u y5.c8).bind fun r6=>oC u p0 p2 r1 (!r6))))
def tR (u:Nat) (x9:List Int):Option ((List Int)) :=
  some x9
def kY (u:Nat) (Kj:Int→(List Int)→Int→Option ((List Int))) (p0:Int) (x8:List Int) (x4:Int):Option ((List Int)) :=
  Kj p0 x8 (aW .i64 x4 1)
def jb (u gy:Nat) (p0:Int) (x3:List Int) (x4:Int):Option ((List Int)):=match gy with
  | 0=>none
  | gy+1=>bif decide (x4 < 40) then ((fX u p0 x4).bind fun r7=>bif r7 then ((dW (decide ((x3.length+(([x4]:List Int)).length)*8≤140737488355328))).bind fun _=>kY u (fun z0 z1 z2=>jb u gy z0 z1 z2) p0 (x3++(([x4]:List Int))) x4) else (kY u (fun z0 z1 z2=>jb u gy z0 z1 z2) p0 x3 x4)) else (tR u x3)
def vP (u:Nat) (p0:Int):Option ((List Int)) :=
  jb u u p0 (([]:List Int)) 0
def BR (u:Nat) (p0:Int) (s:(List Int)):Option ((List Int)):=(tR u s)
def BS (u:Nat) (p0:Int) (i_:Nat) (s:(List Int)) (k_:((List Int))→Option ((List Int))):Option ((List Int)):=(fX u p0 (i_:Int)).bind fun r7=>bif r7 then ((dW (decide ((s.length+(([(i_:Int)]:List Int)).length)*8≤140737488355328))).bind fun _=>kY u (fun z0 z1 z2=>k_ z1) p0 (s++(([(i_:Int)]:List Int))) (i_:Int)) else (kY u (fun z0 z1 z2=>k_ z1) p0 s (i_:Int))
theorem Is (u:Nat) (p0:Int) (s:(List Int)) (k:Nat) (hn:(40:Int)≤9223372036854775807) (hk:Int.toNat (40) < k):jb u k p0 s 0=Pu.pT (BR u p0) (BS u p0) (Int.toNat (40)) 0 s:=Pu.rx (fun (k:Nat) (s:(List Int)) (i:Int)=>jb u k p0 s i) hn (fun _ _ _=>rfl) s hk
def tT (u:Nat) (p2:Int) (x3:Bool) (p0:af) (p1:aX):Option ((List Int)×Bool) :=
  bif x3 then (some ((([]:List Int),false))) else ((f8 u p0.aS p0.aY p2).bind fun r4=>(dW (dU r4.1 (aW .i64 r4.1 r4.2) p1.bg.length)).bind fun _=>(dW (decide (((([]:List Int)).length+((p1.bg.take (Int.toNat (aW .i64 r4.1 r4.2))).drop (Int.toNat r4.1)).length)*1≤140737488355328))).bind fun _=>some (((([]:List Int))++((p1.bg.take (Int.toNat (aW .i64 r4.1 r4.2))).drop (Int.toNat r4.1)),true)))
def pt (u:Nat) (p0:af) (p1:aX) (p2:Int):Option ((List Int)×Bool) :=
  (nI u p0 p1).bind fun r1=>bif !r1 then (tT u p2 true p0 p1) else ((fX u p1.aT p2).bind fun r2=>tT u p2 (!r2) p0 p1)
def pu (u:Nat) (p0 p1:Int) (p2:List Int):Option ei :=
  (dW (decide (((([]:List Int)).length+p2.length)*1≤140737488355328))).bind fun _=>some ((ei.mk 3 p0 ((af.mk 0 0 0 ([]))) 0 0 p1 ((([]:List Int))++p2)))
def oD (u:Nat) (p2:Int) (p0:List Kid) (r2:Int) (x6:Bool):Option ((List Kid)) :=
  bif x6 then (some ((([]:List Kid))++p0)) else ((ci ((([]:List Kid))++p0) r2).bind fun y7=>(ci ((([]:List Kid))++p0) r2).bind fun y8=>some (((([]:List Kid))++p0).set (Int.toNat r2) ((Kid.mk y7.fd y7.bx y7.bL y7.qP (sZ .i64 y7.c8 p2)))))
def qh (u:Nat) (p0:List Kid) (p1 p2:Int):Option ((List Kid)) :=
  (dW (decide (((([]:List Kid)).length+p0.length)*40≤140737488355328))).bind fun _=>(uv u p0 p1).bind fun r2=>bif decide (r2 < 0) then (oD u p2 p0 r2 true) else ((cz u p2).bind fun r3=>bif !r3 then (oD u p2 p0 r2 true) else ((ci p0 r2).bind fun y4=>(cz u y4.c8).bind fun r5=>oD u p2 p0 r2 (!r5)))
def qD (u:Nat) (p2 r3:Int) (p0 r1:aA) (x17:List au):Option Act :=
  (qh u p0.aO p2 r3).bind fun r18=>some ((Act.mk ((aA.mk r1.fM r1.bf r1.be r1.av r1.a7 r1.aJ r18 r1.a8)) x17))
def kv (u:Nat) (Gy:Int→Int→Int→((List Int))→Int→aA→aA→(List au)→Option Act) (p1 p2 r3:Int) (r4:(List Int)) (x7:Int) (p0 r1:aA) (x16:List au):Option Act :=
  Gy p1 p2 r3 r4 (aW .i64 x7 1) p0 r1 x16
def gc (u eP:Nat) (p1 p2 r3:Int) (r4:(List Int)) (x7:Int) (p0 r1:aA) (x8:List au):Option Act:=match eP with
  | 0=>none
  | eP+1=>bif decide (x7 < ((r4.length:Int))) then ((ci r4 x7).bind fun y11=>(pt u p0.av p0.a7 y11).bind fun r12=>bif r12.2 then ((ci r4 x7).bind fun y13=>(pu u p0.av.aP y13 r12.1).bind fun r14=>(iy u p1 p2 r14).bind fun r15=>(dW (decide ((x8.length+([r15]).length)*40≤140737488355328))).bind fun _=>kv u (fun z0 z1 z2 z3 z4 z5 z6 z7=>gc u eP z0 z1 z2 z3 z4 z5 z6 z7) p1 p2 r3 r4 x7 p0 r1 (x8++([r15]))) else (kv u (fun z0 z1 z2 z3 z4 z5 z6 z7=>gc u eP z0 z1 z2 z3 z4 z5 z6 z7) p1 p2 r3 r4 x7 p0 r1 x8)) else (qD u p2 r3 p0 r1 x8)
def q7 (u:Nat) (p0:aA) (p1 p2:Int):Option Act :=
  (fF u p0).bind fun r1=>(uU u p0).bind fun r2=>(uV u p0.aO p2 r2).bind fun r3=>(vP u r3).bind fun r4=>gc u u p1 p2 r3 r4 0 p0 r1 (([]:List au))
def zV (u:Nat) (p1 p2 r3:Int) (r4:(List Int)) (p0 r1:aA) (s:(List au)):Option Act:=(qD u p2 r3 p0 r1 s)
def zW (u:Nat) (p1 p2 r3:Int) (r4:(List Int)) (p0 r1:aA) (y11:Int) (i_:Nat) (s:(List au)) (k_:((List au))→Option Act):Option Act:=(pt u p0.av p0.a7 y11).bind fun r12=>bif r12.2 then ((ci r4 (i_:Int)).bind fun y13=>(pu u p0.av.aP y13 r12.1).bind fun r14=>(iy u p1 p2 r14).bind fun r15=>(dW (decide ((s.length+([r15]).length)*40≤140737488355328))).bind fun _=>kv u (fun z0 z1 z2 z3 z4 z5 z6 z7=>k_ z7) p1 p2 r3 r4 (i_:Int) p0 r1 (s++([r15]))) else (kv u (fun z0 z1 z2 z3 z4 z5 z6 z7=>k_ z7) p1 p2 r3 r4 (i_:Int) p0 r1 s)
theorem Gi (u:Nat) (p1 p2 r3:Int) (r4:(List Int)) (p0 r1:aA) (s:(List au)) (k:Nat) (hn:r4.length≤9223372036854775807) (hk:r4.length < k):gc u k p1 p2 r3 r4 0 p0 r1 s=Pu.bt (zV u p1 p2 r3 r4 p0 r1) (zW u p1 p2 r3 r4 p0 r1) r4 0 s:=Pu.bP (fun (k:Nat) (s:(List au)) (i:Int)=>gc u k p1 p2 r3 r4 i p0 r1 s) hn (fun _ _ _=>rfl) s hk
def pv (u:Nat) (r1:aA) (r2:(List Kid)) (x10:List au):Option Act :=
  some ((Act.mk ((aA.mk r1.fM r1.bf r1.be r1.av r1.a7 r1.aJ r2 r1.a8)) x10))
def pw (u:Nat) (r1:aA) (r2:(List Kid)) (r7:Act) (x9:List au):Option Act :=
  some ((Act.mk r7.fN x9))
def pL (u:Nat) (p0:aA) (p1 p2:Int) (p3:ei):Option Act :=
  (fF u p0).bind fun r1=>bif p2 == p1 then (some ((Act.mk r1 (([]:List au))))) else ((CU u p0.aO p2 p3.bx p3.bL).bind fun r2=>bif p0.aJ == 0 then ((iy u p1 p2 ((ei.mk 4 0 ((af.mk 0 0 0 ([]))) 0 0 0 ([])))).bind fun r3=>(dW (decide (((([]:List au)).length+([r3]).length)*40≤140737488355328))).bind fun _=>pv u r1 r2 ((([]:List au))++([r3]))) else (bif p3.aP != p0.av.aP then ((iy u p1 p2 ((ei.mk 1 0 p0.av 0 0 0 ([])))).bind fun r5=>(dW (decide (((([]:List au)).length+([r5]).length)*40≤140737488355328))).bind fun _=>pv u r1 r2 ((([]:List au))++([r5]))) else ((q7 u ((aA.mk r1.fM r1.bf r1.be r1.av r1.a7 r1.aJ r2 r1.a8)) p1 p2).bind fun r7=>bif ((r7.sW.length:Int)) == 0 then ((iy u p1 p2 ((ei.mk 4 p0.av.aP ((af.mk 0 0 0 ([]))) 0 0 0 ([])))).bind fun r8=>(dW (decide ((r7.sW.length+([r8]).length)*40≤140737488355328))).bind fun _=>pw u r1 r2 r7 (r7.sW++([r8]))) else (pw u r1 r2 r7 r7.sW))))
def ta (u:Nat) (p0:af):Option aX :=
  (jq u p0).bind fun r1=>bif !r1 then (some ((aX.mk 0 ([])))) else ((dW (decide (0≤p0.aY) && (p0.aY == 0 || p0.aY == p0.aY))).bind fun _=>(dW (decide (Int.toNat p0.aY*1≤140737488355328))).bind fun _=>some ((aX.mk 0 (List.replicate (Int.toNat p0.aY) (0:Int)))))
def As (u:Nat) (p0:Int):Option Bool :=
  (bF u p0 0 63000).bind fun r1=>some r1
def pM (u:Nat) (p0:Int):Option (Int×Int) :=
  (As u p0).bind fun r1=>bif !r1 then (some ((0,0))) else (some ((ru .i64 p0 251,VG .i64 p0 251)))
def xB (u:Nat) (p0 p1:Int):Option Int :=
  (bF u p1 1 1000000000000).bind fun r1=>bif !r1 then (some 0) else ((dW (!(p1 == 0))).bind fun _=>(dW (!(p1 == 0))).bind fun _=>some (ru .i64 (aW .i64 (ru .i64 p0 p1) p1) p1))
def rQ (u:Nat) (p0 p1:Int) (p2 p3:Int) (x5:Bool):Option Int :=
  bif x5 then (some p0) else ((pM u p0).bind fun r6=>(xB u (cy .i64 r6.2 (gS .i64 (ru .i64 p1 251) p2)) 251).bind fun r7=>(xB u (aW .i64 (cy .i64 r6.1 p2) p3) 251).bind fun r8=>(xB u (aW .i64 r7 r8) 251).bind fun r9=>some (aW .i64 r8 (gS .i64 251 r9)))
def At (u:Nat) (p0 p1:Int) (p2 p3:Int):Option Int :=
  (As u p0).bind fun r1=>bif !r1 then (rQ u p0 p1 p2 p3 true) else ((bF u p1 1 1000000000000).bind fun r2=>bif !r2 then (rQ u p0 p1 p2 p3 true) else ((bF u p2 0 255).bind fun r3=>bif !r3 then (rQ u p0 p1 p2 p3 true) else ((bF u p3 0 255).bind fun r4=>rQ u p0 p1 p2 p3 (!r4))))
def tU (u:Nat) (x17:List Int):Option ((List Int)) :=
  some x17
def gP (u kU:Nat) (p0:List Int) (p1:Int) (x8:List Int) (x9 x10:Int):Option ((List Int)):=match kU with
  | 0=>none
  | kU+1=>bif decide (x10 < ((p0.length:Int))) then ((ci p0 (cy .i64 x10 p1)).bind fun y14=>(ci p0 x10).bind fun y15=>(At u x9 p1 (IntKind.wrap .i64 y14) (IntKind.wrap .i64 y15)).bind fun r16=>(dW (decide ((x8.length+(([r16]:List Int)).length)*8≤140737488355328))).bind fun _=>(fun z0 z1 z2 z3 z4=>gP u kU z0 z1 z2 z3 z4) p0 p1 (x8++(([r16]:List Int))) r16 (aW .i64 x10 1)) else (tU u x8)
def tW (u:Nat) (p0:List Int) (p1:Int) (x1:Bool):Option ((List Int)) :=
  bif x1 then (some (([]:List Int))) else ((dW (dU 0 p1 p0.length)).bind fun _=>(pb u ((p0.take (Int.toNat p1)).drop (Int.toNat 0))).bind fun r3=>(dW (decide (((([]:List Int)).length+(([r3]:List Int)).length)*8≤140737488355328))).bind fun _=>gP u u p0 p1 ((([]:List Int))++(([r3]:List Int))) r3 p1)
def vQ (u:Nat) (p0:List Int) (p1:Int):Option ((List Int)) :=
  bif decide (p1 < 1) then (tW u p0 p1 true) else (tW u p0 p1 (decide (p1 > ((p0.length:Int)))))
def It (u:Nat) (p0:List Int) (p1:Int) (s:(List Int)×Int):Option ((List Int)):=(tU u s.1)
def Iu (u:Nat) (p0:List Int) (p1:Int) (i_:Nat) (s:(List Int)×Int) (k_:((List Int)×Int)→Option ((List Int))):Option ((List Int)):=(ci p0 (cy .i64 (i_:Int) p1)).bind fun y14=>(ci p0 (i_:Int)).bind fun y15=>(At u s.2 p1 (IntKind.wrap .i64 y14) (IntKind.wrap .i64 y15)).bind fun r16=>(dW (decide ((s.1.length+(([r16]:List Int)).length)*8≤140737488355328))).bind fun _=>(fun z0 z1 z2 z3 z4=>k_ (z2,z3)) p0 p1 (s.1++(([r16]:List Int))) r16 (aW .i64 (i_:Int) 1)
theorem Wu (u:Nat) (p0:List Int) (p1:Int) (s:(List Int)×Int) (k:Nat) (hn:(((p0.length:Int)):Int)≤9223372036854775807) (hk:Int.toNat (((p0.length:Int))) < k):gP u k p0 p1 s.1 s.2 0=Pu.pT (It u p0 p1) (Iu u p0 p1) (Int.toNat (((p0.length:Int)))) 0 s:=Pu.rx (fun (k:Nat) (s:(List Int)×Int) (i:Int)=>gP u k p0 p1 s.1 s.2 i) hn (fun _ _ _=>rfl) s hk
def tX (u:Nat)  : Option Int :=
  some (-1)
def nh (u:Nat) (Ki:(List Int)→Int→((List Int))→Int→bN→Option Int) (p0:List Int) (p2:Int) (r2:(List Int)) (x4:Int) (x9:Bool) (p1:bN):Option Int :=
  bif x9 then (some x4) else (Ki p0 p2 r2 (aW .i64 x4 1) p1)
def ez (u gw:Nat) (p0:List Int) (p2:Int) (r2:(List Int)) (x4:Int) (p1:bN):Option Int:=match gw with
  | 0=>none
  | gw+1=>bif decide (x4 < ((r2.length:Int))) then ((ci r2 x4).bind fun y6=>bif y6 == p1.fW then ((dW (dU x4 (aW .i64 x4 p2) p0.length)).bind fun _=>(gZ u ((p0.take (Int.toNat (aW .i64 x4 p2))).drop (Int.toNat x4))).bind fun r8=>nh u (fun z0 z1 z2 z3 z4=>ez u gw z0 z1 z2 z3 z4) p0 p2 r2 x4 ([r8.fW,r8.fS] == [p1.fW,p1.fS]) p1) else (nh u (fun z0 z1 z2 z3 z4=>ez u gw z0 z1 z2 z3 z4) p0 p2 r2 x4 false p1)) else (tX u)
def vR (u:Nat) (p0:List Int) (p1:bN) (p2:Int):Option Int :=
  (bF u p2 1 6).bind fun r1=>bif !r1 then (some (-1)) else ((vQ u p0 p2).bind fun r2=>ez u u p0 p2 r2 0 p1)
def Iv (u:Nat) (p0:List Int) (p2:Int) (r2:(List Int)) (p1:bN) (s:Unit):Option Int:=(tX u)
def Iw (u:Nat) (p0:List Int) (p2:Int) (r2:(List Int)) (p1:bN) (y6:Int) (i_:Nat) (s:Unit) (k_:Unit→Option Int):Option Int:=bif y6 == p1.fW then ((dW (dU (i_:Int) (aW .i64 (i_:Int) p2) p0.length)).bind fun _=>(gZ u ((p0.take (Int.toNat (aW .i64 (i_:Int) p2))).drop (Int.toNat (i_:Int)))).bind fun r8=>nh u (fun z0 z1 z2 z3 z4=>k_ ()) p0 p2 r2 (i_:Int) ([r8.fW,r8.fS] == [p1.fW,p1.fS]) p1) else (nh u (fun z0 z1 z2 z3 z4=>k_ ()) p0 p2 r2 (i_:Int) false p1)
theorem Wv (u:Nat) (p0:List Int) (p2:Int) (r2:(List Int)) (p1:bN) (s:Unit) (k:Nat) (hn:r2.length≤9223372036854775807) (hk:r2.length < k):ez u k p0 p2 r2 0 p1=Pu.bt (Iv u p0 p2 r2 p1) (Iw u p0 p2 r2 p1) r2 0 s:=Pu.bP (fun (k:Nat) (s:Unit) (i:Int)=>ez u k p0 p2 r2 i p1) hn (fun _ _ _=>rfl) s hk
def tY (u:Nat) (p0:List Int) (p2:Int) (r1:Int×Int) (x2:Bool) (p1:af):Option Int :=
  bif x2 then (some (-1)) else ((ci p1.aD p2).bind fun y3=>(vR u p0 y3 r1.2).bind fun r4=>some r4)
def rS (u:Nat) (p0:List Int) (p1:af) (p2:Int):Option Int :=
  (f8 u p1.aS p1.aY p2).bind fun r1=>bif r1.2 == 0 then (tY u p0 p2 r1 true p1) else (tY u p0 p2 r1 (decide (p2≥((p1.aD.length:Int)))) p1)
def rT (u:Nat) (p0 p1:Int) (x3:Bool):Option Int :=
  bif x3 then (some p0) else ((dW (decide (0≤p1))).bind fun _=>some (sZ .i64 p0 (i7 .i64 1 p1)))
def nV (u:Nat) (p0 p1:Int):Option Int :=
  (cz u p0).bind fun r1=>bif !r1 then (rT u p0 p1 true) else ((bF u p1 0 39).bind fun r2=>rT u p0 p1 (!r2))
def xW (u:Nat) (p2:Int) (p1:aX) (x15:List Int):Option (Bool×aX) :=
  (nV u p1.aT p2).bind fun r16=>some ((true,(aX.mk r16 x15)))
def qi (u nE:Nat) (p2:Int) (p3:List Int) (r6:Int×Int) (x9:Int) (p1:aX) (x10:List Int):Option (Bool×aX):=match nE with
  | 0=>none
  | nE+1=>bif decide (x9 < ((p3.length:Int))) then ((ci p3 x9).bind fun y13=>(ci x10 (aW .i64 r6.1 x9)).bind fun y14=>(fun z0 z1 z2 z3 z4 z5=>qi u nE z0 z1 z2 z3 z4 z5) p2 p3 r6 (aW .i64 x9 1) p1 (x10.set (Int.toNat (aW .i64 r6.1 x9)) y13)) else (xW u p2 p1 x10)
def qj (u:Nat) (p2:Int) (p3:List Int) (x5:Bool) (p0:af) (p1:aX):Option (Bool×aX) :=
  bif x5 then (some ((false,p1))) else ((f8 u p0.aS p0.aY p2).bind fun r6=>qi u u p2 p3 r6 0 p1 p1.bg)
def uw (u:Nat) (p0:af) (p1:aX) (p2:Int) (p3:List Int):Option (Bool×aX) :=
  (bF u p2 0 (cy .i64 ((p0.aD.length:Int)) 1)).bind fun r1=>bif !r1 then (qj u p2 p3 true p0 p1) else ((fX u p1.aT p2).bind fun r2=>bif r2 then (qj u p2 p3 true p0 p1) else ((gZ u p3).bind fun r3=>(ci p0.aD p2).bind fun y4=>bif !([r3.fW,r3.fS] == [y4.fW,y4.fS]) then (qj u p2 p3 true p0 p1) else (qj u p2 p3 (decide (((p3.length:Int)) > 6)) p0 p1)))
def zq (u:Nat) (p2:Int) (p3:List Int) (r6:Int×Int) (p1:aX) (s:(List Int)):Option (Bool×aX):=(xW u p2 p1 s)
def zr (u:Nat) (p2:Int) (p3:List Int) (r6:Int×Int) (p1:aX) (y13:Int) (i_:Nat) (s:(List Int)) (k_:((List Int))→Option (Bool×aX)):Option (Bool×aX):=(ci s (aW .i64 r6.1 (i_:Int))).bind fun y14=>(fun z0 z1 z2 z3 z4 z5=>k_ z5) p2 p3 r6 (aW .i64 (i_:Int) 1) p1 (s.set (Int.toNat (aW .i64 r6.1 (i_:Int))) y13)
theorem MY (u:Nat) (p2:Int) (p3:List Int) (r6:Int×Int) (p1:aX) (s:(List Int)) (k:Nat) (hn:p3.length≤9223372036854775807) (hk:p3.length < k):qi u k p2 p3 r6 0 p1 s=Pu.bt (zq u p2 p3 r6 p1) (zr u p2 p3 r6 p1) p3 0 s:=Pu.bP (fun (k:Nat) (s:(List Int)) (i:Int)=>qi u k p2 p3 r6 i p1 s) hn (fun _ _ _=>rfl) s hk
def vS (u:Nat) (x18:Int) (x19:List Int):Option aX :=
  some ((aX.mk x18 x19))
def kw (u:Nat) (Gx:(List Int)→Int→af→Int→(List Int)→Option aX) (p1:List Int) (x6:Int) (p0:af) (x16:Int) (x17:List Int):Option aX :=
  Gx p1 (aW .i64 x6 1) p0 x16 x17
def gf (u eO:Nat) (p1:List Int) (x6:Int) (p0:af) (x7:Int) (x8:List Int):Option aX:=match eO with
  | 0=>none
  | eO+1=>bif decide (x6 < ((p0.aD.length:Int))) then ((rS u p1 p0 x6).bind fun r12=>(f8 u p0.aS p0.aY x6).bind fun r13=>bif decide (r12≥0) then ((dW (dU r12 (aW .i64 r12 r13.2) p1.length)).bind fun _=>(uw u p0 ((aX.mk x7 x8)) x6 ((p1.take (Int.toNat (aW .i64 r12 r13.2))).drop (Int.toNat r12))).bind fun r15=>kw u (fun z0 z1 z2 z3 z4=>gf u eO z0 z1 z2 z3 z4) p1 x6 p0 r15.2.aT r15.2.bg) else (kw u (fun z0 z1 z2 z3 z4=>gf u eO z0 z1 z2 z3 z4) p1 x6 p0 x7 x8)) else (vS u x7 x8)
def q8 (u:Nat) (p0:af) (p1:List Int):Option aX :=
  (ta u p0).bind fun r1=>(jq u p0).bind fun r2=>bif !r2 then (some r1) else (gf u u p1 0 p0 r1.aT r1.bg)
def zX (u:Nat) (p1:List Int) (p0:af) (s:Int×(List Int)):Option aX:=(vS u s.1 s.2)
def sK (u:Nat) (p1:List Int) (p0:af) (i_:Nat) (s:Int×(List Int)) (k_:(Int×(List Int))→Option aX):Option aX:=(rS u p1 p0 (i_:Int)).bind fun r12=>(f8 u p0.aS p0.aY (i_:Int)).bind fun r13=>bif decide (r12≥0) then ((dW (dU r12 (aW .i64 r12 r13.2) p1.length)).bind fun _=>(uw u p0 ((aX.mk s.1 s.2)) (i_:Int) ((p1.take (Int.toNat (aW .i64 r12 r13.2))).drop (Int.toNat r12))).bind fun r15=>kw u (fun z0 z1 z2 z3 z4=>k_ (z3,z4)) p1 (i_:Int) p0 r15.2.aT r15.2.bg) else (kw u (fun z0 z1 z2 z3 z4=>k_ (z3,z4)) p1 (i_:Int) p0 s.1 s.2)
theorem Gj (u:Nat) (p1:List Int) (p0:af) (s:Int×(List Int)) (k:Nat) (hn:(((p0.aD.length:Int)):Int)≤9223372036854775807) (hk:Int.toNat (((p0.aD.length:Int))) < k):gf u k p1 0 p0 s.1 s.2=Pu.pT (zX u p1 p0) (sK u p1 p0) (Int.toNat (((p0.aD.length:Int)))) 0 s:=Pu.rx (fun (k:Nat) (s:Int×(List Int)) (i:Int)=>gf u k p1 i p0 s.1 s.2) hn (fun _ _ _=>rfl) s hk
def AW (u:Nat) (p0:af) (p1:List Int):Option Bool :=
  bif ((p1.length:Int)) == p0.aY then ((uP u p1 p0.aS).bind fun r1=>(m9 u r1 p0.aD).bind fun r2=>some r2) else (some false)
def tZ (u:Nat) (r1:aA) (r7:af) (r8:aX) (x11:Int):Option aA :=
  some ((aA.mk r1.fM r1.bf r1.be r7 r8 x11 r1.aO r1.a8))
def t1 (u:Nat) (x10:Bool) (r1:aA) (r7:af) (r8:aX):Option aA :=
  bif x10 then (tZ u r1 r7 r8 5) else (tZ u r1 r7 r8 1)
def t2 (u:Nat) (x5:Bool) (p1:aG) (p2:af) (r1:aA):Option aA :=
  bif x5 then (some r1) else ((rM u p1).bind fun r6=>(uS u p2).bind fun r7=>(q8 u p2 r6.2).bind fun r8=>bif r6.1 == p2.aP then ((AW u p2 r6.2).bind fun r9=>t1 u r9 r1 r7 r8) else (t1 u false r1 r7 r8))
def vT (u:Nat) (p0:aA) (p1:aG) (p2:af):Option aA :=
  (fF u p0).bind fun r1=>bif p0.aJ != 0 then ((jN u p0.av p2).bind fun r2=>bif !r2 then ((lz u p0).bind fun r3=>some r3) else (some r1)) else ((jq u p2).bind fun r4=>bif !r4 then (t2 u true p1 p2 r1) else (t2 u (p2.aP == 0) p1 p2 r1))
def rU (u:Nat) (x4:Bool) (x5:Int) (x6:List Int):Option (aX×Bool) :=
  bif x4 then (some (((aX.mk x5 x6),false))) else (some (((aX.mk x5 x6),true)))
def tc (u:Nat) (p0:af) (p1:aX) (p2:Int) (p3:List Int):Option (aX×Bool) :=
  (uT u p1).bind fun r1=>(nI u p0 p1).bind fun r2=>bif !r2 then (rU u true r1.aT r1.bg) else ((uw u p0 r1 p2 p3).bind fun r3=>rU u (!r3.1) r3.2.aT r3.2.bg)
def t6 (u:Nat) (r1:aA) (x24:List Kid) (x25:List au):Option Act :=
  some ((Act.mk ((aA.mk r1.fM r1.bf r1.be r1.av r1.a7 r1.aJ x24 r1.a8)) x25))
def t7 (u:Nat) (qM:Int→Int→((List Int)×Bool)→Int→aA→aA→(List Kid)→(List au)→Option Act) (p1 p2:Int) (r2:(List Int)×Bool) (x6:Int) (p0 r1:aA) (x22:List Kid) (x23:List au):Option Act :=
  qM p1 p2 r2 (aW .i64 x6 1) p0 r1 x22 x23
def ni (u:Nat) (qM:Int→Int→((List Int)×Bool)→Int→aA→aA→(List Kid)→(List au)→Option Act) (p1 p2:Int) (r2:(List Int)×Bool) (x6:Int) (x12:Bool) (p0 r1:aA) (x7:List Kid) (x8:List au):Option Act :=
  bif x12 then ((ci p0.aO x6).bind fun y13=>(uU u p0).bind fun r14=>(uV u x7 y13.fd r14).bind fun r15=>(fX u r15 p2).bind fun r16=>bif r16 then ((pu u p0.av.aP p2 r2.1).bind fun r17=>(iy u p1 y13.fd r17).bind fun r18=>(dW (decide ((x8.length+([r18]).length)*40≤140737488355328))).bind fun _=>(nV u 0 p2).bind fun r20=>(qh u x7 y13.fd r20).bind fun r21=>t7 u qM p1 p2 r2 x6 p0 r1 r21 (x8++([r18]))) else (t7 u qM p1 p2 r2 x6 p0 r1 x7 x8)) else (t6 u r1 x7 x8)
def eA (u fb:Nat) (p1 p2:Int) (r2:(List Int)×Bool) (x6:Int) (p0 r1:aA) (x7:List Kid) (x8:List au):Option Act:=match fb with
  | 0=>none
  | fb+1=>bif decide (x6 < ((p0.aO.length:Int))) then (ni u (fun z0 z1 z2 z3 z4 z5 z6 z7=>eA u fb z0 z1 z2 z3 z4 z5 z6 z7) p1 p2 r2 x6 r2.2 p0 r1 x7 x8) else (ni u (fun z0 z1 z2 z3 z4 z5 z6 z7=>eA u fb z0 z1 z2 z3 z4 z5 z6 z7) p1 p2 r2 x6 false p0 r1 x7 x8)
def vU (u:Nat) (p0:aA) (p1 p2:Int):Option Act :=
  (fF u p0).bind fun r1=>(pt u p0.av p0.a7 p2).bind fun r2=>eA u u p1 p2 r2 0 p0 r1 r1.aO (([]:List au))
def rV (u:Nat) (p1:Int) (x1:Bool) (p0:aA) (p2:ei):Option Act :=
  bif x1 then ((lz u p0).bind fun r2=>some ((Act.mk r2 (([]:List au))))) else ((fX u p0.a7.aT p2.fI).bind fun r3=>bif r3 then ((fF u p0).bind fun r4=>some ((Act.mk r4 (([]:List au))))) else ((tc u p0.av p0.a7 p2.fI p2.fB).bind fun r5=>bif !r5.2 then ((lz u p0).bind fun r6=>some ((Act.mk r6 (([]:List au))))) else ((fF u p0).bind fun r7=>(vU u ((aA.mk r7.fM r7.bf r7.be r7.av r5.1 r7.aJ r7.aO r7.a8)) p1 p2.fI).bind fun r8=>some r8)))
def td (u:Nat) (p0:aA) (p1:Int) (p2:ei):Option Act :=
  bif p0.aJ == 0 then (rV u p1 true p0 p2) else (rV u p1 (p2.aP != p0.av.aP) p0 p2)
def oE (u:Nat) (x4:Bool) (x5 x6:Int) (x7 x8 x9:Int) (x10:List bN) (x11:Int) (x12:List Int) (x13:Int) (x14:List Kid) (x15:Int):Option Act :=
  some ((Act.mk ((aA.mk x4 x5 x6 ((af.mk x7 x8 x9 x10)) ((aX.mk x11 x12)) x13 x14 x15)) (([]:List au))))
def te (u:Nat) (p0:aA) (p1:Int) (p2:aG) (p3:ei):Option Act :=
  (fF u p0).bind fun r1=>bif p3.bA == 1 then ((vT u ((aA.mk r1.fM r1.bf 0 r1.av r1.a7 r1.aJ r1.aO r1.a8)) p2 p3.av).bind fun r2=>oE u r2.fM r2.bf r2.be r2.av.aP r2.av.aS r2.av.aY r2.av.aD r2.a7.aT r2.a7.bg r2.aJ r2.aO r2.a8) else (bif p3.bA == 3 then ((td u ((aA.mk r1.fM r1.bf 0 r1.av r1.a7 r1.aJ r1.aO r1.a8)) p1 p3).bind fun r3=>some r3) else (bif p3.bA == 2 then (oE u r1.fM r1.bf 0 r1.av.aP r1.av.aS r1.av.aY r1.av.aD r1.a7.aT r1.a7.bg r1.aJ r1.aO (aW .i64 r1.a8 1)) else (oE u r1.fM r1.bf 0 r1.av.aP r1.av.aS r1.av.aY r1.av.aD r1.a7.aT r1.a7.bg r1.aJ r1.aO r1.a8)))
def vV (u:Nat) (p1:Int) (x4:Bool) (p2:aA) (p3:aG) (p4:au) (r2:ei×Bool):Option Act :=
  bif x4 then ((lz u p2).bind fun r5=>some ((Act.mk r5 (([]:List au))))) else (bif r2.1.bA == 2 then ((pL u p2 p1 p4.du r2.1).bind fun r6=>some r6) else (bif p4.du == p2.bf then ((te u p2 p1 p3 r2.1).bind fun r7=>some r7) else ((lz u p2).bind fun r8=>some ((Act.mk r8 (([]:List au)))))))
def CX (u:Nat) (p0:co) (p1:Int) (p2:aA) (p3:aG) (p4:au):Option Act :=
  bif !p2.fM then ((fF u p2).bind fun r1=>some ((Act.mk r1 (([]:List au))))) else ((yC u p4.fB).bind fun r2=>bif !r2.2 then (vV u p1 true p2 p3 p4 r2) else ((bF u p4.du 0 (cy .i64 ((p0.cx.length:Int)) 1)).bind fun r3=>bif !r3 then (vV u p1 true p2 p3 p4 r2) else (vV u p1 (p4.du == p1) p2 p3 p4 r2)))
def xC (u:Nat)  : Option Bool :=
  some true
def js (u jH:Nat) (x5:Int) (p0 p1:aA):Option Bool:=match jH with
  | 0=>none
  | jH+1=>bif decide (x5 < ((p0.aO.length:Int))) then ((ci p0.aO x5).bind fun y7=>(ci p1.aO x5).bind fun y8=>bif !([y7.fd,y7.bx,y7.bL,y7.qP,y7.c8] == [y8.fd,y8.bx,y8.bL,y8.qP,y8.c8]) then (some false) else ((fun z0 z1 z2=>js u jH z0 z1 z2) (aW .i64 x5 1) p0 p1)) else (xC u)
def d8 (u:Nat) (x3:Bool) (p0 p1:aA):Option Bool :=
  bif x3 then (some false) else (js u u 0 p0 p1)
def qk (u:Nat) (p0 p1:aA):Option Bool :=
  bif !(p0.fM == p1.fM) then (d8 u true p0 p1) else (bif p0.bf != p1.bf then (d8 u true p0 p1) else (bif p0.be != p1.be then (d8 u true p0 p1) else ((jN u p0.av p1.av).bind fun r1=>bif !r1 then (d8 u true p0 p1) else (bif p0.a7.aT != p1.a7.aT then (d8 u true p0 p1) else ((ou u p0.a7.bg p1.a7.bg).bind fun r2=>bif !r2 then (d8 u true p0 p1) else (bif p0.aJ != p1.aJ then (d8 u true p0 p1) else (bif ((p0.aO.length:Int)) != ((p1.aO.length:Int)) then (d8 u true p0 p1) else (d8 u (p0.a8 != p1.a8) p0 p1))))))))
def G9 (u:Nat) (p0 p1:aA) (s:Unit):Option Bool:=(xC u)
def AX (u:Nat) (p0 p1:aA) (y7:Kid) (i_:Nat) (s:Unit) (k_:Unit→Option Bool):Option Bool:=(ci p1.aO (i_:Int)).bind fun y8=>bif !([y7.fd,y7.bx,y7.bL,y7.qP,y7.c8] == [y8.fd,y8.bx,y8.bL,y8.qP,y8.c8]) then (some false) else ((fun z0 z1 z2=>k_ ()) (aW .i64 (i_:Int) 1) p0 p1)
theorem Ha (u:Nat) (p0 p1:aA) (s:Unit) (k:Nat) (hn:p0.aO.length≤9223372036854775807) (hk:p0.aO.length < k):js u k 0 p0 p1=Pu.bt (G9 u p0 p1) (AX u p0 p1) p0.aO 0 s:=Pu.bP (fun (k:Nat) (s:Unit) (i:Int)=>js u k i p0 p1) hn (fun _ _ _=>rfl) s hk
def Ai (u:Nat) (p0:co) (p1:Int) (p2:aA) (p3:aG) (p4:au):Option Bool :=
  (CX u p0 p1 p2 p3 p4).bind fun r1=>bif ((r1.sW.length:Int)) == 0 then ((qk u ((aA.mk r1.fN.fM r1.fN.bf r1.fN.be r1.fN.av r1.fN.a7 r1.fN.aJ r1.fN.aO p2.a8)) p2).bind fun r2=>some r2) else (some false)
def pN (u:Nat) (p0:World) (p1:Int):Option Bool :=
  (ci p0.dX p1).bind fun y1=>(ci p0.fN y1.G2).bind fun y2=>(ci p0.fD y1.G2).bind fun y3=>(Ai u p0.fT y1.G2 y2 y3 y1).bind fun r4=>some r4
def Eh (u:Nat) (x11:Int):Option Int :=
  some x11
def t8 (u:Nat) (qN:Int→Int→World→Option Int) (x10 x4:Int) (p0:World):Option Int :=
  qN x10 (aW .i64 x4 1) p0
def t9 (u:Nat) (qN:Int→Int→World→Option Int) (x3 x4:Int) (x8:Bool) (p0:World):Option Int :=
  bif x8 then ((pN u p0 x4).bind fun r9=>bif r9 then (t8 u qN (aW .i64 x3 1) x4 p0) else (t8 u qN x3 x4 p0)) else (Eh u x3)
def eB (u fc:Nat) (x3 x4:Int) (p0:World):Option Int:=match fc with
  | 0=>none
  | fc+1=>bif decide (x4 < ((p0.dX.length:Int))) then ((vG u p0).bind fun r7=>t9 u (fun z0 z1 z2=>eB u fc z0 z1 z2) x3 x4 r7 p0) else (t9 u (fun z0 z1 z2=>eB u fc z0 z1 z2) x3 x4 false p0)
def vW (u:Nat) (p0:World):Option Int :=
  eB u u 0 0 p0
def bH (u:Nat) (p0 p1 p2:Int):Option Bool :=
  bif decide (p0≥p1) then (some (decide (p0≤p2))) else (some false)
def yF (u:Nat) (p0:vm):Option Bool :=
  (bH u p0.aS 2 6).bind fun r1=>bif r1 then ((bH u p0.gB 1 40).bind fun r2=>bif r2 then ((bH u p0.eo 1 5).bind fun r3=>bif r3 then ((bH u p0.ik 2 8).bind fun r4=>some r4) else (some false)) else (some false)) else (some false)
def vX (u:Nat) (p0:co):Option Bool :=
  (bH u ((p0.cx.length:Int)) 1 7).bind fun r8=>some r8
def eC (u:Nat) (Mo:co→Int→Option Bool) (p0:co) (x2:Int) (x7:Bool):Option Bool :=
  bif x7 then (some false) else (Mo p0 (aW .i64 x2 1))
def fm (u ee:Nat) (p0:co) (x2:Int):Option Bool:=match ee with
  | 0=>none
  | ee+1=>bif decide (x2 < ((p0.cx.length:Int))) then ((ci p0.cx x2).bind fun y4=>bif x2 == 0 then (bif y4 != (-1) then (eC u (fun z0 z1=>fm u ee z0 z1) p0 x2 true) else (bif decide (x2 > 0) then ((bH u y4 0 (cy .i64 x2 1)).bind fun r5=>eC u (fun z0 z1=>fm u ee z0 z1) p0 x2 (!r5)) else (eC u (fun z0 z1=>fm u ee z0 z1) p0 x2 false))) else (bif decide (x2 > 0) then ((bH u y4 0 (cy .i64 x2 1)).bind fun r6=>eC u (fun z0 z1=>fm u ee z0 z1) p0 x2 (!r6)) else (eC u (fun z0 z1=>fm u ee z0 z1) p0 x2 false))) else (vX u p0)
def uW (u:Nat) (p0:co):Option Bool :=
  fm u u p0 0
def CY (u:Nat) (p0:co) (s:Unit):Option Bool:=(vX u p0)
def CZ (u:Nat) (p0:co) (y4:Int) (i_:Nat) (s:Unit) (k_:Unit→Option Bool):Option Bool:=bif (i_:Int) == 0 then (bif y4 != (-1) then (eC u (fun z0 z1=>k_ ()) p0 (i_:Int) true) else (bif decide ((i_:Int) > 0) then ((bH u y4 0 (cy .i64 (i_:Int) 1)).bind fun r5=>eC u (fun z0 z1=>k_ ()) p0 (i_:Int) (!r5)) else (eC u (fun z0 z1=>k_ ()) p0 (i_:Int) false))) else (bif decide ((i_:Int) > 0) then ((bH u y4 0 (cy .i64 (i_:Int) 1)).bind fun r6=>eC u (fun z0 z1=>k_ ()) p0 (i_:Int) (!r6)) else (eC u (fun z0 z1=>k_ ()) p0 (i_:Int) false))
theorem KM (u:Nat) (p0:co) (s:Unit) (k:Nat) (hn:p0.cx.length≤9223372036854775807) (hk:p0.cx.length < k):fm u k p0 0=Pu.bt (CY u p0) (CZ u p0) p0.cx 0 s:=Pu.bP (fun (k:Nat) (s:Unit) (i:Int)=>fm u k p0 i) hn (fun _ _ _=>rfl) s hk
def pg (u:Nat) (p0 p1:Int):Option Bool :=
  (bH u p0 2 6).bind fun r1=>bif r1 then ((bH u p1 0 (gS .i64 40 p0)).bind fun r2=>some r2) else (some false)
def rX (u:Nat) (p0:ba):Option Bool :=
  some (decide (((p0.fB.length:Int)) > 240))
def cM (u:Nat)  : Option Int :=
  some (-1)
def bm (u bk:Nat) (p0:List ba) (x2:Int):Option Int:=match bk with
  | 0=>none
  | bk+1=>bif decide (x2 < ((p0.length:Int))) then ((ci p0 x2).bind fun y4=>(rX u y4).bind fun r5=>bif r5 then (some x2) else ((fun z0 z1=>bm u bk z0 z1) p0 (aW .i64 x2 1))) else (cM u)
def cj (u:Nat) (p0:List ba):Option Int :=
  bm u u p0 0
def ip (u:Nat) (p0:List ba) (s:Unit):Option Int:=(cM u)
def iq (u:Nat) (p0:List ba) (y4:ba) (i_:Nat) (s:Unit) (k_:Unit→Option Int):Option Int:=(rX u y4).bind fun r5=>bif r5 then (some (i_:Int)) else ((fun z0 z1=>k_ ()) p0 (aW .i64 (i_:Int) 1))
theorem ir (u:Nat) (p0:List ba) (s:Unit) (k:Nat) (hn:p0.length≤9223372036854775807) (hk:p0.length < k):bm u k p0 0=Pu.bt (ip u p0) (iq u p0) p0 0 s:=Pu.bP (fun (k:Nat) (s:Unit) (i:Int)=>bm u k p0 i) hn (fun _ _ _=>rfl) s hk
def cf (u:Nat) (p0:List ba):Option Bool :=
  (cj u p0).bind fun r1=>some (decide (r1≥0))
def q9 (u:Nat) (p0:co) (p1:List ba):Option Bool :=
  bif ((p1.length:Int)) == ((p0.cx.length:Int)) then ((cf u p1).bind fun r1=>some (!r1)) else (some false)
def ua (u:Nat) (p0 p1:Int) (x3:Bool):Option Int :=
  bif x3 then (some 0) else ((dW (!(p1 == 0))).bind fun _=>some (VG .i64 (cy .i64 (aW .i64 p0 p1) 1) p1))
def vY (u:Nat) (p0 p1:Int):Option Int :=
  (bH u p0 0 1000000000000).bind fun r1=>bif !r1 then (ua u p0 p1 true) else ((bH u p1 1 1000000000000).bind fun r2=>ua u p0 p1 (!r2))
def pi (u:Nat) (p0 p1:Int):Option Int :=
  (pg u p0 p1).bind fun r1=>bif !r1 then (some 0) else ((vY u p1 p0).bind fun r2=>some r2)
def jc (u:Nat) (p0 p1 p2:Int):Option (Int×Int) :=
  (pi u p0 p1).bind fun r1=>(bH u p2 0 (cy .i64 r1 1)).bind fun r2=>bif !r2 then (some ((0,0))) else (some ((gS .i64 p2 p0,if (cy .i64 p1 (gS .i64 p2 p0)) < p0 then (cy .i64 p1 (gS .i64 p2 p0)) else p0)))
def gj (u:Nat) (p0:List Int):Option ((List Int)) :=
  (dW (decide (0≤((p0.length:Int))) && (0 == 0 || 0 == ((p0.length:Int))))).bind fun _=>(dW (decide (Int.toNat ((p0.length:Int))*1≤140737488355328))).bind fun _=>(dW (decide (((List.replicate (Int.toNat 0) (0:Int)).length+p0.length)*1≤140737488355328))).bind fun _=>some ((List.replicate (Int.toNat 0) (0:Int))++p0)
def tg (u:Nat) (p0:List Int) (p1 p2:Int) (x3:Bool):Option ((List Int)×Bool) :=
  bif x3 then (some (([],false))) else ((dW (dU p1 (aW .i64 p1 p2) p0.length)).bind fun _=>(gj u ((p0.take (Int.toNat (aW .i64 p1 p2))).drop (Int.toNat p1))).bind fun r5=>some ((r5,true)))
def ux (u:Nat) (p0:List Int) (p1 p2:Int):Option ((List Int)×Bool) :=
  (bH u p1 0 ((p0.length:Int))).bind fun r1=>bif !r1 then (tg u p0 p1 p2 true) else ((bH u p2 0 (cy .i64 ((p0.length:Int)) p1)).bind fun r2=>tg u p0 p1 p2 (!r2))
def rY (u:Nat) (p0:List Int) (p1 p2:Int):Option ((List Int)×Bool) :=
  (jc u p1 ((p0.length:Int)) p2).bind fun r1=>bif r1.2 == 0 then (some (([],false))) else ((ux u p0 r1.1 r1.2).bind fun r2=>some ((r2.1,r2.2)))
def Au (u:Nat) (p0 p1:Int):Option Int :=
  (bH u p1 1 1000000000000).bind fun r1=>bif !r1 then (some 0) else ((dW (!(p1 == 0))).bind fun _=>(dW (!(p1 == 0))).bind fun _=>some (ru .i64 (aW .i64 (ru .i64 p0 p1) p1) p1))
def C0 (u:Nat) (p0 p1:Int):Option Int :=
  (Au u p0 251).bind fun r1=>(Au u p1 251).bind fun r2=>some (aW .i64 r1 (gS .i64 251 r2))
def ra (u:Nat) (x11 x12:Int):Option Int :=
  (C0 u x11 x12).bind fun r13=>some r13
def oF (u mc:Nat) (x4 x5:Int) (p0:List Int) (x6:Int):Option Int:=match mc with
  | 0=>none
  | mc+1=>bif decide (x6 < ((p0.length:Int))) then ((ci p0 x6).bind fun y10=>(fun z0 z1 z2 z3=>oF u mc z0 z1 z2 z3) (ru .i64 (aW .i64 x4 (IntKind.wrap .i64 y10)) 251) (ru .i64 (aW .i64 x5 (ru .i64 (aW .i64 x4 (IntKind.wrap .i64 y10)) 251)) 251) p0 (aW .i64 x6 1)) else (ra u x4 x5)
def pj (u:Nat) (p0:List Int):Option Int :=
  oF u u 0 0 p0 0
def C3 (u:Nat) (p0:List Int) (s:Int×Int):Option Int:=(ra u s.1 s.2)
def xD (u:Nat) (p0:List Int) (y10:Int) (i_:Nat) (s:Int×Int) (k_:(Int×Int)→Option Int):Option Int:=(fun z0 z1 z2 z3=>k_ (z0,z1)) (ru .i64 (aW .i64 s.1 (IntKind.wrap .i64 y10)) 251) (ru .i64 (aW .i64 s.2 (ru .i64 (aW .i64 s.1 (IntKind.wrap .i64 y10)) 251)) 251) p0 (aW .i64 (i_:Int) 1)
theorem KN (u:Nat) (p0:List Int) (s:Int×Int) (k:Nat) (hn:p0.length≤9223372036854775807) (hk:p0.length < k):oF u k s.1 s.2 p0 0=Pu.bt (C3 u p0) (xD u p0) p0 0 s:=Pu.bP (fun (k:Nat) (s:Int×Int) (i:Int)=>oF u k s.1 s.2 p0 i) hn (fun _ _ _=>rfl) s hk
def th (u:Nat) (p0:List Int) (x8:Int):Option bN :=
  (pj u p0).bind fun r9=>some ((bN.mk r9 x8))
def ql (u nB:Nat) (p0:List Int) (x3 x4:Int):Option bN:=match nB with
  | 0=>none
  | nB+1=>bif decide (x4 < ((p0.length:Int))) then ((ci p0 x4).bind fun y7=>(fun z0 z1 z2=>ql u nB z0 z1 z2) p0 (sZ .i64 (i7 .i64 x3 8) (IntKind.wrap .i64 y7)) (aW .i64 x4 1)) else (th u p0 x3)
def kZ (u:Nat) (p0:List Int):Option bN :=
  bif decide (((p0.length:Int)) > 6) then (some ((bN.mk 0 0))) else (ql u u p0 1 0)
def Ei (u:Nat) (p0:List Int) (s:Int):Option bN:=(th u p0 s)
def zt (u:Nat) (p0:List Int) (y7:Int) (i_:Nat) (s:Int) (k_:Int→Option bN):Option bN:=(fun z0 z1 z2=>k_ z1) p0 (sZ .i64 (i7 .i64 s 8) (IntKind.wrap .i64 y7)) (aW .i64 (i_:Int) 1)
theorem MZ (u:Nat) (p0:List Int) (s:Int) (k:Nat) (hn:p0.length≤9223372036854775807) (hk:p0.length < k):ql u k p0 s 0=Pu.bt (Ei u p0) (zt u p0) p0 0 s:=Pu.bP (fun (k:Nat) (s i:Int)=>ql u k p0 s i) hn (fun _ _ _=>rfl) s hk
def AY (u:Nat) (x10:List bN):Option ((List bN)) :=
  some x10
def oG (u mb:Nat) (p0:List Int) (p1:Int) (x4:List bN) (r1 x5:Int):Option ((List bN)):=match mb with
  | 0=>none
  | mb+1=>bif decide (x5 < r1) then ((rY u p0 p1 x5).bind fun r8=>(kZ u r8.1).bind fun r9=>(dW (decide ((x4.length+([r9]).length)*16≤140737488355328))).bind fun _=>(fun z0 z1 z2 z3 z4=>oG u mb z0 z1 z2 z3 z4) p0 p1 (x4++([r9])) r1 (aW .i64 x5 1)) else (AY u x4)
def uX (u:Nat) (p0:List Int) (p1:Int):Option ((List bN)) :=
  (pi u p1 ((p0.length:Int))).bind fun r1=>oG u u p0 p1 (([]:List bN)) r1 0
def KO (u:Nat) (p0:List Int) (p1 r1:Int) (s:(List bN)):Option ((List bN)):=(AY u s)
def C4 (u:Nat) (p0:List Int) (p1 r1:Int) (i_:Nat) (s:(List bN)) (k_:((List bN))→Option ((List bN))):Option ((List bN)):=(rY u p0 p1 (i_:Int)).bind fun r8=>(kZ u r8.1).bind fun r9=>(dW (decide ((s.length+([r9]).length)*16≤140737488355328))).bind fun _=>(fun z0 z1 z2 z3 z4=>k_ z2) p0 p1 (s++([r9])) r1 (aW .i64 (i_:Int) 1)
theorem KP (u:Nat) (p0:List Int) (p1 r1:Int) (s:(List bN)) (k:Nat) (hn:(r1:Int)≤9223372036854775807) (hk:Int.toNat (r1) < k):oG u k p0 p1 s r1 0=Pu.pT (KO u p0 p1 r1) (C4 u p0 p1 r1) (Int.toNat (r1)) 0 s:=Pu.rx (fun (k:Nat) (s:(List bN)) (i:Int)=>oG u k p0 p1 s r1 i) hn (fun _ _ _=>rfl) s hk
def xX (u:Nat) (p0:Int) (p1:List Int) (p2:Int) (x3:Bool):Option af :=
  bif x3 then (some ((af.mk 0 0 0 ([])))) else ((uX u p1 p2).bind fun r4=>some ((af.mk p0 p2 ((p1.length:Int)) r4)))
def AZ (u:Nat) (p0:Int) (p1:List Int) (p2:Int):Option af :=
  (bH u p0 1 1000000).bind fun r1=>bif !r1 then (xX u p0 p1 p2 true) else ((pg u p2 ((p1.length:Int))).bind fun r2=>xX u p0 p1 p2 (!r2))
def A0 (u:Nat) (p0:World):Option af :=
  (AZ u 1 p0.jj p0.fC.aS).bind fun r1=>some r1
def ef (u:Nat) (p0:co) (p1:Int):Option Bool :=
  (bH u p1 0 (cy .i64 ((p0.cx.length:Int)) 1)).bind fun r1=>some r1
def iH (u:Nat) (p0:af):Option Bool :=
  bif p0.aP == 0 then (bif p0.aS == 0 then (bif p0.aY == 0 then (some (((p0.aD.length:Int)) == 0)) else (some false)) else (some false)) else (some false)
def lR (u:Nat) (p0:aX):Option Bool :=
  bif p0.aT == 0 then (some (((p0.bg.length:Int)) == 0)) else (some false)
def ub (u:Nat) (p0:aA):Option Bool :=
  bif !p0.fM then (bif p0.bf == 0 then (bif p0.be == 0 then ((iH u p0.av).bind fun r1=>bif r1 then ((lR u p0.a7).bind fun r2=>bif r2 then (bif p0.aJ == 0 then (bif ((p0.aO.length:Int)) == 0 then (some (p0.a8 == 0)) else (some false)) else (some false)) else (some false)) else (some false)) else (some false)) else (some false)) else (some false)
def vZ (u:Nat) (x11:List Int):Option ((List Int)) :=
  some x11
def rc (u:Nat) (Mn:Int→(List Int)→co→Option ((List Int))) (x3:Int) (x4:List Int) (x8:Bool) (p0:co):Option ((List Int)) :=
  bif x8 then ((dW (decide ((x4.length+(([x3]:List Int)).length)*8≤140737488355328))).bind fun _=>(ci p0.cx x3).bind fun y10=>Mn y10 (x4++(([x3]:List Int))) p0) else (vZ u x4)
def iI (u ib:Nat) (x3:Int) (x4:List Int) (p0:co):Option ((List Int)):=match ib with
  | 0=>none
  | ib+1=>(ef u p0 x3).bind fun r7=>bif r7 then (rc u (fun z0 z1 z2=>iI u ib z0 z1 z2) x3 x4 (decide (((x4.length:Int)) < ((p0.cx.length:Int)))) p0) else (rc u (fun z0 z1 z2=>iI u ib z0 z1 z2) x3 x4 false p0)
def yG (u:Nat) (p0:co) (p1:Int):Option ((List Int)) :=
  iI u u p1 (([]:List Int)) p0
def m3 (u:Nat)  : Option Int :=
  some (-1)
def ep (u dV:Nat) (p0:List Int) (p1 x2:Int):Option Int:=match dV with
  | 0=>none
  | dV+1=>bif decide (x2 < ((p0.length:Int))) then ((ci p0 x2).bind fun y4=>bif p1 == y4 then (some x2) else ((fun z0 z1 z2=>ep u dV z0 z1 z2) p0 p1 (aW .i64 x2 1))) else (m3 u)
def lB (u:Nat) (p0:List Int) (p1:Int):Option Int :=
  ep u u p0 p1 0
def Aj (u:Nat) (p0:List Int) (p1:Int) (s:Unit):Option Int:=(m3 u)
def qE (u:Nat) (p0:List Int) (p1 y4:Int) (i_:Nat) (s:Unit) (k_:Unit→Option Int):Option Int:=bif p1 == y4 then (some (i_:Int)) else ((fun z0 z1 z2=>k_ ()) p0 p1 (aW .i64 (i_:Int) 1))
theorem Ak (u:Nat) (p0:List Int) (p1:Int) (s:Unit) (k:Nat) (hn:p0.length≤9223372036854775807) (hk:p0.length < k):ep u k p0 p1 0=Pu.bt (Aj u p0 p1) (qE u p0 p1) p0 0 s:=Pu.bP (fun (k:Nat) (s:Unit) (i:Int)=>ep u k p0 p1 i) hn (fun _ _ _=>rfl) s hk
def fO (u:Nat) (p0:List Int) (p1:Int):Option Bool :=
  (lB u p0 p1).bind fun r1=>some (decide (r1≥0))
def qm (u:Nat) (p0:co) (p1 p2:Int):Option Bool :=
  bif p1 != p2 then ((yG u p0 p2).bind fun r1=>(fO u r1 p1).bind fun r2=>some r2) else (some false)
def zu (u:Nat) (x17:List Int):Option ((List Int)×Bool) :=
  some ((x17,true))
def nj (u kG:Nat) (p0 x5:Int) (x11:List Int) (x12:Int):Option ((List Int)×Bool):=match kG with
  | 0=>none
  | kG+1=>bif decide (x12 < (((List.replicate (Int.toNat x5) (0:Int)).length:Int))) then ((dW (decide (0≤(gS .i64 8 (cy .i64 (cy .i64 x5 1) x12))))).bind fun _=>(ci x11 x12).bind fun y16=>(fun z0 z1 z2 z3=>nj u kG z0 z1 z2 z3) p0 x5 (x11.set (Int.toNat x12) (IntKind.wrap .u8 (n4 .i64 p0 (gS .i64 8 (cy .i64 (cy .i64 x5 1) x12))))) (aW .i64 x12 1)) else (zu u x11)
def nk (u:Nat) (p0 x5:Int) (x6:Bool):Option ((List Int)×Bool) :=
  bif x6 then (some (([],false))) else ((dW (decide (0≤x5) && (x5 == 0 || x5 == x5))).bind fun _=>(dW (decide (Int.toNat x5*1≤140737488355328))).bind fun _=>nj u u p0 x5 (List.replicate (Int.toNat x5) (0:Int)) 0)
def pO (u:Nat) (p0 x5:Int):Option ((List Int)×Bool) :=
  bif decide (p0 < 1) then (nk u p0 x5 true) else ((dW (decide (0≤(gS .i64 8 x5)))).bind fun _=>nk u p0 x5 ((n4 .i64 p0 (gS .i64 8 x5)) != 1))
def pP (u:Nat) (Kd:Int→Int→Option ((List Int)×Bool)) (p0 x2:Int) (x4:Bool):Option ((List Int)×Bool) :=
  bif x4 then (Kd p0 (aW .i64 x2 1)) else (pO u p0 x2)
def gQ (u gp:Nat) (p0 x2:Int):Option ((List Int)×Bool):=match gp with
  | 0=>none
  | gp+1=>bif decide (x2 < 6) then ((dW (decide (0≤(gS .i64 8 x2)))).bind fun _=>pP u (fun z0 z1=>gQ u gp z0 z1) p0 x2 (decide ((n4 .i64 p0 (gS .i64 8 x2)) > 1))) else (pP u (fun z0 z1=>gQ u gp z0 z1) p0 x2 false)
def nJ (u:Nat) (p0:Int):Option ((List Int)×Bool) :=
  gQ u u p0 0
def Ix (u:Nat) (p0 x5:Int) (s:(List Int)):Option ((List Int)×Bool):=(zu u s)
def BT (u:Nat) (p0 x5:Int) (i_:Nat) (s:(List Int)) (k_:((List Int))→Option ((List Int)×Bool)):Option ((List Int)×Bool):=(dW (decide (0≤(gS .i64 8 (cy .i64 (cy .i64 x5 1) (i_:Int)))))).bind fun _=>(ci s (i_:Int)).bind fun y16=>(fun z0 z1 z2 z3=>k_ z2) p0 x5 (s.set (Int.toNat (i_:Int)) (IntKind.wrap .u8 (n4 .i64 p0 (gS .i64 8 (cy .i64 (cy .i64 x5 1) (i_:Int)))))) (aW .i64 (i_:Int) 1)
theorem Iy (u:Nat) (p0 x5:Int) (s:(List Int)) (k:Nat) (hn:((((List.replicate (Int.toNat x5) (0:Int)).length:Int)):Int)≤9223372036854775807) (hk:Int.toNat ((((List.replicate (Int.toNat x5) (0:Int)).length:Int))) < k):nj u k p0 x5 s 0=Pu.pT (Ix u p0 x5) (BT u p0 x5) (Int.toNat ((((List.replicate (Int.toNat x5) (0:Int)).length:Int)))) 0 s:=Pu.rx (fun (k:Nat) (s:(List Int)) (i:Int)=>nj u k p0 x5 s i) hn (fun _ _ _=>rfl) s hk
def Co (u:Nat)  : Option Bool :=
  some true
def lF (u:Nat) (OT:af→Int→Option Bool) (p0:af) (x7:Int) (x13:Bool):Option Bool :=
  bif x13 then (some false) else (OT p0 (aW .i64 x7 1))
def jP (u gX:Nat) (p0:af) (x7:Int):Option Bool:=match gX with
  | 0=>none
  | gX+1=>bif decide (x7 < ((p0.aD.length:Int))) then ((ci p0.aD x7).bind fun y9=>(nJ u y9.fS).bind fun r10=>(jc u p0.aS p0.aY x7).bind fun r11=>bif !r10.2 then (lF u (fun z0 z1=>jP u gX z0 z1) p0 x7 true) else (bif ((r10.1.length:Int)) != r11.2 then (lF u (fun z0 z1=>jP u gX z0 z1) p0 x7 true) else ((pj u r10.1).bind fun r12=>lF u (fun z0 z1=>jP u gX z0 z1) p0 x7 (r12 != y9.fW)))) else (Co u)
def ti (u:Nat) (x5:Bool) (p0:af):Option Bool :=
  bif x5 then (some false) else (jP u u p0 0)
def mG (u:Nat) (p0:af):Option Bool :=
  (iH u p0).bind fun r1=>bif r1 then (some true) else ((bH u p0.aP 1 1000000).bind fun r2=>bif !r2 then (ti u true p0) else ((pg u p0.aS p0.aY).bind fun r3=>bif !r3 then (ti u true p0) else ((pi u p0.aS p0.aY).bind fun r4=>ti u (((p0.aD.length:Int)) != r4) p0)))
def Ej (u:Nat) (p0:af) (s:Unit):Option Bool:=(Co u)
def zw (u:Nat) (p0:af) (y9:bN) (i_:Nat) (s:Unit) (k_:Unit→Option Bool):Option Bool:=(nJ u y9.fS).bind fun r10=>(jc u p0.aS p0.aY (i_:Int)).bind fun r11=>bif !r10.2 then (lF u (fun z0 z1=>k_ ()) p0 (i_:Int) true) else (bif ((r10.1.length:Int)) != r11.2 then (lF u (fun z0 z1=>k_ ()) p0 (i_:Int) true) else ((pj u r10.1).bind fun r12=>lF u (fun z0 z1=>k_ ()) p0 (i_:Int) (r12 != y9.fW)))
theorem M0 (u:Nat) (p0:af) (s:Unit) (k:Nat) (hn:p0.aD.length≤9223372036854775807) (hk:p0.aD.length < k):jP u k p0 0=Pu.bt (Ej u p0) (zw u p0) p0.aD 0 s:=Pu.bP (fun (k:Nat) (s:Unit) (i:Int)=>jP u k p0 i) hn (fun _ _ _=>rfl) s hk
def dr (u:Nat) (p0:Int):Option Bool :=
  (bH u p0 0 1099511627775).bind fun r1=>some r1
def rZ (u:Nat) (p0:Int):Option Int :=
  (bH u p0 0 40).bind fun r1=>bif !r1 then (some 0) else ((dW (decide (0≤p0))).bind fun _=>some (cy .i64 (i7 .i64 1 p0) 1))
def qn (u:Nat) (p0:af):Option Int :=
  (rZ u ((p0.aD.length:Int))).bind fun r1=>some r1
def iJ (u:Nat) (p0:aX) (p1:af) (p2:Int):Option ((List Int)) :=
  (jc u p1.aS p1.aY p2).bind fun r1=>(dW (dU r1.1 (aW .i64 r1.1 r1.2) p0.bg.length)).bind fun _=>some ((p0.bg.take (Int.toNat (aW .i64 r1.1 r1.2))).drop (Int.toNat r1.1))
def pz (u:Nat) (p0:Int):Option Bool :=
  (bH u p0 0 39).bind fun r1=>some r1
def fp (u:Nat) (p0 p1:Int):Option Bool :=
  (dr u p0).bind fun r1=>bif r1 then ((pz u p1).bind fun r2=>bif r2 then ((dW (decide (0≤p1))).bind fun _=>some ((fE .i64 (n4 .i64 p0 p1) 1) == 1)) else (some false)) else (some false)
def wa (u:Nat) (p0:Int):Option Bool :=
  some (p0 != 0)
def dH (u:Nat)  : Option Int :=
  some (-1)
def bZ (u bU:Nat) (p0:List Int) (x2:Int):Option Int:=match bU with
  | 0=>none
  | bU+1=>bif decide (x2 < ((p0.length:Int))) then ((ci p0 x2).bind fun y4=>(wa u y4).bind fun r5=>bif r5 then (some x2) else ((fun z0 z1=>bZ u bU z0 z1) p0 (aW .i64 x2 1))) else (dH u)
def c9 (u:Nat) (p0:List Int):Option Int :=
  bZ u u p0 0
def mY (u:Nat) (p0:List Int) (s:Unit):Option Int:=(dH u)
def mZ (u:Nat) (p0:List Int) (y4:Int) (i_:Nat) (s:Unit) (k_:Unit→Option Int):Option Int:=(wa u y4).bind fun r5=>bif r5 then (some (i_:Int)) else ((fun z0 z1=>k_ ()) p0 (aW .i64 (i_:Int) 1))
theorem m0 (u:Nat) (p0:List Int) (s:Unit) (k:Nat) (hn:p0.length≤9223372036854775807) (hk:p0.length < k):bZ u k p0 0=Pu.bt (mY u p0) (mZ u p0) p0 0 s:=Pu.bP (fun (k:Nat) (s:Unit) (i:Int)=>bZ u k p0 i) hn (fun _ _ _=>rfl) s hk
def bq (u:Nat) (p0:List Int):Option Bool :=
  (c9 u p0).bind fun r1=>some (decide (r1≥0))
def zx (u:Nat)  : Option Bool :=
  some true
def d6 (u:Nat) (Kc:af→Int→aX→Option Bool) (p0:af) (x6:Int) (x16:Bool) (p1:aX):Option Bool :=
  bif x16 then (some false) else (Kc p0 (aW .i64 x6 1) p1)
def eD (u dO:Nat) (p0:af) (x6:Int) (p1:aX):Option Bool:=match dO with
  | 0=>none
  | dO+1=>bif decide (x6 < ((p0.aD.length:Int))) then ((ci p0.aD x6).bind fun y8=>(iJ u p1 p0 x6).bind fun r9=>(fp u p1.aT x6).bind fun r10=>bif r10 then ((kZ u r9).bind fun r11=>bif !([r11.fW,r11.fS] == [y8.fW,y8.fS]) then (d6 u (fun z0 z1 z2=>eD u dO z0 z1 z2) p0 x6 true p1) else ((fp u p1.aT x6).bind fun r12=>bif !r12 then ((bq u r9).bind fun r13=>d6 u (fun z0 z1 z2=>eD u dO z0 z1 z2) p0 x6 r13 p1) else (d6 u (fun z0 z1 z2=>eD u dO z0 z1 z2) p0 x6 false p1))) else ((fp u p1.aT x6).bind fun r14=>bif !r14 then ((bq u r9).bind fun r15=>d6 u (fun z0 z1 z2=>eD u dO z0 z1 z2) p0 x6 r15 p1) else (d6 u (fun z0 z1 z2=>eD u dO z0 z1 z2) p0 x6 false p1))) else (zx u)
def nm (u:Nat) (x4:Bool) (p0:af) (p1:aX):Option Bool :=
  bif x4 then (some false) else (eD u u p0 0 p1)
def pA (u:Nat) (p0:af) (p1:aX):Option Bool :=
  (mG u p0).bind fun r1=>bif !r1 then (nm u true p0 p1) else ((dr u p1.aT).bind fun r2=>bif !r2 then (nm u true p0 p1) else ((qn u p0).bind fun r3=>bif (Ap .i64 p1.aT r3) != 0 then (nm u true p0 p1) else (nm u (((p1.bg.length:Int)) != p0.aY) p0 p1)))
def Iz (u:Nat) (p0:af) (p1:aX) (s:Unit):Option Bool:=(zx u)
def BU (u:Nat) (p0:af) (p1:aX) (y8:bN) (i_:Nat) (s:Unit) (k_:Unit→Option Bool):Option Bool:=(iJ u p1 p0 (i_:Int)).bind fun r9=>(fp u p1.aT (i_:Int)).bind fun r10=>bif r10 then ((kZ u r9).bind fun r11=>bif !([r11.fW,r11.fS] == [y8.fW,y8.fS]) then (d6 u (fun z0 z1 z2=>k_ ()) p0 (i_:Int) true p1) else ((fp u p1.aT (i_:Int)).bind fun r12=>bif !r12 then ((bq u r9).bind fun r13=>d6 u (fun z0 z1 z2=>k_ ()) p0 (i_:Int) r13 p1) else (d6 u (fun z0 z1 z2=>k_ ()) p0 (i_:Int) false p1))) else ((fp u p1.aT (i_:Int)).bind fun r14=>bif !r14 then ((bq u r9).bind fun r15=>d6 u (fun z0 z1 z2=>k_ ()) p0 (i_:Int) r15 p1) else (d6 u (fun z0 z1 z2=>k_ ()) p0 (i_:Int) false p1))
theorem IA (u:Nat) (p0:af) (p1:aX) (s:Unit) (k:Nat) (hn:p0.aD.length≤9223372036854775807) (hk:p0.aD.length < k):eD u k p0 0 p1=Pu.bt (Iz u p0 p1) (BU u p0 p1) p0.aD 0 s:=Pu.bP (fun (k:Nat) (s:Unit) (i:Int)=>eD u k p0 i p1) hn (fun _ _ _=>rfl) s hk
def uc (u:Nat) (p0 p1:Int) (x3:Bool):Option Int :=
  bif x3 then (some 0) else (some (Ap .i64 p0 p1))
def wb (u:Nat) (p0 p1:Int):Option Int :=
  (dr u p0).bind fun r1=>bif !r1 then (uc u p0 p1 true) else ((dr u p1).bind fun r2=>uc u p0 p1 (!r2))
def wc (u:Nat) (p0:af) (p1:aX):Option Int :=
  (qn u p0).bind fun r1=>(wb u r1 p1.aT).bind fun r2=>some r2
def mT (u:Nat) (x4:Bool) (p0:aA):Option Bool :=
  bif x4 then (some false) else (bif p0.aJ == 1 then (some true) else ((wc u p0.av p0.a7).bind fun r5=>some (r5 == 0)))
def mH (u:Nat) (p0:aA):Option Bool :=
  bif p0.aJ == 0 then ((iH u p0.av).bind fun r1=>bif r1 then ((lR u p0.a7).bind fun r2=>some r2) else (some false)) else (bif p0.av.aP == 0 then (mT u true p0) else ((pA u p0.av p0.a7).bind fun r3=>mT u (!r3) p0))
def xE (u:Nat) (p0:Int):Option Bool :=
  (bH u p0 0 6).bind fun r1=>some r1
def A2 (u:Nat)  : Option Bool :=
  some true
def dh (u:Nat) (Mm:(List Kid)→Int→Option Bool) (p0:List Kid) (x2:Int) (x10:Bool):Option Bool :=
  bif x10 then (some false) else (Mm p0 (aW .i64 x2 1))
def d9 (u dp:Nat) (p0:List Kid) (x2:Int):Option Bool:=match dp with
  | 0=>none
  | dp+1=>bif decide (x2 < ((p0.length:Int))) then ((ci p0 x2).bind fun y4=>(xE u y4.fd).bind fun r5=>bif !r5 then (dh u (fun z0 z1=>d9 u dp z0 z1) p0 x2 true) else ((dr u y4.bx).bind fun r6=>bif !r6 then (dh u (fun z0 z1=>d9 u dp z0 z1) p0 x2 true) else ((dr u y4.bL).bind fun r7=>bif !r7 then (dh u (fun z0 z1=>d9 u dp z0 z1) p0 x2 true) else (bif decide (y4.qP < 0) then (dh u (fun z0 z1=>d9 u dp z0 z1) p0 x2 true) else ((dr u y4.c8).bind fun r8=>bif !r8 then (dh u (fun z0 z1=>d9 u dp z0 z1) p0 x2 true) else (bif decide (x2 > 0) then ((ci p0 (cy .i64 x2 1)).bind fun y9=>dh u (fun z0 z1=>d9 u dp z0 z1) p0 x2 (decide (y4.fd≤y9.fd))) else (dh u (fun z0 z1=>d9 u dp z0 z1) p0 x2 false))))))) else (A2 u)
def yH (u:Nat) (p0:List Kid):Option Bool :=
  d9 u u p0 0
def KQ (u:Nat) (p0:List Kid) (s:Unit):Option Bool:=(A2 u)
def C5 (u:Nat) (p0:List Kid) (y4:Kid) (i_:Nat) (s:Unit) (k_:Unit→Option Bool):Option Bool:=(xE u y4.fd).bind fun r5=>bif !r5 then (dh u (fun z0 z1=>k_ ()) p0 (i_:Int) true) else ((dr u y4.bx).bind fun r6=>bif !r6 then (dh u (fun z0 z1=>k_ ()) p0 (i_:Int) true) else ((dr u y4.bL).bind fun r7=>bif !r7 then (dh u (fun z0 z1=>k_ ()) p0 (i_:Int) true) else (bif decide (y4.qP < 0) then (dh u (fun z0 z1=>k_ ()) p0 (i_:Int) true) else ((dr u y4.c8).bind fun r8=>bif !r8 then (dh u (fun z0 z1=>k_ ()) p0 (i_:Int) true) else (bif decide ((i_:Int) > 0) then ((ci p0 (cy .i64 (i_:Int) 1)).bind fun y9=>dh u (fun z0 z1=>k_ ()) p0 (i_:Int) (decide (y4.fd≤y9.fd))) else (dh u (fun z0 z1=>k_ ()) p0 (i_:Int) false))))))
theorem KR (u:Nat) (p0:List Kid) (s:Unit) (k:Nat) (hn:p0.length≤9223372036854775807) (hk:p0.length < k):d9 u k p0 0=Pu.bt (KQ u p0) (C5 u p0) p0 0 s:=Pu.bP (fun (k:Nat) (s:Unit) (i:Int)=>d9 u k p0 i) hn (fun _ _ _=>rfl) s hk
def tj (u:Nat) (p0:Kid) (q0:co) (q1:Int):Option Bool :=
  (ef u q0 p0.fd).bind fun r1=>bif !r1 then (some true) else (some (p0.fd == q1))
def db (u:Nat)  : Option Int :=
  some (-1)
def bI (u bC:Nat) (p0:List Kid) (p1_0:co) (p1_1 x2:Int):Option Int:=match bC with
  | 0=>none
  | bC+1=>bif decide (x2 < ((p0.length:Int))) then ((ci p0 x2).bind fun y4=>(tj u y4 p1_0 p1_1).bind fun r5=>bif r5 then (some x2) else ((fun z0 z1 z2 z3=>bI u bC z0 z1 z2 z3) p0 p1_0 p1_1 (aW .i64 x2 1))) else (db u)
def cB (u:Nat) (p0:List Kid) (p1_0:co) (p1_1:Int):Option Int :=
  bI u u p0 p1_0 p1_1 0
def jZ (u:Nat) (p0:List Kid) (p1_0:co) (p1_1:Int) (s:Unit):Option Int:=(db u)
def ej (u:Nat) (p0:List Kid) (p1_0:co) (p1_1:Int) (y4:Kid) (i_:Nat) (s:Unit) (k_:Unit→Option Int):Option Int:=(tj u y4 p1_0 p1_1).bind fun r5=>bif r5 then (some (i_:Int)) else ((fun z0 z1 z2 z3=>k_ ()) p0 p1_0 p1_1 (aW .i64 (i_:Int) 1))
theorem ka (u:Nat) (p0:List Kid) (p1_0:co) (p1_1:Int) (s:Unit) (k:Nat) (hn:p0.length≤9223372036854775807) (hk:p0.length < k):bI u k p0 p1_0 p1_1 0=Pu.bt (jZ u p0 p1_0 p1_1) (ej u p0 p1_0 p1_1) p0 0 s:=Pu.bP (fun (k:Nat) (s:Unit) (i:Int)=>bI u k p0 p1_0 p1_1 i) hn (fun _ _ _=>rfl) s hk
def b5 (u:Nat) (p0:List Kid) (p1_0:co) (p1_1:Int):Option Bool :=
  (cB u p0 p1_0 p1_1).bind fun r1=>some (decide (r1≥0))
def mI (u:Nat) (x7:Bool) (p0:co) (p1:Int) (p2:aA):Option Bool :=
  bif x7 then (bif decide (p2.be≥0) then (bif decide (p2.a8≥0) then ((bH u p2.aJ 0 6).bind fun r8=>bif r8 then (bif (p2.aJ == 6) == (p1 == 0) then ((mH u p2).bind fun r9=>bif r9 then ((yH u p2.aO).bind fun r10=>bif r10 then ((b5 u p2.aO p0 p1).bind fun r11=>some (!r11)) else (some false)) else (some false)) else (some false)) else (some false)) else (some false)) else (some false)) else (some false)
def wd (u:Nat) (x3:Bool) (p0:co) (p1:Int) (p2:aA):Option Bool :=
  bif x3 then (some false) else (bif !p2.fM then ((ub u p2).bind fun r4=>some r4) else (bif p1 == 0 then (bif p2.bf == (-1) then (mI u true p0 p1 p2) else (bif p1 != 0 then ((qm u p0 p2.bf p1).bind fun r5=>mI u r5 p0 p1 p2) else (mI u false p0 p1 p2))) else (bif p1 != 0 then ((qm u p0 p2.bf p1).bind fun r6=>mI u r6 p0 p1 p2) else (mI u false p0 p1 p2))))
def uY (u:Nat) (p0:co) (p1:Int) (p2:aA):Option Bool :=
  (uW u p0).bind fun r1=>bif !r1 then (wd u true p0 p1 p2) else ((ef u p0 p1).bind fun r2=>wd u (!r2) p0 p1 p2)
def uy (u:Nat) (p0:Int):Option Bool :=
  (bH u p0 0 1000000).bind fun r1=>some r1
def uZ (u:Nat) (p0:Int):Option Bool :=
  bif p0 == 0 then (some true) else (some (p0 == 1))
def qo (u:Nat) (p0:c7):Option Bool :=
  (uy u p0.aP).bind fun r1=>bif r1 then ((uZ u p0.cL).bind fun r2=>bif r2 then ((bH u p0.aY 0 240).bind fun r3=>some r3) else (some false)) else (some false)
def eQ (u:Nat) (p0:aG) (p1:Int):Option ((List Int)) :=
  bif p1 == 0 then (some p0.fA) else (some p0.fB)
def A3 (u:Nat) (p0:ca):Option Bool :=
  bif p0.d1 == 2 then (bif p0.Cl == 0 then (bif ((p0.fB.length:Int)) == 0 then ((qo u p0.fR).bind fun r1=>some r1) else (some false)) else (some false)) else ((uZ u p0.d1).bind fun r2=>bif r2 then (bif [p0.fR.aP,p0.fR.cL,p0.fR.aY] == [0,0,0] then ((bH u p0.Cl 0 (cy .i64 240 ((p0.fB.length:Int)))).bind fun r3=>some r3) else (some false)) else (some false))
def tk (u:Nat) (p0:ca):Option Bool :=
  (A3 u p0).bind fun r1=>some (!r1)
def dd (u:Nat)  : Option Int :=
  some (-1)
def bJ (u bD:Nat) (p0:List ca) (x2:Int):Option Int:=match bD with
  | 0=>none
  | bD+1=>bif decide (x2 < ((p0.length:Int))) then ((ci p0 x2).bind fun y4=>(tk u y4).bind fun r5=>bif r5 then (some x2) else ((fun z0 z1=>bJ u bD z0 z1) p0 (aW .i64 x2 1))) else (dd u)
def cC (u:Nat) (p0:List ca):Option Int :=
  bJ u u p0 0
def kc (u:Nat) (p0:List ca) (s:Unit):Option Int:=(dd u)
def ek (u:Nat) (p0:List ca) (y4:ca) (i_:Nat) (s:Unit) (k_:Unit→Option Int):Option Int:=(tk u y4).bind fun r5=>bif r5 then (some (i_:Int)) else ((fun z0 z1=>k_ ()) p0 (aW .i64 (i_:Int) 1))
theorem kd (u:Nat) (p0:List ca) (s:Unit) (k:Nat) (hn:p0.length≤9223372036854775807) (hk:p0.length < k):bJ u k p0 0=Pu.bt (kc u p0) (ek u p0) p0 0 s:=Pu.bP (fun (k:Nat) (s:Unit) (i:Int)=>bJ u k p0 i) hn (fun _ _ _=>rfl) s hk
def b6 (u:Nat) (p0:List ca):Option Bool :=
  (cC u p0).bind fun r1=>some (decide (r1≥0))
def oH (u:Nat) (p0:aG) (x3:Bool):Option Bool :=
  bif x3 then (some false) else (bif decide (((p0.fP.length:Int))≤200) then ((b6 u p0.fP).bind fun r4=>some (!r4)) else (some false))
def pk (u:Nat) (p0:aG):Option Bool :=
  bif decide (((p0.fA.length:Int)) > 240) then (oH u p0 true) else (bif decide (((p0.fB.length:Int)) > 240) then (oH u p0 true) else ((qo u p0.fR).bind fun r1=>bif !r1 then (oH u p0 true) else ((eQ u p0 p0.fR.cL).bind fun r2=>oH u p0 (decide (p0.fR.aY > ((r2.length:Int)))))))
def gG (u:Nat)  : Option Bool :=
  some true
def cP (u cE:Nat) (p0 p1:List bN) (x2:Int):Option Bool:=match cE with
  | 0=>none
  | cE+1=>bif decide (x2 < ((p0.length:Int))) then ((ci p0 x2).bind fun y4=>(ci p1 x2).bind fun y5=>bif !([y4.fW,y4.fS] == [y5.fW,y5.fS]) then (some false) else ((fun z0 z1 z2=>cP u cE z0 z1 z2) p0 p1 (aW .i64 x2 1))) else (gG u)
def da (u:Nat) (p0 p1:List bN):Option Bool :=
  bif ((p0.length:Int)) != ((p1.length:Int)) then (some false) else (cP u u p0 p1 0)
def sd (u:Nat) (p0 p1:List bN) (s:Unit):Option Bool:=(gG u)
def kx (u:Nat) (p0 p1:List bN) (y4:bN) (i_:Nat) (s:Unit) (k_:Unit→Option Bool):Option Bool:=(ci p1 (i_:Int)).bind fun y5=>bif !([y4.fW,y4.fS] == [y5.fW,y5.fS]) then (some false) else ((fun z0 z1 z2=>k_ ()) p0 p1 (aW .i64 (i_:Int) 1))
theorem se (u:Nat) (p0 p1:List bN) (s:Unit) (k:Nat) (hn:p0.length≤9223372036854775807) (hk:p0.length < k):cP u k p0 p1 0=Pu.bt (sd u p0 p1) (kx u p0 p1) p0 0 s:=Pu.bP (fun (k:Nat) (s:Unit) (i:Int)=>cP u k p0 p1 i) hn (fun _ _ _=>rfl) s hk
def nK (u:Nat) (p0 p1:af):Option Bool :=
  bif p0.aP == p1.aP then (bif p0.aS == p1.aS then (bif p0.aY == p1.aY then ((da u p0.aD p1.aD).bind fun r1=>some r1) else (some false)) else (some false)) else (some false)
def pB (u:Nat) (p0:aG):Option (Int×(List Int)) :=
  (pk u p0).bind fun r1=>bif !r1 then (some ((0,[]))) else ((eQ u p0 p0.fR.cL).bind fun r2=>(dW (dU 0 p0.fR.aY r2.length)).bind fun _=>(gj u ((r2.take (Int.toNat p0.fR.aY)).drop (Int.toNat 0))).bind fun r4=>some ((p0.fR.aP,r4)))
def BV (u:Nat) (p0 p1:List Int):Option Bool :=
  some ((strOfNums p0).toList == (strOfNums p1).toList)
def oI (u:Nat) (p0 p1:List Int):Option Bool :=
  (BV u p0 p1).bind fun r1=>some r1
def uA (u:Nat) (p0:aG) (p1:Int) (p2:List Int):Option Bool :=
  (pB u p0).bind fun r1=>bif r1.1 == p1 then ((oI u r1.2 p2).bind fun r2=>some r2) else (some false)
def DK (u:Nat) (p0:aG):Option Int :=
  some (cy .i64 1 p0.fR.cL)
def sf (u:Nat) (p0:ca) (q0:Int):Option Bool :=
  some (p0.d1 != q0)
def cZ (u:Nat)  : Option Int :=
  some (-1)
def bz (u bu:Nat) (p0:List ca) (p1_0 x2:Int):Option Int:=match bu with
  | 0=>none
  | bu+1=>bif decide (x2 < ((p0.length:Int))) then ((ci p0 x2).bind fun y4=>(sf u y4 p1_0).bind fun r5=>bif r5 then (some x2) else ((fun z0 z1 z2=>bz u bu z0 z1 z2) p0 p1_0 (aW .i64 x2 1))) else (cZ u)
def ct (u:Nat) (p0:List ca) (p1_0:Int):Option Int :=
  bz u u p0 p1_0 0
def jk (u:Nat) (p0:List ca) (p1_0:Int) (s:Unit):Option Int:=(cZ u)
def jl (u:Nat) (p0:List ca) (p1_0:Int) (y4:ca) (i_:Nat) (s:Unit) (k_:Unit→Option Int):Option Int:=(sf u y4 p1_0).bind fun r5=>bif r5 then (some (i_:Int)) else ((fun z0 z1 z2=>k_ ()) p0 p1_0 (aW .i64 (i_:Int) 1))
theorem jm (u:Nat) (p0:List ca) (p1_0:Int) (s:Unit) (k:Nat) (hn:p0.length≤9223372036854775807) (hk:p0.length < k):bz u k p0 p1_0 0=Pu.bt (jk u p0 p1_0) (jl u p0 p1_0) p0 0 s:=Pu.bP (fun (k:Nat) (s:Unit) (i:Int)=>bz u k p0 p1_0 i) hn (fun _ _ _=>rfl) s hk
def bT (u:Nat) (p0:List ca) (p1_0:Int):Option Bool :=
  (ct u p0 p1_0).bind fun r1=>some (decide (r1≥0))
def we (u:Nat) (p0:ca):Option ca :=
  (gj u p0.fB).bind fun r1=>some ((ca.mk p0.d1 p0.Cl r1 p0.fR))
def xF (u:Nat) (r1 r2:(List Int)) (p0:aG) (x11:List ca):Option aG :=
  some ((aG.mk r1 r2 p0.fR x11))
def lS (u jC:Nat) (p0:aG) (x5:Int) (r1 r2:(List Int)) (x6:List ca):Option aG:=match jC with
  | 0=>none
  | jC+1=>bif decide (x5 < ((p0.fP.length:Int))) then ((ci p0.fP x5).bind fun y9=>(we u y9).bind fun r10=>(dW (decide ((x6.length+([r10]).length)*64≤140737488355328))).bind fun _=>(fun z0 z1 z2 z3 z4=>lS u jC z0 z1 z2 z3 z4) p0 (aW .i64 x5 1) r1 r2 (x6++([r10]))) else (xF u r1 r2 p0 x6)
def tl (u:Nat) (p0:aG):Option aG :=
  (gj u p0.fA).bind fun r1=>(gj u p0.fB).bind fun r2=>lS u u p0 0 r1 r2 ([])
def Hb (u:Nat) (p0:aG) (r1 r2:(List Int)) (s:(List ca)):Option aG:=(xF u r1 r2 p0 s)
def A4 (u:Nat) (p0:aG) (r1 r2:(List Int)) (y9:ca) (i_:Nat) (s:(List ca)) (k_:((List ca))→Option aG):Option aG:=(we u y9).bind fun r10=>(dW (decide ((s.length+([r10]).length)*64≤140737488355328))).bind fun _=>(fun z0 z1 z2 z3 z4=>k_ z4) p0 (aW .i64 (i_:Int) 1) r1 r2 (s++([r10]))
theorem Hc (u:Nat) (p0:aG) (r1 r2:(List Int)) (s:(List ca)) (k:Nat) (hn:p0.fP.length≤9223372036854775807) (hk:p0.fP.length < k):lS u k p0 0 r1 r2 s=Pu.bt (Hb u p0 r1 r2) (A4 u p0 r1 r2) p0.fP 0 s:=Pu.bP (fun (k:Nat) (s:(List ca)) (i:Int)=>lS u k p0 i r1 r2 s) hn (fun _ _ _=>rfl) s hk
def yI (u:Nat) (p0:Int):Option Bool :=
  some true
def ud (u:Nat) (p0:aG) (p1:Int):Option (Nat×aG) :=
  bif p1 == 0 then (some ((0,p0))) else (some ((1,p0)))
def mU (u:Nat) (p1:ca) (r1:Nat×aG) (x5:List Int):Option aG :=
  (dW (GG p1.Cl x5.length)).bind fun _=>some ((aG.mk r1.2.fA (Ad x5 p1.fB (Int.toNat p1.Cl)) r1.2.fR r1.2.fP))
def gC (u fh:Nat) (p1:ca) (r1:Nat×aG) (x3:List Int):Option aG:=match fh with
  | 0=>none
  | fh+1=>bif decide (((x3.length:Int)) < (aW .i64 p1.Cl ((p1.fB.length:Int)))) then ((dW (decide ((x3.length+(([0]:List Int)).length)*1≤140737488355328))).bind fun _=>(fun z0 z1 z2=>gC u fh z0 z1 z2) p1 r1 (x3++(([0]:List Int)))) else (mU u p1 r1 x3)
def mV (u:Nat) (p1:ca) (x9:List Int) (r1:Nat×aG):Option aG :=
  (dW (GG p1.Cl x9.length)).bind fun _=>some ((aG.mk (Ad x9 p1.fB (Int.toNat p1.Cl)) r1.2.fB r1.2.fR r1.2.fP))
def gD (u fi:Nat) (p1:ca) (x7:List Int) (r1:Nat×aG):Option aG:=match fi with
  | 0=>none
  | fi+1=>bif decide (((x7.length:Int)) < (aW .i64 p1.Cl ((p1.fB.length:Int)))) then ((dW (decide ((x7.length+(([0]:List Int)).length)*1≤140737488355328))).bind fun _=>(fun z0 z1 z2=>gD u fi z0 z1 z2) p1 (x7++(([0]:List Int))) r1) else (mV u p1 x7 r1)
def jt (u:Nat) (p0:aG) (p1:ca):Option aG :=
  bif p1.d1 == 2 then (some ((aG.mk p0.fA p0.fB p1.fR p0.fP))) else ((ud u p0 p1.d1).bind fun r1=>bif Nat.beq r1.1 0 then (gD u u p1 r1.2.fA r1) else (bif Nat.beq r1.1 1 then (gC u u p1 r1 r1.2.fB) else none))
def g9 (u:Nat) (x33 x34:List Int) (x35 x36 x37:Int) (x38:List ca):Option aG :=
  some ((aG.mk x33 x34 ((c7.mk x35 x36 x37)) ([])))
def cW (u:Nat) (sV:aG→Int→(List Int)→(List Int)→Int→Int→Int→(List ca)→Option aG) (p0:aG) (x10:Int) (x27 x28:List Int) (x29 x30 x31:Int) (x32:List ca):Option aG :=
  sV p0 (aW .i64 x10 1) x27 x28 x29 x30 x31 x32
def bV (u b9:Nat) (p0:aG) (x10:Int) (x11 x12:List Int) (x13 x14 x15:Int) (x16:List ca):Option aG:=match b9 with
  | 0=>none
  | b9+1=>bif decide (x10 < ((p0.fP.length:Int))) then ((ci p0.fP x10).bind fun y24=>(yI u x10).bind fun r25=>bif r25 then ((jt u ((aG.mk x11 x12 ((c7.mk x13 x14 x15)) x16)) y24).bind fun r26=>cW u (fun z0 z1 z2 z3 z4 z5 z6 z7=>bV u b9 z0 z1 z2 z3 z4 z5 z6 z7) p0 x10 r26.fA r26.fB r26.fR.aP r26.fR.cL r26.fR.aY r26.fP) else (cW u (fun z0 z1 z2 z3 z4 z5 z6 z7=>bV u b9 z0 z1 z2 z3 z4 z5 z6 z7) p0 x10 x11 x12 x13 x14 x15 x16)) else (g9 u x11 x12 x13 x14 x15 x16)
def fj (u:Nat) (p0:aG):Option aG :=
  (tl u p0).bind fun r1=>(pk u p0).bind fun r2=>bif !r2 then (some r1) else (bV u u p0 0 r1.fA r1.fB r1.fR.aP r1.fR.cL r1.fR.aY r1.fP)
def lv (u:Nat) (p0:aG) (s:(List Int)×(List Int)×Int×Int×Int×(List ca)):Option aG:=(g9 u s.1 s.2.1 s.2.2.1 s.2.2.2.1 s.2.2.2.2.1 s.2.2.2.2.2)
def fY (u:Nat) (p0:aG) (y24:ca) (i_:Nat) (s:(List Int)×(List Int)×Int×Int×Int×(List ca)) (k_:((List Int)×(List Int)×Int×Int×Int×(List ca))→Option aG):Option aG:=(yI u (i_:Int)).bind fun r25=>bif r25 then ((jt u ((aG.mk s.1 s.2.1 ((c7.mk s.2.2.1 s.2.2.2.1 s.2.2.2.2.1)) s.2.2.2.2.2)) y24).bind fun r26=>cW u (fun z0 z1 z2 z3 z4 z5 z6 z7=>k_ (z2,z3,z4,z5,z6,z7)) p0 (i_:Int) r26.fA r26.fB r26.fR.aP r26.fR.cL r26.fR.aY r26.fP) else (cW u (fun z0 z1 z2 z3 z4 z5 z6 z7=>k_ (z2,z3,z4,z5,z6,z7)) p0 (i_:Int) s.1 s.2.1 s.2.2.1 s.2.2.2.1 s.2.2.2.2.1 s.2.2.2.2.2)
theorem sL (u:Nat) (p0:aG) (s:(List Int)×(List Int)×Int×Int×Int×(List ca)) (k:Nat) (hn:p0.fP.length≤9223372036854775807) (hk:p0.fP.length < k):bV u k p0 0 s.1 s.2.1 s.2.2.1 s.2.2.2.1 s.2.2.2.2.1 s.2.2.2.2.2=Pu.bt (lv u p0) (fY u p0) p0.fP 0 s:=Pu.bP (fun (k:Nat) (s:(List Int)×(List Int)×Int×Int×Int×(List ca)) (i:Int)=>bV u k p0 i s.1 s.2.1 s.2.2.1 s.2.2.2.1 s.2.2.2.2.1 s.2.2.2.2.2) hn (fun _ _ _=>rfl) s hk
def C6 (u:Nat) (p0:aG):Option aG :=
  (fj u p0).bind fun r1=>some r1
def pQ (u:Nat) (p0 p1:List Int):Option Bool :=
  bif decide (((p0.length:Int))≥((p1.length:Int))) then ((dW (dU 0 ((p1.length:Int)) p0.length)).bind fun _=>(BV u ((p0.take (Int.toNat ((p1.length:Int)))).drop (Int.toNat 0)) p1).bind fun r2=>some r2) else (some false)
def ju (u:Nat) (p0:aG) (q0:Int) (q1:aX):Option Bool :=
  (eQ u p0 q0).bind fun r1=>(pQ u r1 q1.bg).bind fun r2=>some r2
def nL (u:Nat) (p3:Int) (p0:aG) (r1 x2:Int) (p1:af) (p2:aX):Option Bool :=
  bif p3 == 2 then ((bT u p0.fP r1).bind fun r3=>bif !r3 then ((C6 u p0).bind fun r4=>(ju u r4 x2 p2).bind fun r5=>some r5) else (some false)) else (bif p3 == 3 then (bif ((p0.fP.length:Int)) == 0 then ((ju u p0 x2 p2).bind fun r6=>some r6) else (some false)) else (bif p3 == 4 then (bif ((p0.fP.length:Int)) == 1 then ((ci p0.fP 0).bind fun y7=>bif y7.d1 == 2 then ((ci p0.fP 0).bind fun y8=>bif [y8.fR.aP,y8.fR.cL,y8.fR.aY] == [p1.aP,r1,p1.aY] then ((ju u p0 x2 p2).bind fun r9=>some r9) else (some false)) else (some false)) else (some false)) else (some false)))
def re (u:Nat) (p0:aG) (p1:af) (p2:aX) (p3:Int):Option Bool :=
  (DK u p0).bind fun r1=>bif r1 == 1 then (nL u p3 p0 r1 1 p1 p2) else (nL u p3 p0 r1 0 p1 p2)
def kz (u:Nat) (r4 r5:Bool) (y2:aG) (x6:Bool) (y1:aA):Option Bool :=
  bif x6 then (bif ((y2.fP.length:Int)) == 0 then (bif r4 then (some true) else (some r5)) else (some false)) else (bif y1.aJ == 1 then (bif ((y2.fP.length:Int)) == 0 then (some r4) else (some false)) else (bif y1.aJ == 5 then (bif ((y2.fP.length:Int)) == 0 then (some r5) else (some false)) else (bif r4 then ((re u y2 y1.av y1.a7 y1.aJ).bind fun r7=>some r7) else (some false))))
def ke (u:Nat) (p0:World) (p1:Int):Option Bool :=
  (ci p0.fN p1).bind fun y1=>(ci p0.fD p1).bind fun y2=>(ci p0.f6 p1).bind fun y3=>(uA u y2 0 y3.fB).bind fun r4=>(uA u y2 1 p0.jj).bind fun r5=>bif !y1.fM then (kz u r4 r5 y2 true y1) else (kz u r4 r5 y2 (y1.aJ == 0) y1)
def rf (u:Nat) (p0:au) (q0:World):Option Bool :=
  (ef u q0.fT p0.du).bind fun r1=>bif !r1 then (some true) else ((ef u q0.fT p0.G2).bind fun r2=>some (!r2))
def cN (u:Nat)  : Option Int :=
  some (-1)
def bn (u bl:Nat) (p0:List au) (p1_0:World) (x2:Int):Option Int:=match bl with
  | 0=>none
  | bl+1=>bif decide (x2 < ((p0.length:Int))) then ((ci p0 x2).bind fun y4=>(rf u y4 p1_0).bind fun r5=>bif r5 then (some x2) else ((fun z0 z1 z2=>bn u bl z0 z1 z2) p0 p1_0 (aW .i64 x2 1))) else (cN u)
def ck (u:Nat) (p0:List au) (p1_0:World):Option Int :=
  bn u u p0 p1_0 0
def iu (u:Nat) (p0:List au) (p1_0:World) (s:Unit):Option Int:=(cN u)
def dB (u:Nat) (p0:List au) (p1_0:World) (y4:au) (i_:Nat) (s:Unit) (k_:Unit→Option Int):Option Int:=(rf u y4 p1_0).bind fun r5=>bif r5 then (some (i_:Int)) else ((fun z0 z1 z2=>k_ ()) p0 p1_0 (aW .i64 (i_:Int) 1))
theorem iv (u:Nat) (p0:List au) (p1_0:World) (s:Unit) (k:Nat) (hn:p0.length≤9223372036854775807) (hk:p0.length < k):bn u k p0 p1_0 0=Pu.bt (iu u p0 p1_0) (dB u p0 p1_0) p0 0 s:=Pu.bP (fun (k:Nat) (s:Unit) (i:Int)=>bn u k p0 p1_0 i) hn (fun _ _ _=>rfl) s hk
def bQ (u:Nat) (p0:List au) (p1_0:World):Option Bool :=
  (ck u p0 p1_0).bind fun r1=>some (decide (r1≥0))
def np (u:Nat) (p0:World):Option Bool :=
  (ci p0.fN 0).bind fun y18=>bif y18.fM then ((ci p0.fD 0).bind fun y19=>(ci p0.f6 0).bind fun y20=>(uA u y19 0 y20.fB).bind fun r21=>bif r21 then ((ci p0.fD 0).bind fun y22=>bif ((y22.fP.length:Int)) == 0 then (bif decide (((p0.dX.length:Int))≤400) then ((bQ u p0.dX p0).bind fun r23=>bif !r23 then (bif decide (((p0.p5.length:Int))≤3000) then (some (decide (p0.qO≥0))) else (some false)) else (some false)) else (some false)) else (some false)) else (some false)) else (some false)
def ue (u:Nat) (qL:World→Int→af→Option Bool) (p0:World) (x8:Int) (x17:Bool) (r6:af):Option Bool :=
  bif x17 then (some false) else (qL p0 (aW .i64 x8 1) r6)
def fw (u:Nat) (qL:World→Int→af→Option Bool) (x8:Int) (p0:World) (x15:Bool) (r6:af):Option Bool :=
  bif x15 then (some false) else (bif decide (x8 > 0) then ((ke u p0 x8).bind fun r16=>ue u qL p0 x8 (!r16) r6) else (ue u qL p0 x8 false r6))
def d7 (u dP:Nat) (p0:World) (x8:Int) (r6:af):Option Bool:=match dP with
  | 0=>none
  | dP+1=>bif decide (x8 < ((p0.fN.length:Int))) then ((ci p0.fN x8).bind fun y10=>(uY u p0.fT x8 y10).bind fun r11=>bif !r11 then (fw u (fun z0 z1 z2=>d7 u dP z0 z1 z2) x8 p0 true r6) else ((ci p0.fD x8).bind fun y12=>(pk u y12).bind fun r13=>bif !r13 then (fw u (fun z0 z1 z2=>d7 u dP z0 z1 z2) x8 p0 true r6) else (bif y10.aJ != 0 then ((nK u y10.av r6).bind fun r14=>fw u (fun z0 z1 z2=>d7 u dP z0 z1 z2) x8 p0 (!r14) r6) else (fw u (fun z0 z1 z2=>d7 u dP z0 z1 z2) x8 p0 false r6)))) else (np u p0)
def gR (u:Nat) (x5:Bool) (p0:World):Option Bool :=
  bif x5 then (some false) else ((A0 u p0).bind fun r6=>d7 u u p0 0 r6)
def wg (u:Nat) (p0:World):Option Bool :=
  (yF u p0.fC).bind fun r1=>bif !r1 then (gR u true p0) else ((uW u p0.fT).bind fun r2=>bif !r2 then (gR u true p0) else ((pg u p0.fC.aS ((p0.jj.length:Int))).bind fun r3=>bif !r3 then (gR u true p0) else ((q9 u p0.fT p0.f6).bind fun r4=>bif !r4 then (gR u true p0) else (bif ((p0.fN.length:Int)) != ((p0.fT.cx.length:Int)) then (gR u true p0) else (gR u (((p0.fD.length:Int)) != ((p0.fT.cx.length:Int))) p0)))))
def IB (u:Nat) (p0:World) (r6:af) (s:Unit):Option Bool:=(np u p0)
def BW (u:Nat) (p0:World) (r6:af) (y10:aA) (i_:Nat) (s:Unit) (k_:Unit→Option Bool):Option Bool:=(uY u p0.fT (i_:Int) y10).bind fun r11=>bif !r11 then (fw u (fun z0 z1 z2=>k_ ()) (i_:Int) p0 true r6) else ((ci p0.fD (i_:Int)).bind fun y12=>(pk u y12).bind fun r13=>bif !r13 then (fw u (fun z0 z1 z2=>k_ ()) (i_:Int) p0 true r6) else (bif y10.aJ != 0 then ((nK u y10.av r6).bind fun r14=>fw u (fun z0 z1 z2=>k_ ()) (i_:Int) p0 (!r14) r6) else (fw u (fun z0 z1 z2=>k_ ()) (i_:Int) p0 false r6)))
theorem IC (u:Nat) (p0:World) (r6:af) (s:Unit) (k:Nat) (hn:p0.fN.length≤9223372036854775807) (hk:p0.fN.length < k):d7 u k p0 0 r6=Pu.bt (IB u p0 r6) (BW u p0 r6) p0.fN 0 s:=Pu.bP (fun (k:Nat) (s:Unit) (i:Int)=>d7 u k p0 i r6) hn (fun _ _ _=>rfl) s hk
def eV (u:Nat) (p0:List bN):Option (List bN) :=
  (dW (decide (((([]:List bN)).length+p0.length)*16≤140737488355328))).bind fun _=>some ((([]:List bN))++p0)
def sg (u:Nat) (p0:af):Option af :=
  (eV u p0.aD).bind fun r1=>some ((af.mk p0.aP p0.aS p0.aY r1))
def oJ (u:Nat) (p0:aX):Option aX :=
  (gj u p0.bg).bind fun r1=>some ((aX.mk p0.aT r1))
def cF (u:Nat) (p0:List Kid):Option (List Kid) :=
  (dW (decide (((([]:List Kid)).length+p0.length)*40≤140737488355328))).bind fun _=>some ((([]:List Kid))++p0)
def gH (u:Nat) (p0:aA):Option aA :=
  (sg u p0.av).bind fun r1=>(oJ u p0.a7).bind fun r2=>(cF u p0.aO).bind fun r3=>some ((aA.mk p0.fM p0.bf p0.be r1 r2 p0.aJ r3 p0.a8))
def uf (u:Nat)  : Option (Int×Int×Bool) :=
  some ((0,0,false))
def fx (u kI:Nat) (p0:List Int) (p1 x3:Int) (p2 x4:Int):Option (Int×Int×Bool):=match kI with
  | 0=>none
  | kI+1=>bif decide (x4 < p2) then ((bH u p1 0 (cy .i64 (cy .i64 ((p0.length:Int)) 1) x4)).bind fun r7=>bif !r7 then (some ((0,0,false))) else ((ci p0 (aW .i64 p1 x4)).bind fun y8=>(dW (decide (0≤(gS .i64 7 x4)))).bind fun _=>bif decide ((IntKind.wrap .i64 y8) < 128) then (bif x4 == 0 then (some ((sZ .i64 x3 (i7 .i64 (fE .i64 (IntKind.wrap .i64 y8) 127) (gS .i64 7 x4)),aW .i64 (aW .i64 p1 x4) 1,true))) else (some ((sZ .i64 x3 (i7 .i64 (fE .i64 (IntKind.wrap .i64 y8) 127) (gS .i64 7 x4)),aW .i64 (aW .i64 p1 x4) 1,decide ((IntKind.wrap .i64 y8) > 0))))) else ((fun z0 z1 z2 z3 z4=>fx u kI z0 z1 z2 z3 z4) p0 p1 (sZ .i64 x3 (i7 .i64 (fE .i64 (IntKind.wrap .i64 y8) 127) (gS .i64 7 x4))) p2 (aW .i64 x4 1)))) else (uf u)
def pC (u:Nat) (p0:List Int) (p1 p2:Int):Option (Int×Int×Bool) :=
  fx u u p0 p1 0 p2 0
def ID (u:Nat) (p0:List Int) (p1 p2 s:Int):Option (Int×Int×Bool):=(uf u)
def IE (u:Nat) (p0:List Int) (p1 p2:Int) (i_:Nat) (s:Int) (k_:Int→Option (Int×Int×Bool)):Option (Int×Int×Bool):=(bH u p1 0 (cy .i64 (cy .i64 ((p0.length:Int)) 1) (i_:Int))).bind fun r7=>bif !r7 then (some ((0,0,false))) else ((ci p0 (aW .i64 p1 (i_:Int))).bind fun y8=>(dW (decide (0≤(gS .i64 7 (i_:Int))))).bind fun _=>bif decide ((IntKind.wrap .i64 y8) < 128) then (bif (i_:Int) == 0 then (some ((sZ .i64 s (i7 .i64 (fE .i64 (IntKind.wrap .i64 y8) 127) (gS .i64 7 (i_:Int))),aW .i64 (aW .i64 p1 (i_:Int)) 1,true))) else (some ((sZ .i64 s (i7 .i64 (fE .i64 (IntKind.wrap .i64 y8) 127) (gS .i64 7 (i_:Int))),aW .i64 (aW .i64 p1 (i_:Int)) 1,decide ((IntKind.wrap .i64 y8) > 0))))) else ((fun z0 z1 z2 z3 z4=>k_ z2) p0 p1 (sZ .i64 s (i7 .i64 (fE .i64 (IntKind.wrap .i64 y8) 127) (gS .i64 7 (i_:Int)))) p2 (aW .i64 (i_:Int) 1)))
theorem Ww (u:Nat) (p0:List Int) (p1 p2 s:Int) (k:Nat) (hn:(p2:Int)≤9223372036854775807) (hk:Int.toNat (p2) < k):fx u k p0 p1 s p2 0=Pu.pT (ID u p0 p1 p2) (IE u p0 p1 p2) (Int.toNat (p2)) 0 s:=Pu.rx (fun (k:Nat) (s i:Int)=>fx u k p0 p1 s p2 i) hn (fun _ _ _=>rfl) s hk
def rh (u:Nat) (r1:Int×Int×Bool) (x2:Bool):Option (Int×Int×Bool) :=
  bif x2 then (some ((0,0,false))) else (some ((r1.1,r1.2.1,true)))
def nM (u:Nat) (p0:List Int) (p1:Int):Option (Int×Int×Bool) :=
  (pC u p0 p1 6).bind fun r1=>bif !r1.2.2 then (rh u r1 true) else (rh u r1 (decide (r1.1 > 1000000000000)))
def si (u:Nat) (x11:Int) (x12:List Int):Option ((List Int)×Int×Bool) :=
  some ((x12,x11,true))
def fJ (u jD:Nat) (p0:List Int) (x4:Int) (x5:List Int) (p2 x6:Int):Option ((List Int)×Int×Bool):=match jD with
  | 0=>none
  | jD+1=>bif decide (x6 < p2) then ((nM u p0 x4).bind fun r10=>bif !r10.2.2 then (some (([],0,false))) else ((dW (decide ((x5.length+(([r10.1]:List Int)).length)*8≤140737488355328))).bind fun _=>(fun z0 z1 z2 z3 z4=>fJ u jD z0 z1 z2 z3 z4) p0 r10.2.1 (x5++(([r10.1]:List Int))) p2 (aW .i64 x6 1))) else (si u x4 x5)
def nW (u:Nat) (p0:List Int) (p1 p2:Int):Option ((List Int)×Int×Bool) :=
  fJ u u p0 p1 (([]:List Int)) p2 0
def He (u:Nat) (p0:List Int) (p2:Int) (s:Int×(List Int)):Option ((List Int)×Int×Bool):=(si u s.1 s.2)
def Hf (u:Nat) (p0:List Int) (p2:Int) (i_:Nat) (s:Int×(List Int)) (k_:(Int×(List Int))→Option ((List Int)×Int×Bool)):Option ((List Int)×Int×Bool):=(nM u p0 s.1).bind fun r10=>bif !r10.2.2 then (some (([],0,false))) else ((dW (decide ((s.2.length+(([r10.1]:List Int)).length)*8≤140737488355328))).bind fun _=>(fun z0 z1 z2 z3 z4=>k_ (z1,z2)) p0 r10.2.1 (s.2++(([r10.1]:List Int))) p2 (aW .i64 (i_:Int) 1))
theorem Vk (u:Nat) (p0:List Int) (p2:Int) (s:Int×(List Int)) (k:Nat) (hn:(p2:Int)≤9223372036854775807) (hk:Int.toNat (p2) < k):fJ u k p0 s.1 s.2 p2 0=Pu.pT (He u p0 p2) (Hf u p0 p2) (Int.toNat (p2)) 0 s:=Pu.rx (fun (k:Nat) (s:Int×(List Int)) (i:Int)=>fJ u k p0 s.1 s.2 p2 i) hn (fun _ _ _=>rfl) s hk
def wh (u:Nat) (x19 y2:Int) (y3 y4:Int) (x20:List bN):Option (af×Int×Bool) :=
  (mG u ((af.mk y2 y3 y4 x20))).bind fun r21=>bif !r21 then (some (((af.mk 0 0 0 ([])),0,false))) else (some (((af.mk y2 y3 y4 x20),x19,true)))
def oK (u:Nat) (Ml:(List Int)→Int→Int→Int→Int→Int→Int→(List bN)→Option (af×Int×Bool)) (p0:List Int) (x9:Int) (r15:Int×Int×Bool) (r16:(List Int)×Bool) (r5 x10:Int) (x17:Bool) (y2 y3 y4:Int) (x11:List bN):Option (af×Int×Bool) :=
  bif x17 then (some (((af.mk 0 0 0 ([])),0,false))) else ((kZ u r16.1).bind fun r18=>(dW (decide ((x11.length+([r18]).length)*16≤140737488355328))).bind fun _=>Ml p0 r15.2.1 r5 (aW .i64 x10 1) y2 y3 y4 (x11++([r18])))
def fq (u ia:Nat) (p0:List Int) (x9 r5:Int) (x10 y2:Int) (y3 y4:Int) (x11:List bN):Option (af×Int×Bool):=match ia with
  | 0=>none
  | ia+1=>bif decide (x10 < r5) then ((pC u p0 x9 8).bind fun r15=>(nJ u r15.1).bind fun r16=>bif !r15.2.2 then (oK u (fun z0 z1 z2 z3 z4 z5 z6 z7=>fq u ia z0 z1 z2 z3 z4 z5 z6 z7) p0 x9 r15 r16 r5 x10 true y2 y3 y4 x11) else (oK u (fun z0 z1 z2 z3 z4 z5 z6 z7=>fq u ia z0 z1 z2 z3 z4 z5 z6 z7) p0 x9 r15 r16 r5 x10 (!r16.2) y2 y3 y4 x11)) else (wh u x9 y2 y3 y4 x11)
def yJ (u:Nat) (p0:List Int) (p1:Int):Option (af×Int×Bool) :=
  (nW u p0 p1 3).bind fun r1=>bif !r1.2.2 then (some (((af.mk 0 0 0 ([])),0,false))) else ((ci r1.1 0).bind fun y2=>(ci r1.1 1).bind fun y3=>(ci r1.1 2).bind fun y4=>(pi u y3 y4).bind fun r5=>fq u u p0 r1.2.1 r5 0 y2 y3 y4 ([]))
def KT (u:Nat) (p0:List Int) (r5 y2:Int) (y3 y4:Int) (s:Int×(List bN)):Option (af×Int×Bool):=(wh u s.1 y2 y3 y4 s.2)
def KU (u:Nat) (p0:List Int) (r5 y2:Int) (y3 y4:Int) (i_:Nat) (s:Int×(List bN)) (k_:(Int×(List bN))→Option (af×Int×Bool)):Option (af×Int×Bool):=(pC u p0 s.1 8).bind fun r15=>(nJ u r15.1).bind fun r16=>bif !r15.2.2 then (oK u (fun z0 z1 z2 z3 z4 z5 z6 z7=>k_ (z1,z7)) p0 s.1 r15 r16 r5 (i_:Int) true y2 y3 y4 s.2) else (oK u (fun z0 z1 z2 z3 z4 z5 z6 z7=>k_ (z1,z7)) p0 s.1 r15 r16 r5 (i_:Int) (!r16.2) y2 y3 y4 s.2)
theorem WZ (u:Nat) (p0:List Int) (r5 y2:Int) (y3 y4:Int) (s:Int×(List bN)) (k:Nat) (hn:(r5:Int)≤9223372036854775807) (hk:Int.toNat (r5) < k):fq u k p0 s.1 r5 0 y2 y3 y4 s.2=Pu.pT (KT u p0 r5 y2 y3 y4) (KU u p0 r5 y2 y3 y4) (Int.toNat (r5)) 0 s:=Pu.rx (fun (k:Nat) (s:Int×(List bN)) (i:Int)=>fq u k p0 s.1 r5 i y2 y3 y4 s.2) hn (fun _ _ _=>rfl) s hk
def ug (u:Nat) (p0:List Int) (r1:Int×Int×Bool) (x2:Bool):Option ((List Int)×Int×Bool) :=
  bif x2 then (some (([],0,false))) else ((ux u p0 r1.2.1 r1.1).bind fun r3=>bif !r3.2 then (some (([],0,false))) else (some ((r3.1,aW .i64 r1.2.1 r1.1,true))))
def wi (u:Nat) (p0:List Int) (p1 p2:Int):Option ((List Int)×Int×Bool) :=
  (nM u p0 p1).bind fun r1=>bif !r1.2.2 then (ug u p0 r1 true) else (ug u p0 r1 (decide (r1.1 > p2)))
def k5 (u:Nat) (x13:Bool) (p1 x14:Int) (x15 x16 x17:Int) (x18:List bN) (x19 x20 x21:Int) (x22:List Int):Option (ei×Bool) :=
  some (((ei.mk p1 x14 ((af.mk x15 x16 x17 x18)) x19 x20 x21 x22),x13))
def fK (u:Nat) (p0:List Int) (p1 p2:Int):Option (ei×Bool) :=
  bif p1 == 1 then ((yJ u p0 p2).bind fun r1=>k5 u r1.2.2 p1 0 r1.1.aP r1.1.aS r1.1.aY r1.1.aD 0 0 0 ([])) else (bif p1 == 2 then ((nW u p0 p2 5).bind fun r2=>bif !r2.2.2 then (some (((ei.mk 0 0 ((af.mk 0 0 0 ([]))) 0 0 0 ([])),false))) else ((ci r2.1 0).bind fun y3=>(ci r2.1 1).bind fun y4=>(ci r2.1 2).bind fun y5=>(ci r2.1 3).bind fun y6=>(ci r2.1 4).bind fun y7=>k5 u true p1 y3 0 0 0 ([]) (sZ .i64 y4 (i7 .i64 y5 20)) (sZ .i64 y6 (i7 .i64 y7 20)) 0 ([]))) else (bif p1 == 3 then ((nW u p0 p2 2).bind fun r8=>bif !r8.2.2 then (some (((ei.mk 0 0 ((af.mk 0 0 0 ([]))) 0 0 0 ([])),false))) else ((ci r8.1 0).bind fun y9=>(ci r8.1 1).bind fun y10=>(wi u p0 r8.2.1 6).bind fun r11=>k5 u r11.2.2 p1 y9 0 0 0 ([]) 0 0 y10 r11.1)) else (bif p1 == 4 then ((nM u p0 p2).bind fun r12=>k5 u r12.2.2 p1 r12.1 0 0 0 ([]) 0 0 0 ([])) else (k5 u false p1 0 0 0 0 ([]) 0 0 0 ([])))))
def jv (u:Nat) (p0:ei) (p1 p2 p3:Bool):Option Bool :=
  bif p1 then (bif p2 then (bif p3 then (some true) else (bif p0.fI == 0 then (some (((p0.fB.length:Int)) == 0)) else (some false))) else (bif p0.bx == 0 then (bif p0.bL == 0 then (bif p3 then (some true) else (bif p0.fI == 0 then (some (((p0.fB.length:Int)) == 0)) else (some false))) else (some false)) else (some false))) else ((iH u p0.av).bind fun r1=>bif r1 then (bif p2 then (bif p3 then (some true) else (bif p0.fI == 0 then (some (((p0.fB.length:Int)) == 0)) else (some false))) else (bif p0.bx == 0 then (bif p0.bL == 0 then (bif p3 then (some true) else (bif p0.fI == 0 then (some (((p0.fB.length:Int)) == 0)) else (some false))) else (some false)) else (some false))) else (some false))
def xG (u:Nat) (p0:ei):Option Bool :=
  bif p0.bA == 1 then ((mG u p0.av).bind fun r1=>bif r1 then (bif p0.av.aP != 0 then (bif p0.aP == 0 then ((jv u p0 true false false).bind fun r2=>some r2) else (some false)) else (some false)) else (some false)) else (bif p0.bA == 2 then ((uy u p0.aP).bind fun r3=>bif r3 then ((dr u p0.bx).bind fun r4=>bif r4 then ((dr u p0.bL).bind fun r5=>bif r5 then ((jv u p0 false true false).bind fun r6=>some r6) else (some false)) else (some false)) else (some false)) else (bif p0.bA == 3 then ((bH u p0.aP 1 1000000).bind fun r7=>bif r7 then ((pz u p0.fI).bind fun r8=>bif r8 then ((bH u ((p0.fB.length:Int)) 1 6).bind fun r9=>bif r9 then ((jv u p0 false false true).bind fun r10=>some r10) else (some false)) else (some false)) else (some false)) else (bif p0.bA == 4 then ((uy u p0.aP).bind fun r11=>bif r11 then ((jv u p0 false false false).bind fun r12=>some r12) else (some false)) else (some false))))
def qF (u:Nat) (x7:List Int) (x8:Int):Option ((List Int)) :=
  (dW (decide ((x7.length+(([IntKind.wrap .u8 x8]:List Int)).length)*1≤140737488355328))).bind fun _=>some (x7++(([IntKind.wrap .u8 x8]:List Int)))
def iK (u iW:Nat) (x3:List Int) (x4:Int):Option ((List Int)):=match iW with
  | 0=>none
  | iW+1=>bif decide (x4≥128) then ((dW (decide ((x3.length+(([sZ .u8 (IntKind.wrap .u8 x4) 128]:List Int)).length)*1≤140737488355328))).bind fun _=>(fun z0 z1=>iK u iW z0 z1) (x3++(([sZ .u8 (IntKind.wrap .u8 x4) 128]:List Int))) (n4 .i64 x4 7)) else (qF u x3 x4)
def oL (u:Nat) (p0:List Int) (p1:Int):Option ((List Int)) :=
  iK u u p0 p1
def eK (u:Nat) (p0:List Int) (p1:Int):Option ((List Int)) :=
  (gj u p0).bind fun r1=>(bH u p1 0 1000000000000).bind fun r2=>bif !r2 then (some r1) else ((oL u r1 p1).bind fun r3=>some r3)
def A5 (u:Nat) (x14:List Int):Option ((List Int)) :=
  some x14
def oM (u ma:Nat) (x8:List Int) (p1:af) (x9:Int):Option ((List Int)):=match ma with
  | 0=>none
  | ma+1=>bif decide (x9 < ((p1.aD.length:Int))) then ((ci p1.aD x9).bind fun y12=>(oL u x8 y12.fS).bind fun r13=>(fun z0 z1 z2=>oM u ma z0 z1 z2) r13 p1 (aW .i64 x9 1)) else (A5 u x8)
def yK (u:Nat) (p0:List Int) (p1:af):Option ((List Int)) :=
  (mG u p1).bind fun r1=>bif !r1 then ((gj u p0).bind fun r2=>some r2) else ((eK u p0 p1.aP).bind fun r3=>(eK u r3 p1.aS).bind fun r4=>(eK u r4 p1.aY).bind fun r5=>oM u u r5 p1 0)
def C7 (u:Nat) (p1:af) (s:(List Int)):Option ((List Int)):=(A5 u s)
def xH (u:Nat) (p1:af) (y12:bN) (i_:Nat) (s:(List Int)) (k_:((List Int))→Option ((List Int))):Option ((List Int)):=(oL u s y12.fS).bind fun r13=>(fun z0 z1 z2=>k_ z0) r13 p1 (aW .i64 (i_:Int) 1)
theorem KV (u:Nat) (p1:af) (s:(List Int)) (k:Nat) (hn:p1.aD.length≤9223372036854775807) (hk:p1.aD.length < k):oM u k s p1 0=Pu.bt (C7 u p1) (xH u p1) p1.aD 0 s:=Pu.bP (fun (k:Nat) (s:(List Int)) (i:Int)=>oM u k s p1 i) hn (fun _ _ _=>rfl) s hk
def yL (u:Nat) (p0:List Int) (p1:Int):Option ((List Int)) :=
  (eK u p0 (fE .i64 p1 1048575)).bind fun r1=>(eK u r1 (n4 .i64 p1 20)).bind fun r2=>some r2
def Al (u:Nat) (p0 p1:List Int):Option ((List Int)) :=
  (eK u p0 ((p1.length:Int))).bind fun r1=>(dW (decide ((r1.length+p1.length)*1≤140737488355328))).bind fun _=>some (r1++p1)
def kf (u:Nat) (x11:List Int):Option ((List Int)) :=
  (pj u x11).bind fun r12=>(eK u x11 r12).bind fun r13=>some r13
def u1 (u:Nat) (p0:ei):Option ((List Int)) :=
  (xG u p0).bind fun r1=>bif !r1 then (some ([])) else ((eK u ([]) p0.bA).bind fun r2=>bif p0.bA == 1 then ((yK u r2 p0.av).bind fun r3=>kf u r3) else (bif p0.bA == 2 then ((eK u r2 p0.aP).bind fun r4=>(yL u r4 p0.bx).bind fun r5=>(yL u r5 p0.bL).bind fun r6=>kf u r6) else (bif p0.bA == 3 then ((eK u r2 p0.aP).bind fun r7=>(eK u r7 p0.fI).bind fun r8=>(Al u r8 p0.fB).bind fun r9=>kf u r9) else (bif p0.bA == 4 then ((eK u r2 p0.aP).bind fun r10=>kf u r10) else (kf u r2)))))
def ri (u:Nat) (x7:Bool) (r3:ei×Bool):Option (ei×Bool) :=
  bif x7 then (some (((ei.mk 0 0 ((af.mk 0 0 0 ([]))) 0 0 0 ([])),false))) else (some ((r3.1,true)))
def wj (u:Nat) (p0:List Int) (r1:Int×Int×Bool) (x2:Bool):Option (ei×Bool) :=
  bif x2 then (some (((ei.mk 0 0 ((af.mk 0 0 0 ([]))) 0 0 0 ([])),false))) else ((fK u p0 r1.1 r1.2.1).bind fun r3=>bif !r3.2 then (ri u true r3) else ((xG u r3.1).bind fun r4=>bif !r4 then (ri u true r3) else ((u1 u r3.1).bind fun r5=>(oI u r5 p0).bind fun r6=>ri u (!r6) r3)))
def yM (u:Nat) (p0:List Int):Option (ei×Bool) :=
  (nM u p0 0).bind fun r1=>bif !r1.2.2 then (wj u p0 r1 true) else (wj u p0 r1 (decide (((p0.length:Int)) > 400)))
def Am (u:Nat) (p0:Kid) (q0:Int):Option Bool :=
  some (p0.fd == q0)
def di (u:Nat)  : Option Int :=
  some (-1)
def bO (u bG:Nat) (p0:List Kid) (p1_0 x2:Int):Option Int:=match bG with
  | 0=>none
  | bG+1=>bif decide (x2 < ((p0.length:Int))) then ((ci p0 x2).bind fun y4=>(Am u y4 p1_0).bind fun r5=>bif r5 then (some x2) else ((fun z0 z1 z2=>bO u bG z0 z1 z2) p0 p1_0 (aW .i64 x2 1))) else (di u)
def cG (u:Nat) (p0:List Kid) (p1_0:Int):Option Int :=
  bO u u p0 p1_0 0
def ko (u:Nat) (p0:List Kid) (p1_0:Int) (s:Unit):Option Int:=(di u)
def kp (u:Nat) (p0:List Kid) (p1_0:Int) (y4:Kid) (i_:Nat) (s:Unit) (k_:Unit→Option Int):Option Int:=(Am u y4 p1_0).bind fun r5=>bif r5 then (some (i_:Int)) else ((fun z0 z1 z2=>k_ ()) p0 p1_0 (aW .i64 (i_:Int) 1))
theorem kt (u:Nat) (p0:List Kid) (p1_0:Int) (s:Unit) (k:Nat) (hn:p0.length≤9223372036854775807) (hk:p0.length < k):bO u k p0 p1_0 0=Pu.bt (ko u p0 p1_0) (kp u p0 p1_0) p0 0 s:=Pu.bP (fun (k:Nat) (s:Unit) (i:Int)=>bO u k p0 p1_0 i) hn (fun _ _ _=>rfl) s hk
def uB (u:Nat) (p0:List Kid) (p1:Int):Option Int :=
  (cG u p0 p1).bind fun r1=>some r1
def BX (u:Nat) (p0:Kid) (q0:Int):Option Bool :=
  some (decide (p0.fd > q0))
def dm (u:Nat)  : Option Int :=
  some (-1)
def bS (u bK:Nat) (p0:List Kid) (p1_0 x2:Int):Option Int:=match bK with
  | 0=>none
  | bK+1=>bif decide (x2 < ((p0.length:Int))) then ((ci p0 x2).bind fun y4=>(BX u y4 p1_0).bind fun r5=>bif r5 then (some x2) else ((fun z0 z1 z2=>bS u bK z0 z1 z2) p0 p1_0 (aW .i64 x2 1))) else (dm u)
def ch (u:Nat) (p0:List Kid) (p1_0:Int):Option Int :=
  bS u u p0 p1_0 0
def k6 (u:Nat) (p0:List Kid) (p1_0:Int) (s:Unit):Option Int:=(dm u)
def k7 (u:Nat) (p0:List Kid) (p1_0:Int) (y4:Kid) (i_:Nat) (s:Unit) (k_:Unit→Option Int):Option Int:=(BX u y4 p1_0).bind fun r5=>bif r5 then (some (i_:Int)) else ((fun z0 z1 z2=>k_ ()) p0 p1_0 (aW .i64 (i_:Int) 1))
theorem k8 (u:Nat) (p0:List Kid) (p1_0:Int) (s:Unit) (k:Nat) (hn:p0.length≤9223372036854775807) (hk:p0.length < k):bS u k p0 p1_0 0=Pu.bt (k6 u p0 p1_0) (k7 u p0 p1_0) p0 0 s:=Pu.bP (fun (k:Nat) (s:Unit) (i:Int)=>bS u k p0 p1_0 i) hn (fun _ _ _=>rfl) s hk
def eG (u:Nat) (p0:List Kid) (p1:Int) (p2:List Kid):Option (List Kid) :=
  bif decide (0≤p1) && decide (p1≤p0.length) && decide (p2.length=1) && decide ((p0.length+p2.length)*40≤140737488355328) then some (p0.take p1.toNat++p2++p0.drop p1.toNat) else none
def wl (u:Nat) (p2 p3:Int) (x10:List Kid) (x11:Int):Option ((List Kid)) :=
  (ci x10 x11).bind fun y12=>some (((x10.set (Int.toNat x11) ((Kid.mk y12.fd p2 y12.bL y12.qP y12.c8))).set (Int.toNat x11) ((Kid.mk y12.fd p2 y12.bL 0 y12.c8))).set (Int.toNat x11) ((Kid.mk y12.fd p2 (sZ .i64 y12.bL p3) 0 y12.c8)))
def wm (u:Nat) (p2 p3 p1:Int) (r1:List Kid) (x8:Int):Option ((List Kid)) :=
  (eG u r1 x8 ([(Kid.mk p1 0 0 0 0)])).bind fun r9=>wl u p2 p3 r9 x8
def wn (u:Nat) (p0:List Kid) (p2 p3:Int) (r1:List Kid) (x5:Bool) (p1:Int):Option ((List Kid)) :=
  bif x5 then (some r1) else ((uB u p0 p1).bind fun r6=>bif decide (r6 < 0) then ((ch u p0 p1).bind fun r7=>bif decide (r7 < 0) then (wm u p2 p3 p1 r1 ((p0.length:Int))) else (wm u p2 p3 p1 r1 r7)) else (wl u p2 p3 r1 r6))
def C8 (u:Nat) (p0:List Kid) (p1 p2 p3:Int):Option ((List Kid)) :=
  (cF u p0).bind fun r1=>(xE u p1).bind fun r2=>bif !r2 then (wn u p0 p2 p3 r1 true p1) else ((dr u p2).bind fun r3=>bif !r3 then (wn u p0 p2 p3 r1 true p1) else ((dr u p3).bind fun r4=>wn u p0 p2 p3 r1 (!r4) p1))
def rj (u:Nat) (p0:aA):Option Int :=
  some p0.a7.aT
def oN (u:Nat) (p0:List Kid) (p2 r1:Int) (x7:Bool):Option Int :=
  bif x7 then (some 0) else ((ci p0 r1).bind fun y8=>(ci p0 r1).bind fun y9=>some (Ap .i64 (fE .i64 y8.bx p2) y9.c8))
def rk (u:Nat) (p0:List Kid) (p1 p2:Int):Option Int :=
  (uB u p0 p1).bind fun r1=>bif decide (r1 < 0) then (oN u p0 p2 r1 true) else ((dr u p2).bind fun r2=>bif !r2 then (oN u p0 p2 r1 true) else ((ci p0 r1).bind fun y3=>(dr u y3.bx).bind fun r4=>bif !r4 then (oN u p0 p2 r1 true) else ((ci p0 r1).bind fun y5=>(dr u y5.c8).bind fun r6=>oN u p0 p2 r1 (!r6))))
def uh (u:Nat) (x9:List Int):Option ((List Int)) :=
  some x9
def k9 (u:Nat) (Kf:Int→(List Int)→Int→Option ((List Int))) (p0:Int) (x8:List Int) (x4:Int):Option ((List Int)) :=
  Kf p0 x8 (aW .i64 x4 1)
def jd (u gr:Nat) (p0:Int) (x3:List Int) (x4:Int):Option ((List Int)):=match gr with
  | 0=>none
  | gr+1=>bif decide (x4 < 40) then ((fp u p0 x4).bind fun r7=>bif r7 then ((dW (decide ((x3.length+(([x4]:List Int)).length)*8≤140737488355328))).bind fun _=>k9 u (fun z0 z1 z2=>jd u gr z0 z1 z2) p0 (x3++(([x4]:List Int))) x4) else (k9 u (fun z0 z1 z2=>jd u gr z0 z1 z2) p0 x3 x4)) else (uh u x3)
def wo (u:Nat) (p0:Int):Option ((List Int)) :=
  jd u u p0 (([]:List Int)) 0
def BY (u:Nat) (p0:Int) (s:(List Int)):Option ((List Int)):=(uh u s)
def BZ (u:Nat) (p0:Int) (i_:Nat) (s:(List Int)) (k_:((List Int))→Option ((List Int))):Option ((List Int)):=(fp u p0 (i_:Int)).bind fun r7=>bif r7 then ((dW (decide ((s.length+(([(i_:Int)]:List Int)).length)*8≤140737488355328))).bind fun _=>k9 u (fun z0 z1 z2=>k_ z1) p0 (s++(([(i_:Int)]:List Int))) (i_:Int)) else (k9 u (fun z0 z1 z2=>k_ z1) p0 s (i_:Int))
theorem IF (u:Nat) (p0:Int) (s:(List Int)) (k:Nat) (hn:(40:Int)≤9223372036854775807) (hk:Int.toNat (40) < k):jd u k p0 s 0=Pu.pT (BY u p0) (BZ u p0) (Int.toNat (40)) 0 s:=Pu.rx (fun (k:Nat) (s:(List Int)) (i:Int)=>jd u k p0 s i) hn (fun _ _ _=>rfl) s hk
def ui (u:Nat) (p2:Int) (x3:Bool) (p0:af) (p1:aX):Option ((List Int)×Bool) :=
  bif x3 then (some (([],false))) else ((iJ u p1 p0 p2).bind fun r4=>(gj u r4).bind fun r5=>some ((r5,true)))
def pD (u:Nat) (p0:af) (p1:aX) (p2:Int):Option ((List Int)×Bool) :=
  (pA u p0 p1).bind fun r1=>bif !r1 then (ui u p2 true p0 p1) else ((fp u p1.aT p2).bind fun r2=>ui u p2 (!r2) p0 p1)
def nN (u:Nat) (p0 p1:Int) (p2:List Int):Option ei :=
  (gj u p2).bind fun r1=>some ((ei.mk 3 p0 ((af.mk 0 0 0 ([]))) 0 0 p1 r1))
def jQ (u:Nat) (p0 p1:Int) (p2:ei):Option au :=
  (u1 u p2).bind fun r1=>some ((au.mk p0 p1 r1))
def sj (u:Nat) (x9:List Kid):Option ((List Kid)) :=
  some x9
def oO (u:Nat) (p2:Int) (r1:List Kid) (r2:Int) (x6:Bool):Option ((List Kid)) :=
  bif x6 then ((ci r1 r2).bind fun y7=>(ci r1 r2).bind fun y8=>sj u (r1.set (Int.toNat r2) ((Kid.mk y8.fd y8.bx y8.bL y8.qP (sZ .i64 y7.c8 p2))))) else (sj u r1)
def nX (u:Nat) (p0:List Kid) (p1 p2:Int):Option ((List Kid)) :=
  (cF u p0).bind fun r1=>(uB u p0 p1).bind fun r2=>bif decide (r2≥0) then ((dr u p2).bind fun r3=>bif r3 then ((ci p0 r2).bind fun y4=>(dr u y4.c8).bind fun r5=>oO u p2 r1 r2 r5) else (oO u p2 r1 r2 false)) else (oO u p2 r1 r2 false)
def qG (u:Nat) (p2 r3:Int) (p0 r1:aA) (x16:List au):Option Act :=
  (nX u p0.aO p2 r3).bind fun r17=>some ((Act.mk ((aA.mk r1.fM r1.bf r1.be r1.av r1.a7 r1.aJ r17 r1.a8)) x16))
def kA (u:Nat) (Gw:Int→Int→Int→((List Int))→Int→aA→aA→(List au)→Option Act) (p1 p2 r3:Int) (r4:(List Int)) (x7:Int) (p0 r1:aA) (x15:List au):Option Act :=
  Gw p1 p2 r3 r4 (aW .i64 x7 1) p0 r1 x15
def gk (u eN:Nat) (p1 p2 r3:Int) (r4:(List Int)) (x7:Int) (p0 r1:aA) (x8:List au):Option Act:=match eN with
  | 0=>none
  | eN+1=>bif decide (x7 < ((r4.length:Int))) then ((ci r4 x7).bind fun y11=>(pD u p0.av p0.a7 y11).bind fun r12=>bif r12.2 then ((nN u p0.av.aP y11 r12.1).bind fun r13=>(jQ u p1 p2 r13).bind fun r14=>(dW (decide ((x8.length+([r14]).length)*40≤140737488355328))).bind fun _=>kA u (fun z0 z1 z2 z3 z4 z5 z6 z7=>gk u eN z0 z1 z2 z3 z4 z5 z6 z7) p1 p2 r3 r4 x7 p0 r1 (x8++([r14]))) else (kA u (fun z0 z1 z2 z3 z4 z5 z6 z7=>gk u eN z0 z1 z2 z3 z4 z5 z6 z7) p1 p2 r3 r4 x7 p0 r1 x8)) else (qG u p2 r3 p0 r1 x8)
def rm (u:Nat) (p0:aA) (p1 p2:Int):Option Act :=
  (gH u p0).bind fun r1=>(rj u p0).bind fun r2=>(rk u p0.aO p2 r2).bind fun r3=>(wo u r3).bind fun r4=>gk u u p1 p2 r3 r4 0 p0 r1 ([])
def zY (u:Nat) (p1 p2 r3:Int) (r4:(List Int)) (p0 r1:aA) (s:(List au)):Option Act:=(qG u p2 r3 p0 r1 s)
def zZ (u:Nat) (p1 p2 r3:Int) (r4:(List Int)) (p0 r1:aA) (y11:Int) (i_:Nat) (s:(List au)) (k_:((List au))→Option Act):Option Act:=(pD u p0.av p0.a7 y11).bind fun r12=>bif r12.2 then ((nN u p0.av.aP y11 r12.1).bind fun r13=>(jQ u p1 p2 r13).bind fun r14=>(dW (decide ((s.length+([r14]).length)*40≤140737488355328))).bind fun _=>kA u (fun z0 z1 z2 z3 z4 z5 z6 z7=>k_ z7) p1 p2 r3 r4 (i_:Int) p0 r1 (s++([r14]))) else (kA u (fun z0 z1 z2 z3 z4 z5 z6 z7=>k_ z7) p1 p2 r3 r4 (i_:Int) p0 r1 s)
theorem Gk (u:Nat) (p1 p2 r3:Int) (r4:(List Int)) (p0 r1:aA) (s:(List au)) (k:Nat) (hn:r4.length≤9223372036854775807) (hk:r4.length < k):gk u k p1 p2 r3 r4 0 p0 r1 s=Pu.bt (zY u p1 p2 r3 r4 p0 r1) (zZ u p1 p2 r3 r4 p0 r1) r4 0 s:=Pu.bP (fun (k:Nat) (s:(List au)) (i:Int)=>gk u k p1 p2 r3 r4 i p0 r1 s) hn (fun _ _ _=>rfl) s hk
def mJ (u:Nat) (p1 p2:Int) (x4:Bool) (x5 x6:Int) (x7 x8 x9:Int) (x10:List bN) (x11:Int) (x12:List Int) (x13:Int) (x14:List Kid) (x15:Int) (x16:List au) (x17 x18:Int) (x19 x20 x21:Int) (x22:List bN):Option Act :=
  (jQ u p1 p2 ((ei.mk x17 x18 ((af.mk x19 x20 x21 x22)) 0 0 0 ([])))).bind fun r23=>some ((Act.mk ((aA.mk x4 x5 x6 ((af.mk x7 x8 x9 x10)) ((aX.mk x11 x12)) x13 x14 x15)) ([r23])))
def pR (u:Nat) (p0:aA) (p1 p2:Int) (p3:ei):Option Act :=
  (gH u p0).bind fun r1=>bif p2 == p1 then (some ((Act.mk r1 ([])))) else ((C8 u p0.aO p2 p3.bx p3.bL).bind fun r2=>bif p0.aJ == 0 then (mJ u p1 p2 r1.fM r1.bf r1.be r1.av.aP r1.av.aS r1.av.aY r1.av.aD r1.a7.aT r1.a7.bg r1.aJ r2 r1.a8 ([]) 4 0 0 0 0 ([])) else (bif p3.aP != p0.av.aP then (mJ u p1 p2 r1.fM r1.bf r1.be r1.av.aP r1.av.aS r1.av.aY r1.av.aD r1.a7.aT r1.a7.bg r1.aJ r2 r1.a8 ([]) 1 0 p0.av.aP p0.av.aS p0.av.aY p0.av.aD) else ((rm u ((aA.mk r1.fM r1.bf r1.be r1.av r1.a7 r1.aJ r2 r1.a8)) p1 p2).bind fun r3=>bif decide (((r3.sW.length:Int)) > 0) then (some r3) else (mJ u p1 p2 r3.fN.fM r3.fN.bf r3.fN.be r3.fN.av.aP r3.fN.av.aS r3.fN.av.aY r3.fN.av.aD r3.fN.a7.aT r3.fN.a7.bg r3.fN.aJ r3.fN.aO r3.fN.a8 r3.sW 4 p0.av.aP 0 0 0 ([])))))
def tn (u:Nat) (p0:af):Option aX :=
  (mG u p0).bind fun r1=>bif !r1 then (some ((aX.mk 0 ([])))) else ((dW (decide (0≤p0.aY) && (p0.aY == 0 || p0.aY == p0.aY))).bind fun _=>(dW (decide (Int.toNat p0.aY*1≤140737488355328))).bind fun _=>some ((aX.mk 0 (List.replicate (Int.toNat p0.aY) (0:Int)))))
def zy (u:Nat)  : Option Int :=
  some (-1)
def la (u kH:Nat) (p0:List Int) (p2 x3:Int) (p1:bN):Option Int:=match kH with
  | 0=>none
  | kH+1=>bif decide ((aW .i64 x3 p2)≤((p0.length:Int))) then ((dW (dU x3 (aW .i64 x3 p2) p0.length)).bind fun _=>(kZ u ((p0.take (Int.toNat (aW .i64 x3 p2))).drop (Int.toNat x3))).bind fun r6=>bif [r6.fW,r6.fS] == [p1.fW,p1.fS] then (some x3) else ((fun z0 z1 z2 z3=>la u kH z0 z1 z2 z3) p0 p2 (aW .i64 x3 1) p1)) else (zy u)
def wq (u:Nat) (p0:List Int) (p1:bN) (p2:Int):Option Int :=
  (bH u p2 1 6).bind fun r1=>bif !r1 then (some (-1)) else (la u u p0 p2 0 p1)
def sm (u:Nat) (p0:List Int) (p1:af) (p2:Int):Option Int :=
  (jc u p1.aS p1.aY p2).bind fun r1=>(bH u p2 0 (cy .i64 ((p1.aD.length:Int)) 1)).bind fun r2=>bif !r2 then (some (-1)) else ((ci p1.aD p2).bind fun y3=>(wq u p0 y3 r1.2).bind fun r4=>some r4)
def nO (u:Nat) (p0:aX) (p1:af) (p2:Int):Option (Int×Int) :=
  (jc u p1.aS p1.aY p2).bind fun r1=>(dW (dU r1.1 (aW .i64 r1.1 r1.2) p0.bg.length)).bind fun _=>some (r1.1,aW .i64 r1.1 r1.2)
def lc (u:Nat) (p0:aX) (p1:af) (p2:Int) (p3:List Int):Option aX :=
  (nO u p0 p1 p2).bind fun r1=>(dW (VI r1.1 r1.2 p0.bg.length p3.length)).bind fun _=>(dW (decide (0≤p2))).bind fun _=>some ((aX.mk (sZ .i64 p0.aT (i7 .i64 1 p2)) (Ad p0.bg p3 (Int.toNat r1.1))))
def ws (u:Nat) (x18:Int) (x19:List Int):Option aX :=
  some ((aX.mk x18 x19))
def kB (u:Nat) (Gu:(List Int)→af→Int→Int→(List Int)→Option aX) (p1:List Int) (p0:af) (x6 x16:Int) (x17:List Int):Option aX :=
  Gu p1 p0 (aW .i64 x6 1) x16 x17
def gl (u eM:Nat) (p1:List Int) (p0:af) (x6 x7:Int) (x8:List Int):Option aX:=match eM with
  | 0=>none
  | eM+1=>bif decide (x6 < ((p0.aD.length:Int))) then ((jc u p0.aS p0.aY x6).bind fun r12=>(sm u p1 p0 x6).bind fun r13=>bif decide (r13≥0) then ((dW (dU r13 (aW .i64 r13 r12.2) p1.length)).bind fun _=>(lc u ((aX.mk x7 x8)) p0 x6 ((p1.take (Int.toNat (aW .i64 r13 r12.2))).drop (Int.toNat r13))).bind fun r15=>kB u (fun z0 z1 z2 z3 z4=>gl u eM z0 z1 z2 z3 z4) p1 p0 x6 r15.aT r15.bg) else (kB u (fun z0 z1 z2 z3 z4=>gl u eM z0 z1 z2 z3 z4) p1 p0 x6 x7 x8)) else (ws u x7 x8)
def rn (u:Nat) (p0:af) (p1:List Int):Option aX :=
  (tn u p0).bind fun r1=>(mG u p0).bind fun r2=>bif !r2 then (some r1) else (gl u u p1 p0 0 r1.aT r1.bg)
def z8 (u:Nat) (p1:List Int) (p0:af) (s:Int×(List Int)):Option aX:=(ws u s.1 s.2)
def sM (u:Nat) (p1:List Int) (p0:af) (i_:Nat) (s:Int×(List Int)) (k_:(Int×(List Int))→Option aX):Option aX:=(jc u p0.aS p0.aY (i_:Int)).bind fun r12=>(sm u p1 p0 (i_:Int)).bind fun r13=>bif decide (r13≥0) then ((dW (dU r13 (aW .i64 r13 r12.2) p1.length)).bind fun _=>(lc u ((aX.mk s.1 s.2)) p0 (i_:Int) ((p1.take (Int.toNat (aW .i64 r13 r12.2))).drop (Int.toNat r13))).bind fun r15=>kB u (fun z0 z1 z2 z3 z4=>k_ (z3,z4)) p1 p0 (i_:Int) r15.aT r15.bg) else (kB u (fun z0 z1 z2 z3 z4=>k_ (z3,z4)) p1 p0 (i_:Int) s.1 s.2)
theorem Gl (u:Nat) (p1:List Int) (p0:af) (s:Int×(List Int)) (k:Nat) (hn:(((p0.aD.length:Int)):Int)≤9223372036854775807) (hk:Int.toNat (((p0.aD.length:Int))) < k):gl u k p1 p0 0 s.1 s.2=Pu.pT (z8 u p1 p0) (sM u p1 p0) (Int.toNat (((p0.aD.length:Int)))) 0 s:=Pu.rx (fun (k:Nat) (s:Int×(List Int)) (i:Int)=>gl u k p1 p0 i s.1 s.2) hn (fun _ _ _=>rfl) s hk
def A6 (u:Nat) (p0:af) (p1:List Int):Option Bool :=
  bif ((p1.length:Int)) == p0.aY then ((uX u p1 p0.aS).bind fun r1=>(da u r1 p0.aD).bind fun r2=>some r2) else (some false)
def ro (u:Nat) (p0:aG) (p1:af):Option Bool :=
  (pB u p0).bind fun r1=>bif r1.1 == p1.aP then ((A6 u p1 r1.2).bind fun r2=>some r2) else (some false)
def lf (u:Nat) (r1:aA) (x9 x10 x11:Int) (x12:List bN) (x13:Int) (x14:List Int) (x15 x16:Int):Option aA :=
  some ((aA.mk r1.fM r1.bf r1.be ((af.mk x9 x10 x11 x12)) ((aX.mk x13 x14)) x15 r1.aO x16))
def uj (u:Nat) (x4:Bool) (p1:aG) (p2:af) (r1:aA):Option aA :=
  bif x4 then ((pB u p1).bind fun r5=>(sg u p2).bind fun r6=>(rn u p2 r5.2).bind fun r7=>(ro u p1 p2).bind fun r8=>bif r8 then (lf u r1 r6.aP r6.aS r6.aY r6.aD r7.aT r7.bg 5 r1.a8) else (lf u r1 r6.aP r6.aS r6.aY r6.aD r7.aT r7.bg 1 r1.a8)) else (lf u r1 r1.av.aP r1.av.aS r1.av.aY r1.av.aD r1.a7.aT r1.a7.bg r1.aJ r1.a8)
def wt (u:Nat) (p0:aA) (p1:aG) (p2:af):Option aA :=
  (gH u p0).bind fun r1=>bif p0.aJ != 0 then ((nK u p2 p0.av).bind fun r2=>bif !r2 then (lf u r1 r1.av.aP r1.av.aS r1.av.aY r1.av.aD r1.a7.aT r1.a7.bg r1.aJ (aW .i64 r1.a8 1)) else (lf u r1 r1.av.aP r1.av.aS r1.av.aY r1.av.aD r1.a7.aT r1.a7.bg r1.aJ r1.a8)) else ((mG u p2).bind fun r3=>bif r3 then (uj u (p2.aP != 0) p1 p2 r1) else (uj u false p1 p2 r1))
def lT (u:Nat) (p2:Int) (p3:List Int) (x7:Bool) (r1:aX) (p0:af):Option (aX×Bool) :=
  bif x7 then (some ((r1,false))) else ((lc u r1 p0 p2 p3).bind fun r8=>some ((r8,true)))
def tp (u:Nat) (p0:af) (p1:aX) (p2:Int) (p3:List Int):Option (aX×Bool) :=
  (oJ u p1).bind fun r1=>(pA u p0 p1).bind fun r2=>bif !r2 then (lT u p2 p3 true r1 p0) else ((bH u p2 0 (cy .i64 ((p0.aD.length:Int)) 1)).bind fun r3=>bif !r3 then (lT u p2 p3 true r1 p0) else ((fp u p1.aT p2).bind fun r4=>bif r4 then (lT u p2 p3 true r1 p0) else ((kZ u p3).bind fun r5=>(ci p0.aD p2).bind fun y6=>lT u p2 p3 (!([r5.fW,r5.fS] == [y6.fW,y6.fS])) r1 p0)))
def zA (u:Nat) (r1:aA) (x23:List Kid) (x24:List au):Option Act :=
  some ((Act.mk ((aA.mk r1.fM r1.bf r1.be r1.av r1.a7 r1.aJ x23 r1.a8)) x24))
def nq (u:Nat) (Ke:Int→Int→((List Int)×Bool)→aA→Int→aA→(List Kid)→(List au)→Option Act) (p1 p2:Int) (r2:(List Int)×Bool) (p0:aA) (x6:Int) (r1:aA) (x21:List Kid) (x22:List au):Option Act :=
  Ke p1 p2 r2 p0 (aW .i64 x6 1) r1 x21 x22
def je (u gq:Nat) (p1 p2:Int) (r2:(List Int)×Bool) (p0:aA) (x6:Int) (r1:aA) (x7:List Kid) (x8:List au):Option Act:=match gq with
  | 0=>none
  | gq+1=>bif decide (x6 < ((p0.aO.length:Int))) then ((ci p0.aO x6).bind fun y12=>(rj u p0).bind fun r13=>(rk u x7 y12.fd r13).bind fun r14=>(fp u r14 p2).bind fun r15=>bif r15 then ((nN u p0.av.aP p2 r2.1).bind fun r16=>(jQ u p1 y12.fd r16).bind fun r17=>(dW (decide ((x8.length+([r17]).length)*40≤140737488355328))).bind fun _=>(dW (decide (0≤p2))).bind fun _=>(nX u x7 y12.fd (i7 .i64 1 p2)).bind fun r20=>nq u (fun z0 z1 z2 z3 z4 z5 z6 z7=>je u gq z0 z1 z2 z3 z4 z5 z6 z7) p1 p2 r2 p0 x6 r1 r20 (x8++([r17]))) else (nq u (fun z0 z1 z2 z3 z4 z5 z6 z7=>je u gq z0 z1 z2 z3 z4 z5 z6 z7) p1 p2 r2 p0 x6 r1 x7 x8)) else (zA u r1 x7 x8)
def wu (u:Nat) (p0:aA) (p1 p2:Int):Option Act :=
  (gH u p0).bind fun r1=>(pD u p0.av p0.a7 p2).bind fun r2=>bif !r2.2 then (some ((Act.mk r1 ([])))) else (je u u p1 p2 r2 p0 0 r1 r1.aO ([]))
def IG (u:Nat) (p1 p2:Int) (r2:(List Int)×Bool) (p0 r1:aA) (s:(List Kid)×(List au)):Option Act:=(zA u r1 s.1 s.2)
def B0 (u:Nat) (p1 p2:Int) (r2:(List Int)×Bool) (p0 r1:aA) (y12:Kid) (i_:Nat) (s:(List Kid)×(List au)) (k_:((List Kid)×(List au))→Option Act):Option Act:=(rj u p0).bind fun r13=>(rk u s.1 y12.fd r13).bind fun r14=>(fp u r14 p2).bind fun r15=>bif r15 then ((nN u p0.av.aP p2 r2.1).bind fun r16=>(jQ u p1 y12.fd r16).bind fun r17=>(dW (decide ((s.2.length+([r17]).length)*40≤140737488355328))).bind fun _=>(dW (decide (0≤p2))).bind fun _=>(nX u s.1 y12.fd (i7 .i64 1 p2)).bind fun r20=>nq u (fun z0 z1 z2 z3 z4 z5 z6 z7=>k_ (z6,z7)) p1 p2 r2 p0 (i_:Int) r1 r20 (s.2++([r17]))) else (nq u (fun z0 z1 z2 z3 z4 z5 z6 z7=>k_ (z6,z7)) p1 p2 r2 p0 (i_:Int) r1 s.1 s.2)
theorem IH (u:Nat) (p1 p2:Int) (r2:(List Int)×Bool) (p0 r1:aA) (s:(List Kid)×(List au)) (k:Nat) (hn:p0.aO.length≤9223372036854775807) (hk:p0.aO.length < k):je u k p1 p2 r2 p0 0 r1 s.1 s.2=Pu.bt (IG u p1 p2 r2 p0 r1) (B0 u p1 p2 r2 p0 r1) p0.aO 0 s:=Pu.bP (fun (k:Nat) (s:(List Kid)×(List au)) (i:Int)=>je u k p1 p2 r2 p0 i r1 s.1 s.2) hn (fun _ _ _=>rfl) s hk
def sn (u:Nat) (p1:Int) (x2:Bool) (p0:aA) (p2:ei) (r1:aA):Option Act :=
  bif x2 then (some ((Act.mk ((aA.mk r1.fM r1.bf r1.be r1.av r1.a7 r1.aJ r1.aO (aW .i64 r1.a8 1))) ([])))) else ((fp u p0.a7.aT p2.fI).bind fun r3=>bif r3 then (some ((Act.mk r1 ([])))) else ((tp u p0.av p0.a7 p2.fI p2.fB).bind fun r4=>bif !r4.2 then (some ((Act.mk ((aA.mk r1.fM r1.bf r1.be r1.av r1.a7 r1.aJ r1.aO (aW .i64 r1.a8 1))) ([])))) else ((wu u ((aA.mk r1.fM r1.bf r1.be r1.av r4.1 r1.aJ r1.aO r1.a8)) p1 p2.fI).bind fun r5=>some r5)))
def tq (u:Nat) (p0:aA) (p1:Int) (p2:ei):Option Act :=
  (gH u p0).bind fun r1=>bif p0.aJ == 0 then (sn u p1 true p0 p2 r1) else (sn u p1 (p2.aP != p0.av.aP) p0 p2 r1)
def so (u:Nat) (r1:aA) (x4:Int):Option Act :=
  some ((Act.mk ((aA.mk r1.fM r1.bf 0 r1.av r1.a7 r1.aJ r1.aO x4)) ([])))
def tr (u:Nat) (p0:aA) (p1:Int) (p2:aG) (p3:ei):Option Act :=
  (gH u p0).bind fun r1=>bif p3.bA == 1 then ((wt u ((aA.mk r1.fM r1.bf 0 r1.av r1.a7 r1.aJ r1.aO r1.a8)) p2 p3.av).bind fun r2=>some ((Act.mk r2 ([])))) else (bif p3.bA == 3 then ((tq u ((aA.mk r1.fM r1.bf 0 r1.av r1.a7 r1.aJ r1.aO r1.a8)) p1 p3).bind fun r3=>some r3) else (bif p3.bA == 2 then (so u r1 (aW .i64 r1.a8 1)) else (so u r1 r1.a8)))
def wv (u:Nat) (p1:Int) (x4:Bool) (p2:aA) (p3:aG) (p4:au) (r1:aA) (r2:ei×Bool):Option Act :=
  bif x4 then (some ((Act.mk ((aA.mk r1.fM r1.bf r1.be r1.av r1.a7 r1.aJ r1.aO (aW .i64 r1.a8 1))) ([])))) else (bif r2.1.bA == 2 then ((pR u p2 p1 p4.du r2.1).bind fun r5=>some r5) else (bif p4.du == p2.bf then ((tr u p2 p1 p3 r2.1).bind fun r6=>some r6) else (some ((Act.mk ((aA.mk r1.fM r1.bf r1.be r1.av r1.a7 r1.aJ r1.aO (aW .i64 r1.a8 1))) ([]))))))
def C9 (u:Nat) (p0:co) (p1:Int) (p2:aA) (p3:aG) (p4:au):Option Act :=
  (gH u p2).bind fun r1=>bif !p2.fM then (some ((Act.mk r1 ([])))) else ((yM u p4.fB).bind fun r2=>bif !r2.2 then (wv u p1 true p2 p3 p4 r1 r2) else ((ef u p0 p4.du).bind fun r3=>bif !r3 then (wv u p1 true p2 p3 p4 r1 r2) else (wv u p1 (p4.du == p1) p2 p3 p4 r1 r2)))
def gI (u:Nat)  : Option Bool :=
  some true
def cQ (u cD:Nat) (p0 p1:List Kid) (x2:Int):Option Bool:=match cD with
  | 0=>none
  | cD+1=>bif decide (x2 < ((p0.length:Int))) then ((ci p0 x2).bind fun y4=>(ci p1 x2).bind fun y5=>bif !([y4.fd,y4.bx,y4.bL,y4.qP,y4.c8] == [y5.fd,y5.bx,y5.bL,y5.qP,y5.c8]) then (some false) else ((fun z0 z1 z2=>cQ u cD z0 z1 z2) p0 p1 (aW .i64 x2 1))) else (gI u)
def dI (u:Nat) (p0 p1:List Kid):Option Bool :=
  bif ((p0.length:Int)) != ((p1.length:Int)) then (some false) else (cQ u u p0 p1 0)
def sq (u:Nat) (p0 p1:List Kid) (s:Unit):Option Bool:=(gI u)
def kC (u:Nat) (p0 p1:List Kid) (y4:Kid) (i_:Nat) (s:Unit) (k_:Unit→Option Bool):Option Bool:=(ci p1 (i_:Int)).bind fun y5=>bif !([y4.fd,y4.bx,y4.bL,y4.qP,y4.c8] == [y5.fd,y5.bx,y5.bL,y5.qP,y5.c8]) then (some false) else ((fun z0 z1 z2=>k_ ()) p0 p1 (aW .i64 (i_:Int) 1))
theorem su (u:Nat) (p0 p1:List Kid) (s:Unit) (k:Nat) (hn:p0.length≤9223372036854775807) (hk:p0.length < k):cQ u k p0 p1 0=Pu.bt (sq u p0 p1) (kC u p0 p1) p0 0 s:=Pu.bP (fun (k:Nat) (s:Unit) (i:Int)=>cQ u k p0 p1 i) hn (fun _ _ _=>rfl) s hk
def qp (u:Nat) (p0 p1:aA):Option Bool :=
  bif p0.fM == p1.fM then (bif p0.bf == p1.bf then (bif p0.be == p1.be then ((nK u p0.av p1.av).bind fun r1=>bif r1 then (bif p0.a7.aT == p1.a7.aT then ((oI u p0.a7.bg p1.a7.bg).bind fun r2=>bif r2 then (bif p0.aJ == p1.aJ then ((dI u p0.aO p1.aO).bind fun r3=>bif r3 then (some (p0.a8 == p1.a8)) else (some false)) else (some false)) else (some false)) else (some false)) else (some false)) else (some false)) else (some false)) else (some false)
def An (u:Nat) (p0:co) (p1:Int) (p2:aA) (p3:aG) (p4:au):Option Bool :=
  (C9 u p0 p1 p2 p3 p4).bind fun r1=>bif ((r1.sW.length:Int)) == 0 then ((qp u ((aA.mk r1.fN.fM r1.fN.bf r1.fN.be r1.fN.av r1.fN.a7 r1.fN.aJ r1.fN.aO p2.a8)) p2).bind fun r2=>some r2) else (some false)
def iU (u:Nat) (p0:World) (p1:Int):Option Bool :=
  (ci p0.dX p1).bind fun y1=>(ci p0.fN y1.G2).bind fun y2=>(ci p0.fD y1.G2).bind fun y3=>(An u p0.fT y1.G2 y2 y3 y1).bind fun r4=>some r4
def zB (u:Nat) (x10:Int):Option Int :=
  some x10
def nr (u:Nat) (Kg:Int→World→Int→Option Int) (x9:Int) (p0:World) (x5:Int):Option Int :=
  Kg x9 p0 (aW .i64 x5 1)
def eE (u gu:Nat) (x4:Int) (p0:World) (x5:Int):Option Int:=match gu with
  | 0=>none
  | gu+1=>bif decide (x5 < ((p0.dX.length:Int))) then ((iU u p0 x5).bind fun r8=>bif r8 then (nr u (fun z0 z1 z2=>eE u gu z0 z1 z2) (aW .i64 x4 1) p0 x5) else (nr u (fun z0 z1 z2=>eE u gu z0 z1 z2) x4 p0 x5)) else (zB u x4)
def ww (u:Nat) (p0:World):Option Int :=
  (wg u p0).bind fun r1=>bif !r1 then (some 0) else (eE u u 0 p0 0)
def II (u:Nat) (p0:World) (s:Int):Option Int:=(zB u s)
def IJ (u:Nat) (p0:World) (i_:Nat) (s:Int) (k_:Int→Option Int):Option Int:=(iU u p0 (i_:Int)).bind fun r8=>bif r8 then (nr u (fun z0 z1 z2=>k_ z0) (aW .i64 s 1) p0 (i_:Int)) else (nr u (fun z0 z1 z2=>k_ z0) s p0 (i_:Int))
theorem Wx (u:Nat) (p0:World) (s:Int) (k:Nat) (hn:(((p0.dX.length:Int)):Int)≤9223372036854775807) (hk:Int.toNat (((p0.dX.length:Int))) < k):eE u k s p0 0=Pu.pT (II u p0) (IJ u p0) (Int.toNat (((p0.dX.length:Int)))) 0 s:=Pu.rx (fun (k:Nat) (s i:Int)=>eE u k s p0 i) hn (fun _ _ _=>rfl) s hk
def yN (u:Nat) (p0 p1:vm):Option Bool :=
  bif p0.aS != p1.aS then (some false) else (bif p0.gB != p1.gB then (some false) else (bif p0.eo != p1.eo then (some false) else (bif p0.ik != p1.ik then (some false) else (some true))))
def A7 (u:Nat)  : Option Bool :=
  some true
def oP (u md:Nat) (p0 p1:List Int) (x2:Int):Option Bool:=match md with
  | 0=>none
  | md+1=>bif decide (x2 < ((p0.length:Int))) then ((ci p0 x2).bind fun y4=>(ci p1 x2).bind fun y5=>bif y4 != y5 then (some false) else ((fun z0 z1 z2=>oP u md z0 z1 z2) p0 p1 (aW .i64 x2 1))) else (A7 u)
def yO (u:Nat) (p0 p1:List Int):Option Bool :=
  bif ((p0.length:Int)) != ((p1.length:Int)) then (some false) else (oP u u p0 p1 0)
def KW (u:Nat) (p0 p1:List Int) (s:Unit):Option Bool:=(A7 u)
def Da (u:Nat) (p0 p1:List Int) (y4:Int) (i_:Nat) (s:Unit) (k_:Unit→Option Bool):Option Bool:=(ci p1 (i_:Int)).bind fun y5=>bif y4 != y5 then (some false) else ((fun z0 z1 z2=>k_ ()) p0 p1 (aW .i64 (i_:Int) 1))
theorem KX (u:Nat) (p0 p1:List Int) (s:Unit) (k:Nat) (hn:p0.length≤9223372036854775807) (hk:p0.length < k):oP u k p0 p1 0=Pu.bt (KW u p0 p1) (Da u p0 p1) p0 0 s:=Pu.bP (fun (k:Nat) (s:Unit) (i:Int)=>oP u k p0 p1 i) hn (fun _ _ _=>rfl) s hk
def yP (u:Nat) (p0 p1:co):Option Bool :=
  (yO u p0.cx p1.cx).bind fun r1=>bif !r1 then (some false) else (some true)
def zC (u:Nat)  : Option Bool :=
  some true
def nt (u kJ:Nat) (p0 p1:List Int) (x2:Int):Option Bool:=match kJ with
  | 0=>none
  | kJ+1=>bif decide (x2 < ((p0.length:Int))) then ((ci p0 x2).bind fun y4=>(ci p1 x2).bind fun y5=>bif y4 != y5 then (some false) else ((fun z0 z1 z2=>nt u kJ z0 z1 z2) p0 p1 (aW .i64 x2 1))) else (zC u)
def iL (u:Nat) (p0 p1:List Int):Option Bool :=
  bif ((p0.length:Int)) != ((p1.length:Int)) then (some false) else (nt u u p0 p1 0)
def IK (u:Nat) (p0 p1:List Int) (s:Unit):Option Bool:=(zC u)
def B1 (u:Nat) (p0 p1:List Int) (y4:Int) (i_:Nat) (s:Unit) (k_:Unit→Option Bool):Option Bool:=(ci p1 (i_:Int)).bind fun y5=>bif y4 != y5 then (some false) else ((fun z0 z1 z2=>k_ ()) p0 p1 (aW .i64 (i_:Int) 1))
theorem IL (u:Nat) (p0 p1:List Int) (s:Unit) (k:Nat) (hn:p0.length≤9223372036854775807) (hk:p0.length < k):nt u k p0 p1 0=Pu.bt (IK u p0 p1) (B1 u p0 p1) p0 0 s:=Pu.bP (fun (k:Nat) (s:Unit) (i:Int)=>nt u k p0 p1 i) hn (fun _ _ _=>rfl) s hk
def sv (u:Nat) (p0 p1:ba):Option Bool :=
  (iL u p0.fB p1.fB).bind fun r1=>bif !r1 then (some false) else (some true)
def xI (u:Nat)  : Option Bool :=
  some true
def lU (u jE:Nat) (p0 p1:List ba) (x2:Int):Option Bool:=match jE with
  | 0=>none
  | jE+1=>bif decide (x2 < ((p0.length:Int))) then ((ci p0 x2).bind fun y4=>(ci p1 x2).bind fun y5=>(sv u y4 y5).bind fun r6=>bif !r6 then (some false) else ((fun z0 z1 z2=>lU u jE z0 z1 z2) p0 p1 (aW .i64 x2 1))) else (xI u)
def tu (u:Nat) (p0 p1:List ba):Option Bool :=
  bif ((p0.length:Int)) != ((p1.length:Int)) then (some false) else (lU u u p0 p1 0)
def Hg (u:Nat) (p0 p1:List ba) (s:Unit):Option Bool:=(xI u)
def A8 (u:Nat) (p0 p1:List ba) (y4:ba) (i_:Nat) (s:Unit) (k_:Unit→Option Bool):Option Bool:=(ci p1 (i_:Int)).bind fun y5=>(sv u y4 y5).bind fun r6=>bif !r6 then (some false) else ((fun z0 z1 z2=>k_ ()) p0 p1 (aW .i64 (i_:Int) 1))
theorem Hh (u:Nat) (p0 p1:List ba) (s:Unit) (k:Nat) (hn:p0.length≤9223372036854775807) (hk:p0.length < k):lU u k p0 p1 0=Pu.bt (Hg u p0 p1) (A8 u p0 p1) p0 0 s:=Pu.bP (fun (k:Nat) (s:Unit) (i:Int)=>lU u k p0 p1 i) hn (fun _ _ _=>rfl) s hk
def xJ (u:Nat) (p0 p1:bN):Option Bool :=
  bif p0.fW != p1.fW then (some false) else (bif p0.fS != p1.fS then (some false) else (some true))
def A9 (u:Nat)  : Option Bool :=
  some true
def oQ (u mh:Nat) (p0 p1:List bN) (x2:Int):Option Bool:=match mh with
  | 0=>none
  | mh+1=>bif decide (x2 < ((p0.length:Int))) then ((ci p0 x2).bind fun y4=>(ci p1 x2).bind fun y5=>(xJ u y4 y5).bind fun r6=>bif !r6 then (some false) else ((fun z0 z1 z2=>oQ u mh z0 z1 z2) p0 p1 (aW .i64 x2 1))) else (A9 u)
def yQ (u:Nat) (p0 p1:List bN):Option Bool :=
  bif ((p0.length:Int)) != ((p1.length:Int)) then (some false) else (oQ u u p0 p1 0)
def KY (u:Nat) (p0 p1:List bN) (s:Unit):Option Bool:=(A9 u)
def Db (u:Nat) (p0 p1:List bN) (y4:bN) (i_:Nat) (s:Unit) (k_:Unit→Option Bool):Option Bool:=(ci p1 (i_:Int)).bind fun y5=>(xJ u y4 y5).bind fun r6=>bif !r6 then (some false) else ((fun z0 z1 z2=>k_ ()) p0 p1 (aW .i64 (i_:Int) 1))
theorem KZ (u:Nat) (p0 p1:List bN) (s:Unit) (k:Nat) (hn:p0.length≤9223372036854775807) (hk:p0.length < k):oQ u k p0 p1 0=Pu.bt (KY u p0 p1) (Db u p0 p1) p0 0 s:=Pu.bP (fun (k:Nat) (s:Unit) (i:Int)=>oQ u k p0 p1 i) hn (fun _ _ _=>rfl) s hk
def pS (u:Nat) (p0 p1:af):Option Bool :=
  bif p0.aP != p1.aP then (some false) else (bif p0.aS != p1.aS then (some false) else (bif p0.aY != p1.aY then (some false) else ((yQ u p0.aD p1.aD).bind fun r1=>bif !r1 then (some false) else (some true))))
def wx (u:Nat) (p0 p1:aX):Option Bool :=
  bif p0.aT != p1.aT then (some false) else ((iL u p0.bg p1.bg).bind fun r1=>bif !r1 then (some false) else (some true))
def xK (u:Nat) (p0 p1:Kid):Option Bool :=
  bif p0.fd != p1.fd then (some false) else (bif p0.bx != p1.bx then (some false) else (bif p0.bL != p1.bL then (some false) else (bif p0.qP != p1.qP then (some false) else (bif p0.c8 != p1.c8 then (some false) else (some true)))))
def Ba (u:Nat)  : Option Bool :=
  some true
def oS (u mf:Nat) (p0 p1:List Kid) (x2:Int):Option Bool:=match mf with
  | 0=>none
  | mf+1=>bif decide (x2 < ((p0.length:Int))) then ((ci p0 x2).bind fun y4=>(ci p1 x2).bind fun y5=>(xK u y4 y5).bind fun r6=>bif !r6 then (some false) else ((fun z0 z1 z2=>oS u mf z0 z1 z2) p0 p1 (aW .i64 x2 1))) else (Ba u)
def yR (u:Nat) (p0 p1:List Kid):Option Bool :=
  bif ((p0.length:Int)) != ((p1.length:Int)) then (some false) else (oS u u p0 p1 0)
def K0 (u:Nat) (p0 p1:List Kid) (s:Unit):Option Bool:=(Ba u)
def Dc (u:Nat) (p0 p1:List Kid) (y4:Kid) (i_:Nat) (s:Unit) (k_:Unit→Option Bool):Option Bool:=(ci p1 (i_:Int)).bind fun y5=>(xK u y4 y5).bind fun r6=>bif !r6 then (some false) else ((fun z0 z1 z2=>k_ ()) p0 p1 (aW .i64 (i_:Int) 1))
theorem K1 (u:Nat) (p0 p1:List Kid) (s:Unit) (k:Nat) (hn:p0.length≤9223372036854775807) (hk:p0.length < k):oS u k p0 p1 0=Pu.bt (K0 u p0 p1) (Dc u p0 p1) p0 0 s:=Pu.bP (fun (k:Nat) (s:Unit) (i:Int)=>oS u k p0 p1 i) hn (fun _ _ _=>rfl) s hk
def u2 (u:Nat) (p0 p1:aA):Option Bool :=
  bif !(p0.fM == p1.fM) then (some false) else (bif p0.bf != p1.bf then (some false) else (bif p0.be != p1.be then (some false) else ((pS u p0.av p1.av).bind fun r1=>bif !r1 then (some false) else ((wx u p0.a7 p1.a7).bind fun r2=>bif !r2 then (some false) else (bif p0.aJ != p1.aJ then (some false) else ((yR u p0.aO p1.aO).bind fun r3=>bif !r3 then (some false) else (bif p0.a8 != p1.a8 then (some false) else (some true))))))))
def zD (u:Nat)  : Option Bool :=
  some true
def nu (u kL:Nat) (p0 p1:List aA) (x2:Int):Option Bool:=match kL with
  | 0=>none
  | kL+1=>bif decide (x2 < ((p0.length:Int))) then ((ci p0 x2).bind fun y4=>(ci p1 x2).bind fun y5=>(u2 u y4 y5).bind fun r6=>bif !r6 then (some false) else ((fun z0 z1 z2=>nu u kL z0 z1 z2) p0 p1 (aW .i64 x2 1))) else (zD u)
def wy (u:Nat) (p0 p1:List aA):Option Bool :=
  bif ((p0.length:Int)) != ((p1.length:Int)) then (some false) else (nu u u p0 p1 0)
def IM (u:Nat) (p0 p1:List aA) (s:Unit):Option Bool:=(zD u)
def B2 (u:Nat) (p0 p1:List aA) (y4:aA) (i_:Nat) (s:Unit) (k_:Unit→Option Bool):Option Bool:=(ci p1 (i_:Int)).bind fun y5=>(u2 u y4 y5).bind fun r6=>bif !r6 then (some false) else ((fun z0 z1 z2=>k_ ()) p0 p1 (aW .i64 (i_:Int) 1))
theorem IN (u:Nat) (p0 p1:List aA) (s:Unit) (k:Nat) (hn:p0.length≤9223372036854775807) (hk:p0.length < k):nu u k p0 p1 0=Pu.bt (IM u p0 p1) (B2 u p0 p1) p0 0 s:=Pu.bP (fun (k:Nat) (s:Unit) (i:Int)=>nu u k p0 p1 i) hn (fun _ _ _=>rfl) s hk
def qq (u:Nat) (p0 p1:c7):Option Bool :=
  bif p0.aP != p1.aP then (some false) else (bif p0.cL != p1.cL then (some false) else (bif p0.aY != p1.aY then (some false) else (some true)))
def xL (u:Nat) (p0 p1:ca):Option Bool :=
  bif p0.d1 != p1.d1 then (some false) else (bif p0.Cl != p1.Cl then (some false) else ((iL u p0.fB p1.fB).bind fun r1=>bif !r1 then (some false) else ((qq u p0.fR p1.fR).bind fun r2=>bif !r2 then (some false) else (some true))))
def Bb (u:Nat)  : Option Bool :=
  some true
def oT (u mg:Nat) (p0 p1:List ca) (x2:Int):Option Bool:=match mg with
  | 0=>none
  | mg+1=>bif decide (x2 < ((p0.length:Int))) then ((ci p0 x2).bind fun y4=>(ci p1 x2).bind fun y5=>(xL u y4 y5).bind fun r6=>bif !r6 then (some false) else ((fun z0 z1 z2=>oT u mg z0 z1 z2) p0 p1 (aW .i64 x2 1))) else (Bb u)
def yS (u:Nat) (p0 p1:List ca):Option Bool :=
  bif ((p0.length:Int)) != ((p1.length:Int)) then (some false) else (oT u u p0 p1 0)
def K2 (u:Nat) (p0 p1:List ca) (s:Unit):Option Bool:=(Bb u)
def Dd (u:Nat) (p0 p1:List ca) (y4:ca) (i_:Nat) (s:Unit) (k_:Unit→Option Bool):Option Bool:=(ci p1 (i_:Int)).bind fun y5=>(xL u y4 y5).bind fun r6=>bif !r6 then (some false) else ((fun z0 z1 z2=>k_ ()) p0 p1 (aW .i64 (i_:Int) 1))
theorem K3 (u:Nat) (p0 p1:List ca) (s:Unit) (k:Nat) (hn:p0.length≤9223372036854775807) (hk:p0.length < k):oT u k p0 p1 0=Pu.bt (K2 u p0 p1) (Dd u p0 p1) p0 0 s:=Pu.bP (fun (k:Nat) (s:Unit) (i:Int)=>oT u k p0 p1 i) hn (fun _ _ _=>rfl) s hk
def u6 (u:Nat) (p0 p1:aG):Option Bool :=
  (iL u p0.fA p1.fA).bind fun r1=>bif !r1 then (some false) else ((iL u p0.fB p1.fB).bind fun r2=>bif !r2 then (some false) else ((qq u p0.fR p1.fR).bind fun r3=>bif !r3 then (some false) else ((yS u p0.fP p1.fP).bind fun r4=>bif !r4 then (some false) else (some true))))
def zE (u:Nat)  : Option Bool :=
  some true
def nv (u kK:Nat) (p0 p1:List aG) (x2:Int):Option Bool:=match kK with
  | 0=>none
  | kK+1=>bif decide (x2 < ((p0.length:Int))) then ((ci p0 x2).bind fun y4=>(ci p1 x2).bind fun y5=>(u6 u y4 y5).bind fun r6=>bif !r6 then (some false) else ((fun z0 z1 z2=>nv u kK z0 z1 z2) p0 p1 (aW .i64 x2 1))) else (zE u)
def wz (u:Nat) (p0 p1:List aG):Option Bool :=
  bif ((p0.length:Int)) != ((p1.length:Int)) then (some false) else (nv u u p0 p1 0)
def IP (u:Nat) (p0 p1:List aG) (s:Unit):Option Bool:=(zE u)
def B3 (u:Nat) (p0 p1:List aG) (y4:aG) (i_:Nat) (s:Unit) (k_:Unit→Option Bool):Option Bool:=(ci p1 (i_:Int)).bind fun y5=>(u6 u y4 y5).bind fun r6=>bif !r6 then (some false) else ((fun z0 z1 z2=>k_ ()) p0 p1 (aW .i64 (i_:Int) 1))
theorem IQ (u:Nat) (p0 p1:List aG) (s:Unit) (k:Nat) (hn:p0.length≤9223372036854775807) (hk:p0.length < k):nv u k p0 p1 0=Pu.bt (IP u p0 p1) (B3 u p0 p1) p0 0 s:=Pu.bP (fun (k:Nat) (s:Unit) (i:Int)=>nv u k p0 p1 i) hn (fun _ _ _=>rfl) s hk
def qr (u:Nat) (p0 p1:au):Option Bool :=
  bif p0.du != p1.du then (some false) else (bif p0.G2 != p1.G2 then (some false) else ((iL u p0.fB p1.fB).bind fun r1=>bif !r1 then (some false) else (some true)))
def wA (u:Nat)  : Option Bool :=
  some true
def kD (u iX:Nat) (p0 p1:List au) (x2:Int):Option Bool:=match iX with
  | 0=>none
  | iX+1=>bif decide (x2 < ((p0.length:Int))) then ((ci p0 x2).bind fun y4=>(ci p1 x2).bind fun y5=>(qr u y4 y5).bind fun r6=>bif !r6 then (some false) else ((fun z0 z1 z2=>kD u iX z0 z1 z2) p0 p1 (aW .i64 x2 1))) else (wA u)
def rp (u:Nat) (p0 p1:List au):Option Bool :=
  bif ((p0.length:Int)) != ((p1.length:Int)) then (some false) else (kD u u p0 p1 0)
def Gm (u:Nat) (p0 p1:List au) (s:Unit):Option Bool:=(wA u)
def z9 (u:Nat) (p0 p1:List au) (y4:au) (i_:Nat) (s:Unit) (k_:Unit→Option Bool):Option Bool:=(ci p1 (i_:Int)).bind fun y5=>(qr u y4 y5).bind fun r6=>bif !r6 then (some false) else ((fun z0 z1 z2=>k_ ()) p0 p1 (aW .i64 (i_:Int) 1))
theorem Gn (u:Nat) (p0 p1:List au) (s:Unit) (k:Nat) (hn:p0.length≤9223372036854775807) (hk:p0.length < k):kD u k p0 p1 0=Pu.bt (Gm u p0 p1) (z9 u p0 p1) p0 0 s:=Pu.bP (fun (k:Nat) (s:Unit) (i:Int)=>kD u k p0 p1 i) hn (fun _ _ _=>rfl) s hk
def u7 (u:Nat) (p0 p1:dC):Option Bool :=
  bif p0.du != p1.du then (some false) else (bif p0.G2 != p1.G2 then (some false) else (bif p0.fI != p1.fI then (some false) else (some true)))
def zF (u:Nat)  : Option Bool :=
  some true
def nx (u kM:Nat) (p0 p1:List dC) (x2:Int):Option Bool:=match kM with
  | 0=>none
  | kM+1=>bif decide (x2 < ((p0.length:Int))) then ((ci p0 x2).bind fun y4=>(ci p1 x2).bind fun y5=>(u7 u y4 y5).bind fun r6=>bif !r6 then (some false) else ((fun z0 z1 z2=>nx u kM z0 z1 z2) p0 p1 (aW .i64 x2 1))) else (zF u)
def wB (u:Nat) (p0 p1:List dC):Option Bool :=
  bif ((p0.length:Int)) != ((p1.length:Int)) then (some false) else (nx u u p0 p1 0)
def IR (u:Nat) (p0 p1:List dC) (s:Unit):Option Bool:=(zF u)
def B4 (u:Nat) (p0 p1:List dC) (y4:dC) (i_:Nat) (s:Unit) (k_:Unit→Option Bool):Option Bool:=(ci p1 (i_:Int)).bind fun y5=>(u7 u y4 y5).bind fun r6=>bif !r6 then (some false) else ((fun z0 z1 z2=>k_ ()) p0 p1 (aW .i64 (i_:Int) 1))
theorem IS (u:Nat) (p0 p1:List dC) (s:Unit) (k:Nat) (hn:p0.length≤9223372036854775807) (hk:p0.length < k):nx u k p0 p1 0=Pu.bt (IR u p0 p1) (B4 u p0 p1) p0 0 s:=Pu.bP (fun (k:Nat) (s:Unit) (i:Int)=>nx u k p0 p1 i) hn (fun _ _ _=>rfl) s hk
def wC (u:Nat) (p0 p1:World):Option Bool :=
  (yN u p0.fC p1.fC).bind fun r1=>bif !r1 then (some false) else ((yP u p0.fT p1.fT).bind fun r2=>bif !r2 then (some false) else ((iL u p0.jj p1.jj).bind fun r3=>bif !r3 then (some false) else ((tu u p0.f6 p1.f6).bind fun r4=>bif !r4 then (some false) else ((wy u p0.fN p1.fN).bind fun r5=>bif !r5 then (some false) else ((wz u p0.fD p1.fD).bind fun r6=>bif !r6 then (some false) else ((rp u p0.dX p1.dX).bind fun r7=>bif !r7 then (some false) else ((wB u p0.p5 p1.p5).bind fun r8=>bif !r8 then (some false) else (bif p0.qO != p1.qO then (some false) else (some true)))))))))
def lw (u:Nat) (p0:World):Option Bool :=
  (vp u p0 1048576).bind fun r1=>bif decide (r1 < 0) then (some true) else ((pq u p0).bind fun r2=>(vW u r2).bind fun r3=>(pq u p0).bind fun r4=>(ww u r4).bind fun r5=>bif r5 != r3 then (some false) else ((pq u p0).bind fun r6=>(wC u r4 r6).bind fun r7=>bif !r7 then (some false) else (some true)))
end Go.Tm
