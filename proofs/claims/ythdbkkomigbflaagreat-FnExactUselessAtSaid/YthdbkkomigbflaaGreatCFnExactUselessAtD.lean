/- Go functions as pure functions (printed). -/
import Derived.Test.YthdbkkomigbflaaGreatCFnExactUselessAtF3
set_option maxRecDepth 100000
set_option maxHeartbeats 20000000
set_option linter.unusedVariables false
set_option linter.unusedSimpArgs false
namespace Go.Tm
structure vg where
  aS:Int
  gA:Int
  ep:Int
  ij:Int
  deriving DecidableEq
def pE (x:vg):List T:=[.int .i64 x.aS,.int .i64 x.gA,.int .i64 x.ep,.int .i64 x.ij]
def vg.wf (x:vg):Prop:=(lc .i64) x.aS∧(lc .i64) x.gA∧(lc .i64) x.ep∧(lc .i64) x.ij∧True
structure co where
  cy:List Int
  deriving DecidableEq
def g9 (x:co):List T:=[.sl 1 (x.cy.map (aw .i64))]
def co.wf (x:co):Prop:=(Hk (lc .i64)) x.cy∧True
structure ba where
  fB:List Int
  deriving DecidableEq
def bd (x:ba):List T:=[.sl 1 (x.fB.map (aw .u8))]
def ba.wf (x:ba):Prop:=(Hk (lc .u8)) x.fB∧True
structure bM where
  fW:Int
  fS:Int
  deriving DecidableEq
def aH (x:bM):List T:=[.int .i64 x.fW,.int .i64 x.fS]
def bM.wf (x:bM):Prop:=(lc .i64) x.fW∧(lc .i64) x.fS∧True
structure af where
  aP:Int
  aS:Int
  aY:Int
  aD:List bM
  deriving DecidableEq
def ai (x:af):List T:=[.int .i64 x.aP,.int .i64 x.aS,.int .i64 x.aY,.sl 2 (x.aD.map aH)]
def af.wf (x:af):Prop:=(lc .i64) x.aP∧(lc .i64) x.aS∧(lc .i64) x.aY∧(Hk bM.wf) x.aD∧True
structure aW where
  aT:Int
  bh:List Int
  deriving DecidableEq
def cJ (x:aW):List T:=[.int .i64 x.aT,.sl 1 (x.bh.map (aw .u8))]
def aW.wf (x:aW):Prop:=(lc .i64) x.aT∧(Hk (lc .u8)) x.bh∧True
structure Kid where
  fb:Int
  bw:Int
  bL:Int
  qM:Int
  c8:Int
  deriving DecidableEq
def aq (x:Kid):List T:=[.int .i64 x.fb,.int .i64 x.bw,.int .i64 x.bL,.int .i64 x.qM,.int .i64 x.c8]
def Kid.wf (x:Kid):Prop:=(lc .i64) x.fb∧(lc .i64) x.bw∧(lc .i64) x.bL∧(lc .i64) x.qM∧(lc .i64) x.c8∧True
structure aA where
  fK:Bool
  bf:Int
  be:Int
  av:af
  a7:aW
  aJ:Int
  aN:List Kid
  a8:Int
  deriving DecidableEq
def ay (x:aA):List T:=[.bool x.fK,.int .i64 x.bf,.int .i64 x.be,.int .i64 x.av.aP,.int .i64 x.av.aS,.int .i64 x.av.aY,.sl 2 (x.av.aD.map aH),.int .i64 x.a7.aT,.sl 1 (x.a7.bh.map (aw .u8)),.int .i64 x.aJ,.sl 5 (x.aN.map aq),.int .i64 x.a8]
def aA.wf (x:aA):Prop:=(fun _=>True) x.fK∧(lc .i64) x.bf∧(lc .i64) x.be∧af.wf x.av∧aW.wf x.a7∧(lc .i64) x.aJ∧(Hk Kid.wf) x.aN∧(lc .i64) x.a8∧True
structure c7 where
  aP:Int
  cL:Int
  aY:Int
  deriving DecidableEq
def fi (x:c7):List T:=[.int .i64 x.aP,.int .i64 x.cL,.int .i64 x.aY]
def c7.wf (x:c7):Prop:=(lc .i64) x.aP∧(lc .i64) x.cL∧(lc .i64) x.aY∧True
structure cd where
  dY:Int
  Cf:Int
  fB:List Int
  fR:c7
  deriving DecidableEq
def aU (x:cd):List T:=[.int .i64 x.dY,.int .i64 x.Cf,.sl 1 (x.fB.map (aw .u8)),.int .i64 x.fR.aP,.int .i64 x.fR.cL,.int .i64 x.fR.aY]
def cd.wf (x:cd):Prop:=(lc .i64) x.dY∧(lc .i64) x.Cf∧(Hk (lc .u8)) x.fB∧c7.wf x.fR∧True
structure aG where
  fA:List Int
  fB:List Int
  fR:c7
  fP:List cd
  deriving DecidableEq
def aB (x:aG):List T:=[.sl 1 (x.fA.map (aw .u8)),.sl 1 (x.fB.map (aw .u8)),.int .i64 x.fR.aP,.int .i64 x.fR.cL,.int .i64 x.fR.aY,.sl 6 (x.fP.map aU)]
def aG.wf (x:aG):Prop:=(Hk (lc .u8)) x.fA∧(Hk (lc .u8)) x.fB∧c7.wf x.fR∧(Hk cd.wf) x.fP∧True
structure au where
  du:Int
  GU:Int
  fB:List Int
  deriving DecidableEq
def aI (x:au):List T:=[.int .i64 x.du,.int .i64 x.GU,.sl 1 (x.fB.map (aw .u8))]
def au.wf (x:au):Prop:=(lc .i64) x.du∧(lc .i64) x.GU∧(Hk (lc .u8)) x.fB∧True
structure dC where
  du:Int
  GU:Int
  fI:Int
  deriving DecidableEq
def cp (x:dC):List T:=[.int .i64 x.du,.int .i64 x.GU,.int .i64 x.fI]
def dC.wf (x:dC):Prop:=(lc .i64) x.du∧(lc .i64) x.GU∧(lc .i64) x.fI∧True
structure World where
  fC:vg
  fT:co
  jh:List Int
  fZ:List ba
  fN:List aA
  fD:List aG
  eo:List au
  pX:List dC
  qL:Int
  deriving DecidableEq
def bN (x:World):List T:=[.int .i64 x.fC.aS,.int .i64 x.fC.gA,.int .i64 x.fC.ep,.int .i64 x.fC.ij,.sl 1 (x.fT.cy.map (aw .i64)),.sl 1 (x.jh.map (aw .u8)),.sl 1 (x.fZ.map bd),.sl 12 (x.fN.map ay),.sl 6 (x.fD.map aB),.sl 3 (x.eo.map aI),.sl 3 (x.pX.map cp),.int .i64 x.qL]
def World.wf (x:World):Prop:=vg.wf x.fC∧co.wf x.fT∧(Hk (lc .u8)) x.jh∧(Hk ba.wf) x.fZ∧(Hk aA.wf) x.fN∧(Hk aG.wf) x.fD∧(Hk au.wf) x.eo∧(Hk dC.wf) x.pX∧(lc .i64) x.qL∧True
structure ei where
  bz:Int
  aP:Int
  av:af
  bw:Int
  bL:Int
  fI:Int
  fB:List Int
  deriving DecidableEq
def dA (x:ei):List T:=[.int .i64 x.bz,.int .i64 x.aP,.int .i64 x.av.aP,.int .i64 x.av.aS,.int .i64 x.av.aY,.sl 2 (x.av.aD.map aH),.int .i64 x.bw,.int .i64 x.bL,.int .i64 x.fI,.sl 1 (x.fB.map (aw .u8))]
def ei.wf (x:ei):Prop:=(lc .i64) x.bz∧(lc .i64) x.aP∧af.wf x.av∧(lc .i64) x.bw∧(lc .i64) x.bL∧(lc .i64) x.fI∧(Hk (lc .u8)) x.fB∧True
structure Act where
  fN:aA
  sU:List au
  deriving DecidableEq
def tL (x:Act):List T:=[.bool x.fN.fK,.int .i64 x.fN.bf,.int .i64 x.fN.be,.int .i64 x.fN.av.aP,.int .i64 x.fN.av.aS,.int .i64 x.fN.av.aY,.sl 2 (x.fN.av.aD.map aH),.int .i64 x.fN.a7.aT,.sl 1 (x.fN.a7.bh.map (aw .u8)),.int .i64 x.fN.aJ,.sl 5 (x.fN.aN.map aq),.int .i64 x.fN.a8,.sl 3 (x.sU.map aI)]
def Act.wf (x:Act):Prop:=aA.wf x.fN∧(Hk au.wf) x.sU∧True
def Bz (u:Nat) (p0:List Int) (p1:Int):Option Int :=
  bif decide ((cu .i64 p1 ((p0.length:Int))) < 0) then (some (-1)) else (some (cu .i64 p1 ((p0.length:Int))))
def yi (u:Nat) (p0:co) (p1:Int):Option Int :=
  (Bz u p0.cy p1).bind fun r1=>bif decide (r1 < 0) then (some (-1)) else (some r1)
def gN (u:Nat) (p0:List Int) (p1:Int):Option Int :=
  bif decide ((cu .i64 p1 ((p0.length:Int))) < 0) then (some (-1)) else (some (cu .i64 p1 ((p0.length:Int))))
def rC (u:Nat) (p0:ba) (p1:Int):Option Int :=
  (gN u p0.fB p1).bind fun r1=>bif decide (r1 < 0) then (some (-1)) else (some r1)
def xe (u:Nat) (x9:Int):Option Int :=
  some x9
def jn (u jE:Nat) (p0:List ba) (x3 x4:Int):Option Int:=match jE with
  | 0=>none
  | jE+1=>bif decide (x4 < ((p0.length:Int))) then ((ci p0 x4).bind fun y7=>(rC u y7 x3).bind fun r8=>bif decide (r8 < 0) then (some (-1)) else ((fun z0 z1 z2=>jn u jE z0 z1 z2) p0 r8 (aX .i64 x4 1))) else (xe u x3)
def pY (u:Nat) (p0:List ba) (p1:Int):Option Int :=
  bif decide ((cu .i64 p1 ((p0.length:Int))) < 0) then (some (-1)) else (jn u u p0 (cu .i64 p1 ((p0.length:Int))) 0)
def GV (u:Nat) (p0:List ba) (s:Int):Option Int:=(xe u s)
def Av (u:Nat) (p0:List ba) (y7:ba) (i_:Nat) (s:Int) (k_:Int→Option Int):Option Int:=(rC u y7 s).bind fun r8=>bif decide (r8 < 0) then (some (-1)) else ((fun z0 z1 z2=>k_ z1) p0 r8 (aX .i64 (i_:Int) 1))
theorem GW (u:Nat) (p0:List ba) (s:Int) (k:Nat) (hn:p0.length≤9223372036854775807) (hk:p0.length < k):jn u k p0 s 0=Pu.bt (GV u p0) (Av u p0) p0 0 s:=Pu.bP (fun (k:Nat) (s i:Int)=>jn u k p0 s i) hn (fun _ _ _=>rfl) s hk
def BA (u:Nat) (p0:List bM) (p1:Int):Option Int :=
  bif decide ((cu .i64 p1 ((p0.length:Int))) < 0) then (some (-1)) else (some (cu .i64 p1 ((p0.length:Int))))
def pF (u:Nat) (p0:af) (p1:Int):Option Int :=
  (BA u p0.aD p1).bind fun r1=>bif decide (r1 < 0) then (some (-1)) else (some r1)
def rD (u:Nat) (p0:aW) (p1:Int):Option Int :=
  (gN u p0.bh p1).bind fun r1=>bif decide (r1 < 0) then (some (-1)) else (some r1)
def uE (u:Nat) (p0:List Kid) (p1:Int):Option Int :=
  bif decide ((cu .i64 p1 ((p0.length:Int))) < 0) then (some (-1)) else (some (cu .i64 p1 ((p0.length:Int))))
def uF (u:Nat) (p0:aA) (p1:Int):Option Int :=
  (pF u p0.av p1).bind fun r1=>bif decide (r1 < 0) then (some (-1)) else ((rD u p0.a7 r1).bind fun r2=>bif decide (r2 < 0) then (some (-1)) else ((uE u p0.aN r2).bind fun r3=>bif decide (r3 < 0) then (some (-1)) else (some r3)))
def yW (u:Nat) (x9:Int):Option Int :=
  some x9
def kU (u kM:Nat) (p0:List aA) (x3 x4:Int):Option Int:=match kM with
  | 0=>none
  | kM+1=>bif decide (x4 < ((p0.length:Int))) then ((ci p0 x4).bind fun y7=>(uF u y7 x3).bind fun r8=>bif decide (r8 < 0) then (some (-1)) else ((fun z0 z1 z2=>kU u kM z0 z1 z2) p0 r8 (aX .i64 x4 1))) else (yW u x3)
def pn (u:Nat) (p0:List aA) (p1:Int):Option Int :=
  bif decide ((cu .i64 p1 ((p0.length:Int))) < 0) then (some (-1)) else (kU u u p0 (cu .i64 p1 ((p0.length:Int))) 0)
def HX (u:Nat) (p0:List aA) (s:Int):Option Int:=(yW u s)
def BB (u:Nat) (p0:List aA) (y7:aA) (i_:Nat) (s:Int) (k_:Int→Option Int):Option Int:=(uF u y7 s).bind fun r8=>bif decide (r8 < 0) then (some (-1)) else ((fun z0 z1 z2=>k_ z1) p0 r8 (aX .i64 (i_:Int) 1))
theorem HY (u:Nat) (p0:List aA) (s:Int) (k:Nat) (hn:p0.length≤9223372036854775807) (hk:p0.length < k):kU u k p0 s 0=Pu.bt (HX u p0) (BB u p0) p0 0 s:=Pu.bP (fun (k:Nat) (s i:Int)=>kU u k p0 s i) hn (fun _ _ _=>rfl) s hk
def xg (u:Nat) (p0:cd) (p1:Int):Option Int :=
  (gN u p0.fB p1).bind fun r1=>bif decide (r1 < 0) then (some (-1)) else (some r1)
def Aw (u:Nat) (x9:Int):Option Int :=
  some x9
def my (u mh:Nat) (p0:List cd) (x3 x4:Int):Option Int:=match mh with
  | 0=>none
  | mh+1=>bif decide (x4 < ((p0.length:Int))) then ((ci p0 x4).bind fun y7=>(xg u y7 x3).bind fun r8=>bif decide (r8 < 0) then (some (-1)) else ((fun z0 z1 z2=>my u mh z0 z1 z2) p0 r8 (aX .i64 x4 1))) else (Aw u x3)
def uG (u:Nat) (p0:List cd) (p1:Int):Option Int :=
  bif decide ((cu .i64 p1 ((p0.length:Int))) < 0) then (some (-1)) else (my u u p0 (cu .i64 p1 ((p0.length:Int))) 0)
def Kf (u:Nat) (p0:List cd) (s:Int):Option Int:=(Aw u s)
def CB (u:Nat) (p0:List cd) (y7:cd) (i_:Nat) (s:Int) (k_:Int→Option Int):Option Int:=(xg u y7 s).bind fun r8=>bif decide (r8 < 0) then (some (-1)) else ((fun z0 z1 z2=>k_ z1) p0 r8 (aX .i64 (i_:Int) 1))
theorem Kg (u:Nat) (p0:List cd) (s:Int) (k:Nat) (hn:p0.length≤9223372036854775807) (hk:p0.length < k):my u k p0 s 0=Pu.bt (Kf u p0) (CB u p0) p0 0 s:=Pu.bP (fun (k:Nat) (s i:Int)=>my u k p0 s i) hn (fun _ _ _=>rfl) s hk
def uH (u:Nat) (p0:aG) (p1:Int):Option Int :=
  (gN u p0.fA p1).bind fun r1=>bif decide (r1 < 0) then (some (-1)) else ((gN u p0.fB r1).bind fun r2=>bif decide (r2 < 0) then (some (-1)) else ((uG u p0.fP r2).bind fun r3=>bif decide (r3 < 0) then (some (-1)) else (some r3)))
def yX (u:Nat) (x9:Int):Option Int :=
  some x9
def kV (u kL:Nat) (p0:List aG) (x3 x4:Int):Option Int:=match kL with
  | 0=>none
  | kL+1=>bif decide (x4 < ((p0.length:Int))) then ((ci p0 x4).bind fun y7=>(uH u y7 x3).bind fun r8=>bif decide (r8 < 0) then (some (-1)) else ((fun z0 z1 z2=>kV u kL z0 z1 z2) p0 r8 (aX .i64 x4 1))) else (yX u x3)
def nE (u:Nat) (p0:List aG) (p1:Int):Option Int :=
  bif decide ((cu .i64 p1 ((p0.length:Int))) < 0) then (some (-1)) else (kV u u p0 (cu .i64 p1 ((p0.length:Int))) 0)
def HZ (u:Nat) (p0:List aG) (s:Int):Option Int:=(yX u s)
def BC (u:Nat) (p0:List aG) (y7:aG) (i_:Nat) (s:Int) (k_:Int→Option Int):Option Int:=(uH u y7 s).bind fun r8=>bif decide (r8 < 0) then (some (-1)) else ((fun z0 z1 z2=>k_ z1) p0 r8 (aX .i64 (i_:Int) 1))
theorem H0 (u:Nat) (p0:List aG) (s:Int) (k:Nat) (hn:p0.length≤9223372036854775807) (hk:p0.length < k):kV u k p0 s 0=Pu.bt (HZ u p0) (BC u p0) p0 0 s:=Pu.bP (fun (k:Nat) (s i:Int)=>kV u k p0 s i) hn (fun _ _ _=>rfl) s hk
def pZ (u:Nat) (p0:au) (p1:Int):Option Int :=
  (gN u p0.fB p1).bind fun r1=>bif decide (r1 < 0) then (some (-1)) else (some r1)
def vj (u:Nat) (x9:Int):Option Int :=
  some x9
def iz (u iW:Nat) (p0:List au) (x3 x4:Int):Option Int:=match iW with
  | 0=>none
  | iW+1=>bif decide (x4 < ((p0.length:Int))) then ((ci p0 x4).bind fun y7=>(pZ u y7 x3).bind fun r8=>bif decide (r8 < 0) then (some (-1)) else ((fun z0 z1 z2=>iz u iW z0 z1 z2) p0 r8 (aX .i64 x4 1))) else (vj u x3)
def iA (u:Nat) (p0:List au) (p1:Int):Option Int :=
  bif decide ((cu .i64 p1 ((p0.length:Int))) < 0) then (some (-1)) else (iz u u p0 (cu .i64 p1 ((p0.length:Int))) 0)
def F3 (u:Nat) (p0:List au) (s:Int):Option Int:=(vj u s)
def zM (u:Nat) (p0:List au) (y7:au) (i_:Nat) (s:Int) (k_:Int→Option Int):Option Int:=(pZ u y7 s).bind fun r8=>bif decide (r8 < 0) then (some (-1)) else ((fun z0 z1 z2=>k_ z1) p0 r8 (aX .i64 (i_:Int) 1))
theorem F4 (u:Nat) (p0:List au) (s:Int) (k:Nat) (hn:p0.length≤9223372036854775807) (hk:p0.length < k):iz u k p0 s 0=Pu.bt (F3 u p0) (zM u p0) p0 0 s:=Pu.bP (fun (k:Nat) (s i:Int)=>iz u k p0 s i) hn (fun _ _ _=>rfl) s hk
def jK (u:Nat) (p0:List dC) (p1:Int):Option Int :=
  bif decide ((cu .i64 p1 ((p0.length:Int))) < 0) then (some (-1)) else (some (cu .i64 p1 ((p0.length:Int))))
def vk (u:Nat) (p0:World) (p1:Int):Option Int :=
  (yi u p0.fT p1).bind fun r1=>bif decide (r1 < 0) then (some (-1)) else ((gN u p0.jh r1).bind fun r2=>bif decide (r2 < 0) then (some (-1)) else ((pY u p0.fZ r2).bind fun r3=>bif decide (r3 < 0) then (some (-1)) else ((pn u p0.fN r3).bind fun r4=>bif decide (r4 < 0) then (some (-1)) else ((nE u p0.fD r4).bind fun r5=>bif decide (r5 < 0) then (some (-1)) else ((iA u p0.eo r5).bind fun r6=>bif decide (r6 < 0) then (some (-1)) else ((jK u p0.pX r6).bind fun r7=>bif decide (r7 < 0) then (some (-1)) else (some r7)))))))
def yj (u:Nat) (p0:vg):Option vg :=
  some p0
def Ax (u:Nat) (x11:List Int):Option ((List Int)) :=
  some x11
def oc (u mi:Nat) (p0 x5:List Int) (x6:Int):Option ((List Int)):=match mi with
  | 0=>none
  | mi+1=>bif decide (x6 < ((p0.length:Int))) then ((ci p0 x6).bind fun y9=>(ci x5 x6).bind fun y10=>(fun z0 z1 z2=>oc u mi z0 z1 z2) p0 (x5.set (Int.toNat x6) y9) (aX .i64 x6 1)) else (Ax u x5)
def yk (u:Nat) (p0:List Int):Option ((List Int)) :=
  (dW (decide (0≤((p0.length:Int))) && (((p0.length:Int)) == 0 || ((p0.length:Int)) == ((p0.length:Int))))).bind fun _=>(dW (decide (Int.toNat ((p0.length:Int))*8≤140737488355328))).bind fun _=>oc u u p0 (List.replicate (Int.toNat ((p0.length:Int))) (0:Int)) 0
def Kh (u:Nat) (p0:List Int) (s:(List Int)):Option ((List Int)):=(Ax u s)
def CC (u:Nat) (p0:List Int) (y9:Int) (i_:Nat) (s:(List Int)) (k_:((List Int))→Option ((List Int))):Option ((List Int)):=(ci s (i_:Int)).bind fun y10=>(fun z0 z1 z2=>k_ z1) p0 (s.set (Int.toNat (i_:Int)) y9) (aX .i64 (i_:Int) 1)
theorem Ki (u:Nat) (p0:List Int) (s:(List Int)) (k:Nat) (hn:p0.length≤9223372036854775807) (hk:p0.length < k):oc u k p0 s 0=Pu.bt (Kh u p0) (CC u p0) p0 0 s:=Pu.bP (fun (k:Nat) (s:(List Int)) (i:Int)=>oc u k p0 s i) hn (fun _ _ _=>rfl) s hk
def ym (u:Nat) (p0:co):Option co :=
  (yk u p0.cy).bind fun r1=>some ((co.mk r1))
def yY (u:Nat) (x11:List Int):Option ((List Int)) :=
  some x11
def m2 (u kN:Nat) (p0 x5:List Int) (x6:Int):Option ((List Int)):=match kN with
  | 0=>none
  | kN+1=>bif decide (x6 < ((p0.length:Int))) then ((ci p0 x6).bind fun y9=>(ci x5 x6).bind fun y10=>(fun z0 z1 z2=>m2 u kN z0 z1 z2) p0 (x5.set (Int.toNat x6) y9) (aX .i64 x6 1)) else (yY u x5)
def iB (u:Nat) (p0:List Int):Option ((List Int)) :=
  (dW (decide (0≤((p0.length:Int))) && (((p0.length:Int)) == 0 || ((p0.length:Int)) == ((p0.length:Int))))).bind fun _=>(dW (decide (Int.toNat ((p0.length:Int))*1≤140737488355328))).bind fun _=>m2 u u p0 (List.replicate (Int.toNat ((p0.length:Int))) (0:Int)) 0
def H1 (u:Nat) (p0:List Int) (s:(List Int)):Option ((List Int)):=(yY u s)
def BD (u:Nat) (p0:List Int) (y9:Int) (i_:Nat) (s:(List Int)) (k_:((List Int))→Option ((List Int))):Option ((List Int)):=(ci s (i_:Int)).bind fun y10=>(fun z0 z1 z2=>k_ z1) p0 (s.set (Int.toNat (i_:Int)) y9) (aX .i64 (i_:Int) 1)
theorem H2 (u:Nat) (p0:List Int) (s:(List Int)) (k:Nat) (hn:p0.length≤9223372036854775807) (hk:p0.length < k):m2 u k p0 s 0=Pu.bt (H1 u p0) (BD u p0) p0 0 s:=Pu.bP (fun (k:Nat) (s:(List Int)) (i:Int)=>m2 u k p0 s i) hn (fun _ _ _=>rfl) s hk
def rE (u:Nat) (p0:ba):Option ba :=
  (iB u p0.fB).bind fun r1=>some ((ba.mk r1))
def xh (u:Nat) (x12:List ba):Option ((List ba)) :=
  some x12
def lQ (u jF:Nat) (p0 x5:List ba) (x6:Int):Option ((List ba)):=match jF with
  | 0=>none
  | jF+1=>bif decide (x6 < ((p0.length:Int))) then ((ci p0 x6).bind fun y9=>(rE u y9).bind fun r10=>(ci x5 x6).bind fun y11=>(fun z0 z1 z2=>lQ u jF z0 z1 z2) p0 (x5.set (Int.toNat x6) r10) (aX .i64 x6 1)) else (xh u x5)
def sW (u:Nat) (p0:List ba):Option ((List ba)) :=
  (dW (decide (0≤((p0.length:Int))) && (((p0.length:Int)) == 0 || ((p0.length:Int)) == ((p0.length:Int))))).bind fun _=>(dW (decide (Int.toNat ((p0.length:Int))*24≤140737488355328))).bind fun _=>lQ u u p0 (List.replicate (Int.toNat ((p0.length:Int))) ((ba.mk ([])):ba)) 0
def GX (u:Nat) (p0:List ba) (s:(List ba)):Option ((List ba)):=(xh u s)
def Ay (u:Nat) (p0:List ba) (y9:ba) (i_:Nat) (s:(List ba)) (k_:((List ba))→Option ((List ba))):Option ((List ba)):=(rE u y9).bind fun r10=>(ci s (i_:Int)).bind fun y11=>(fun z0 z1 z2=>k_ z1) p0 (s.set (Int.toNat (i_:Int)) r10) (aX .i64 (i_:Int) 1)
theorem GY (u:Nat) (p0:List ba) (s:(List ba)) (k:Nat) (hn:p0.length≤9223372036854775807) (hk:p0.length < k):lQ u k p0 s 0=Pu.bt (GX u p0) (Ay u p0) p0 0 s:=Pu.bP (fun (k:Nat) (s:(List ba)) (i:Int)=>lQ u k p0 s i) hn (fun _ _ _=>rfl) s hk
def xi (u:Nat) (p0:bM):Option bM :=
  some p0
def Az (u:Nat) (x12:List bM):Option ((List bM)) :=
  some x12
def od (u mm:Nat) (p0 x5:List bM) (x6:Int):Option ((List bM)):=match mm with
  | 0=>none
  | mm+1=>bif decide (x6 < ((p0.length:Int))) then ((ci p0 x6).bind fun y9=>(xi u y9).bind fun r10=>(ci x5 x6).bind fun y11=>(fun z0 z1 z2=>od u mm z0 z1 z2) p0 (x5.set (Int.toNat x6) r10) (aX .i64 x6 1)) else (Az u x5)
def yn (u:Nat) (p0:List bM):Option ((List bM)) :=
  (dW (decide (0≤((p0.length:Int))) && (((p0.length:Int)) == 0 || ((p0.length:Int)) == ((p0.length:Int))))).bind fun _=>(dW (decide (Int.toNat ((p0.length:Int))*16≤140737488355328))).bind fun _=>od u u p0 (List.replicate (Int.toNat ((p0.length:Int))) ((bM.mk 0 0):bM)) 0
def Kj (u:Nat) (p0:List bM) (s:(List bM)):Option ((List bM)):=(Az u s)
def CD (u:Nat) (p0:List bM) (y9:bM) (i_:Nat) (s:(List bM)) (k_:((List bM))→Option ((List bM))):Option ((List bM)):=(xi u y9).bind fun r10=>(ci s (i_:Int)).bind fun y11=>(fun z0 z1 z2=>k_ z1) p0 (s.set (Int.toNat (i_:Int)) r10) (aX .i64 (i_:Int) 1)
theorem Kk (u:Nat) (p0:List bM) (s:(List bM)) (k:Nat) (hn:p0.length≤9223372036854775807) (hk:p0.length < k):od u k p0 s 0=Pu.bt (Kj u p0) (CD u p0) p0 0 s:=Pu.bP (fun (k:Nat) (s:(List bM)) (i:Int)=>od u k p0 s i) hn (fun _ _ _=>rfl) s hk
def pG (u:Nat) (p0:af):Option af :=
  (yn u p0.aD).bind fun r1=>some ((af.mk p0.aP p0.aS p0.aY r1))
def vm (u:Nat) (p0:aW):Option aW :=
  (iB u p0.bh).bind fun r1=>some ((aW.mk p0.aT r1))
def xj (u:Nat) (p0:Kid):Option Kid :=
  some p0
def AA (u:Nat) (x12:List Kid):Option ((List Kid)) :=
  some x12
def oe (u mj:Nat) (p0 x5:List Kid) (x6:Int):Option ((List Kid)):=match mj with
  | 0=>none
  | mj+1=>bif decide (x6 < ((p0.length:Int))) then ((ci p0 x6).bind fun y9=>(xj u y9).bind fun r10=>(ci x5 x6).bind fun y11=>(fun z0 z1 z2=>oe u mj z0 z1 z2) p0 (x5.set (Int.toNat x6) r10) (aX .i64 x6 1)) else (AA u x5)
def yo (u:Nat) (p0:List Kid):Option ((List Kid)) :=
  (dW (decide (0≤((p0.length:Int))) && (((p0.length:Int)) == 0 || ((p0.length:Int)) == ((p0.length:Int))))).bind fun _=>(dW (decide (Int.toNat ((p0.length:Int))*40≤140737488355328))).bind fun _=>oe u u p0 (List.replicate (Int.toNat ((p0.length:Int))) ((Kid.mk 0 0 0 0 0):Kid)) 0
def Kl (u:Nat) (p0:List Kid) (s:(List Kid)):Option ((List Kid)):=(AA u s)
def CE (u:Nat) (p0:List Kid) (y9:Kid) (i_:Nat) (s:(List Kid)) (k_:((List Kid))→Option ((List Kid))):Option ((List Kid)):=(xj u y9).bind fun r10=>(ci s (i_:Int)).bind fun y11=>(fun z0 z1 z2=>k_ z1) p0 (s.set (Int.toNat (i_:Int)) r10) (aX .i64 (i_:Int) 1)
theorem Km (u:Nat) (p0:List Kid) (s:(List Kid)) (k:Nat) (hn:p0.length≤9223372036854775807) (hk:p0.length < k):oe u k p0 s 0=Pu.bt (Kl u p0) (CE u p0) p0 0 s:=Pu.bP (fun (k:Nat) (s:(List Kid)) (i:Int)=>oe u k p0 s i) hn (fun _ _ _=>rfl) s hk
def uI (u:Nat) (p0:aA):Option aA :=
  (pG u p0.av).bind fun r1=>(vm u p0.a7).bind fun r2=>(yo u p0.aN).bind fun r3=>some ((aA.mk p0.fK p0.bf p0.be r1 r2 p0.aJ r3 p0.a8))
def yZ (u:Nat) (x12:List aA):Option ((List aA)) :=
  some x12
def m3 (u kP:Nat) (p0 x5:List aA) (x6:Int):Option ((List aA)):=match kP with
  | 0=>none
  | kP+1=>bif decide (x6 < ((p0.length:Int))) then ((ci p0 x6).bind fun y9=>(uI u y9).bind fun r10=>(ci x5 x6).bind fun y11=>(fun z0 z1 z2=>m3 u kP z0 z1 z2) p0 (x5.set (Int.toNat x6) r10) (aX .i64 x6 1)) else (yZ u x5)
def vn (u:Nat) (p0:List aA):Option ((List aA)) :=
  (dW (decide (0≤((p0.length:Int))) && (((p0.length:Int)) == 0 || ((p0.length:Int)) == ((p0.length:Int))))).bind fun _=>(dW (decide (Int.toNat ((p0.length:Int))*144≤140737488355328))).bind fun _=>m3 u u p0 (List.replicate (Int.toNat ((p0.length:Int))) ((aA.mk false 0 0 ((af.mk 0 0 0 ([]))) ((aW.mk 0 ([]))) 0 ([]) 0):aA)) 0
def H3 (u:Nat) (p0:List aA) (s:(List aA)):Option ((List aA)):=(yZ u s)
def BE (u:Nat) (p0:List aA) (y9:aA) (i_:Nat) (s:(List aA)) (k_:((List aA))→Option ((List aA))):Option ((List aA)):=(uI u y9).bind fun r10=>(ci s (i_:Int)).bind fun y11=>(fun z0 z1 z2=>k_ z1) p0 (s.set (Int.toNat (i_:Int)) r10) (aX .i64 (i_:Int) 1)
theorem H4 (u:Nat) (p0:List aA) (s:(List aA)) (k:Nat) (hn:p0.length≤9223372036854775807) (hk:p0.length < k):m3 u k p0 s 0=Pu.bt (H3 u p0) (BE u p0) p0 0 s:=Pu.bP (fun (k:Nat) (s:(List aA)) (i:Int)=>m3 u k p0 s i) hn (fun _ _ _=>rfl) s hk
def p5 (u:Nat) (p0:c7):Option c7 :=
  some p0
def xk (u:Nat) (p0:cd):Option cd :=
  (iB u p0.fB).bind fun r1=>(p5 u p0.fR).bind fun r2=>some ((cd.mk p0.dY p0.Cf r1 r2))
def AB (u:Nat) (x12:List cd):Option ((List cd)) :=
  some x12
def og (u ml:Nat) (p0 x5:List cd) (x6:Int):Option ((List cd)):=match ml with
  | 0=>none
  | ml+1=>bif decide (x6 < ((p0.length:Int))) then ((ci p0 x6).bind fun y9=>(xk u y9).bind fun r10=>(ci x5 x6).bind fun y11=>(fun z0 z1 z2=>og u ml z0 z1 z2) p0 (x5.set (Int.toNat x6) r10) (aX .i64 x6 1)) else (AB u x5)
def yp (u:Nat) (p0:List cd):Option ((List cd)) :=
  (dW (decide (0≤((p0.length:Int))) && (((p0.length:Int)) == 0 || ((p0.length:Int)) == ((p0.length:Int))))).bind fun _=>(dW (decide (Int.toNat ((p0.length:Int))*64≤140737488355328))).bind fun _=>og u u p0 (List.replicate (Int.toNat ((p0.length:Int))) ((cd.mk 0 0 ([]) ((c7.mk 0 0 0))):cd)) 0
def Kn (u:Nat) (p0:List cd) (s:(List cd)):Option ((List cd)):=(AB u s)
def CF (u:Nat) (p0:List cd) (y9:cd) (i_:Nat) (s:(List cd)) (k_:((List cd))→Option ((List cd))):Option ((List cd)):=(xk u y9).bind fun r10=>(ci s (i_:Int)).bind fun y11=>(fun z0 z1 z2=>k_ z1) p0 (s.set (Int.toNat (i_:Int)) r10) (aX .i64 (i_:Int) 1)
theorem Ko (u:Nat) (p0:List cd) (s:(List cd)) (k:Nat) (hn:p0.length≤9223372036854775807) (hk:p0.length < k):og u k p0 s 0=Pu.bt (Kn u p0) (CF u p0) p0 0 s:=Pu.bP (fun (k:Nat) (s:(List cd)) (i:Int)=>og u k p0 s i) hn (fun _ _ _=>rfl) s hk
def uJ (u:Nat) (p0:aG):Option aG :=
  (iB u p0.fA).bind fun r1=>(iB u p0.fB).bind fun r2=>(p5 u p0.fR).bind fun r3=>(yp u p0.fP).bind fun r4=>some ((aG.mk r1 r2 r3 r4))
def y0 (u:Nat) (x12:List aG):Option ((List aG)) :=
  some x12
def m4 (u kO:Nat) (p0 x5:List aG) (x6:Int):Option ((List aG)):=match kO with
  | 0=>none
  | kO+1=>bif decide (x6 < ((p0.length:Int))) then ((ci p0 x6).bind fun y9=>(uJ u y9).bind fun r10=>(ci x5 x6).bind fun y11=>(fun z0 z1 z2=>m4 u kO z0 z1 z2) p0 (x5.set (Int.toNat x6) r10) (aX .i64 x6 1)) else (y0 u x5)
def vo (u:Nat) (p0:List aG):Option ((List aG)) :=
  (dW (decide (0≤((p0.length:Int))) && (((p0.length:Int)) == 0 || ((p0.length:Int)) == ((p0.length:Int))))).bind fun _=>(dW (decide (Int.toNat ((p0.length:Int))*96≤140737488355328))).bind fun _=>m4 u u p0 (List.replicate (Int.toNat ((p0.length:Int))) ((aG.mk ([]) ([]) ((c7.mk 0 0 0)) ([])):aG)) 0
def H5 (u:Nat) (p0:List aG) (s:(List aG)):Option ((List aG)):=(y0 u s)
def BF (u:Nat) (p0:List aG) (y9:aG) (i_:Nat) (s:(List aG)) (k_:((List aG))→Option ((List aG))):Option ((List aG)):=(uJ u y9).bind fun r10=>(ci s (i_:Int)).bind fun y11=>(fun z0 z1 z2=>k_ z1) p0 (s.set (Int.toNat (i_:Int)) r10) (aX .i64 (i_:Int) 1)
theorem H6 (u:Nat) (p0:List aG) (s:(List aG)) (k:Nat) (hn:p0.length≤9223372036854775807) (hk:p0.length < k):m4 u k p0 s 0=Pu.bt (H5 u p0) (BF u p0) p0 0 s:=Pu.bP (fun (k:Nat) (s:(List aG)) (i:Int)=>m4 u k p0 s i) hn (fun _ _ _=>rfl) s hk
def p6 (u:Nat) (p0:au):Option au :=
  (iB u p0.fB).bind fun r1=>some ((au.mk p0.du p0.GU r1))
def vp (u:Nat) (x12:List au):Option ((List au)) :=
  some x12
def ko (u iX:Nat) (p0 x5:List au) (x6:Int):Option ((List au)):=match iX with
  | 0=>none
  | iX+1=>bif decide (x6 < ((p0.length:Int))) then ((ci p0 x6).bind fun y9=>(p6 u y9).bind fun r10=>(ci x5 x6).bind fun y11=>(fun z0 z1 z2=>ko u iX z0 z1 z2) p0 (x5.set (Int.toNat x6) r10) (aX .i64 x6 1)) else (vp u x5)
def qN (u:Nat) (p0:List au):Option ((List au)) :=
  (dW (decide (0≤((p0.length:Int))) && (((p0.length:Int)) == 0 || ((p0.length:Int)) == ((p0.length:Int))))).bind fun _=>(dW (decide (Int.toNat ((p0.length:Int))*40≤140737488355328))).bind fun _=>ko u u p0 (List.replicate (Int.toNat ((p0.length:Int))) ((au.mk 0 0 ([])):au)) 0
def F5 (u:Nat) (p0:List au) (s:(List au)):Option ((List au)):=(vp u s)
def zN (u:Nat) (p0:List au) (y9:au) (i_:Nat) (s:(List au)) (k_:((List au))→Option ((List au))):Option ((List au)):=(p6 u y9).bind fun r10=>(ci s (i_:Int)).bind fun y11=>(fun z0 z1 z2=>k_ z1) p0 (s.set (Int.toNat (i_:Int)) r10) (aX .i64 (i_:Int) 1)
theorem F6 (u:Nat) (p0:List au) (s:(List au)) (k:Nat) (hn:p0.length≤9223372036854775807) (hk:p0.length < k):ko u k p0 s 0=Pu.bt (F5 u p0) (zN u p0) p0 0 s:=Pu.bP (fun (k:Nat) (s:(List au)) (i:Int)=>ko u k p0 s i) hn (fun _ _ _=>rfl) s hk
def uK (u:Nat) (p0:dC):Option dC :=
  some p0
def za (u:Nat) (x12:List dC):Option ((List dC)) :=
  some x12
def m5 (u kQ:Nat) (p0 x5:List dC) (x6:Int):Option ((List dC)):=match kQ with
  | 0=>none
  | kQ+1=>bif decide (x6 < ((p0.length:Int))) then ((ci p0 x6).bind fun y9=>(uK u y9).bind fun r10=>(ci x5 x6).bind fun y11=>(fun z0 z1 z2=>m5 u kQ z0 z1 z2) p0 (x5.set (Int.toNat x6) r10) (aX .i64 x6 1)) else (za u x5)
def vq (u:Nat) (p0:List dC):Option ((List dC)) :=
  (dW (decide (0≤((p0.length:Int))) && (((p0.length:Int)) == 0 || ((p0.length:Int)) == ((p0.length:Int))))).bind fun _=>(dW (decide (Int.toNat ((p0.length:Int))*24≤140737488355328))).bind fun _=>m5 u u p0 (List.replicate (Int.toNat ((p0.length:Int))) ((dC.mk 0 0 0):dC)) 0
def H7 (u:Nat) (p0:List dC) (s:(List dC)):Option ((List dC)):=(za u s)
def BG (u:Nat) (p0:List dC) (y9:dC) (i_:Nat) (s:(List dC)) (k_:((List dC))→Option ((List dC))):Option ((List dC)):=(uK u y9).bind fun r10=>(ci s (i_:Int)).bind fun y11=>(fun z0 z1 z2=>k_ z1) p0 (s.set (Int.toNat (i_:Int)) r10) (aX .i64 (i_:Int) 1)
theorem H8 (u:Nat) (p0:List dC) (s:(List dC)) (k:Nat) (hn:p0.length≤9223372036854775807) (hk:p0.length < k):m5 u k p0 s 0=Pu.bt (H7 u p0) (BG u p0) p0 0 s:=Pu.bP (fun (k:Nat) (s:(List dC)) (i:Int)=>m5 u k p0 s i) hn (fun _ _ _=>rfl) s hk
def po (u:Nat) (p0:World):Option World :=
  (yj u p0.fC).bind fun r1=>(ym u p0.fT).bind fun r2=>(iB u p0.jh).bind fun r3=>(sW u p0.fZ).bind fun r4=>(vn u p0.fN).bind fun r5=>(vo u p0.fD).bind fun r6=>(qN u p0.eo).bind fun r7=>(vq u p0.pX).bind fun r8=>some ((World.mk r1 r2 r3 r4 r5 r6 r7 r8 p0.qL))
def bB (u:Nat) (p0 p1 p2:Int):Option Bool :=
  bif decide (p0≥p1) then (some (decide (p0≤p2))) else (some false)
def yq (u:Nat) (p0:vg):Option Bool :=
  (bB u p0.aS 2 6).bind fun r1=>bif r1 then ((bB u p0.gA 1 40).bind fun r2=>bif r2 then ((bB u p0.ep 1 5).bind fun r3=>bif r3 then ((bB u p0.ij 2 8).bind fun r4=>some r4) else (some false)) else (some false)) else (some false)
def AC (u:Nat)  : Option Bool :=
  some true
def jV (u mt:Nat) (x5:Int) (p0:co):Option Bool:=match mt with
  | 0=>none
  | mt+1=>bif decide (x5 < ((p0.cy.length:Int))) then ((ci p0.cy x5).bind fun y7=>(bB u y7 0 (cu .i64 x5 1)).bind fun r8=>bif !r8 then (some false) else ((fun z0 z1=>jV u mt z0 z1) (aX .i64 x5 1) p0)) else (AC u)
def vt (u:Nat) (x3:Bool) (p0:co):Option Bool :=
  bif x3 then (some false) else (jV u u 1 p0)
def uL (u:Nat) (p0:co):Option Bool :=
  (bB u ((p0.cy.length:Int)) 1 7).bind fun r1=>bif !r1 then (vt u true p0) else ((ci p0.cy 0).bind fun y2=>vt u (y2 != (-1)) p0)
def CG (u:Nat) (p0:co) (s:Unit):Option Bool:=(AC u)
def xm (u:Nat) (p0:co) (y7:Int) (i_:Nat) (s:Unit) (k_:Unit→Option Bool):Option Bool:=(bB u y7 0 (cu .i64 (i_:Int) 1)).bind fun r8=>bif !r8 then (some false) else ((fun z0 z1=>k_ ()) (aX .i64 (i_:Int) 1) p0)
theorem WM (u:Nat) (p0:co) (s:Unit) (k:Nat) (hn:p0.cy.length≤9223372036854775807) (hk:p0.cy.length < k):jV u k 0 p0=Pu.bt (CG u p0) (xm u p0) p0.cy 0 s:=Pu.bP (fun (k:Nat) (s:Unit) (i:Int)=>jV u k i p0) hn (fun _ _ _=>rfl) s hk
def o7 (u:Nat) (p0 p1:Int):Option Bool :=
  (bB u p0 2 6).bind fun r1=>bif r1 then ((bB u p1 0 (gR .i64 p0 40)).bind fun r2=>some r2) else (some false)
def zb (u:Nat) (p0:List ba) (p1:Int):Option Bool :=
  some (((p0.length:Int)) == p1)
def m6 (u kT:Nat) (p0:List ba) (p1 x2:Int):Option Bool:=match kT with
  | 0=>none
  | kT+1=>bif decide (x2 < ((p0.length:Int))) then ((ci p0 x2).bind fun y4=>bif decide (((y4.fB.length:Int)) > 240) then (some false) else ((fun z0 z1 z2=>m6 u kT z0 z1 z2) p0 p1 (aX .i64 x2 1))) else (zb u p0 p1)
def vu (u:Nat) (p0:List ba) (p1:Int):Option Bool :=
  m6 u u p0 p1 0
def H9 (u:Nat) (p0:List ba) (p1:Int) (s:Unit):Option Bool:=(zb u p0 p1)
def BH (u:Nat) (p0:List ba) (p1:Int) (y4:ba) (i_:Nat) (s:Unit) (k_:Unit→Option Bool):Option Bool:=bif decide (((y4.fB.length:Int)) > 240) then (some false) else ((fun z0 z1 z2=>k_ ()) p0 p1 (aX .i64 (i_:Int) 1))
theorem Ia (u:Nat) (p0:List ba) (p1:Int) (s:Unit) (k:Nat) (hn:p0.length≤9223372036854775807) (hk:p0.length < k):m6 u k p0 p1 0=Pu.bt (H9 u p0 p1) (BH u p0 p1) p0 0 s:=Pu.bP (fun (k:Nat) (s:Unit) (i:Int)=>m6 u k p0 p1 i) hn (fun _ _ _=>rfl) s hk
def tM (u:Nat) (p0 p1:Int) (x3:Bool):Option Int :=
  bif x3 then (some 0) else ((dW (!(p1 == 0))).bind fun _=>some (Vx .i64 (cu .i64 (aX .i64 p0 p1) 1) p1))
def vw (u:Nat) (p0 p1:Int):Option Int :=
  (bB u p0 0 1000000000000).bind fun r1=>bif !r1 then (tM u p0 p1 true) else ((bB u p1 1 1000000000000).bind fun r2=>tM u p0 p1 (!r2))
def o8 (u:Nat) (p0 p1:Int):Option Int :=
  (o7 u p0 p1).bind fun r1=>bif !r1 then (some 0) else ((vw u p1 p0).bind fun r2=>some r2)
def AD (u:Nat) (p0 p1:Int):Option Int :=
  bif decide (p1 < p0) then (some p1) else (some p0)
def f0 (u:Nat) (p0 p1 p2:Int):Option (Int×Int) :=
  (o8 u p0 p1).bind fun r1=>(bB u p2 0 (cu .i64 r1 1)).bind fun r2=>bif !r2 then (some ((0,0))) else ((AD u p0 (cu .i64 p1 (gR .i64 p2 p0))).bind fun r3=>some ((gR .i64 p2 p0,r3)))
def rF (u:Nat) (p0:List Int) (p1 p2:Int):Option ((List Int)×Bool) :=
  (f0 u p1 ((p0.length:Int)) p2).bind fun r1=>bif r1.2 == 0 then (some ((([]:List Int),false))) else ((dW (dU r1.1 (aX .i64 r1.1 r1.2) p0.length)).bind fun _=>(dW (decide (((([]:List Int)).length+((p0.take (Int.toNat (aX .i64 r1.1 r1.2))).drop (Int.toNat r1.1)).length)*1≤140737488355328))).bind fun _=>some (((([]:List Int))++((p0.take (Int.toNat (aX .i64 r1.1 r1.2))).drop (Int.toNat r1.1)),true)))
def qO (u:Nat) (x11 x12:Int):Option Int :=
  some (aX .i64 x11 (gR .i64 251 x12))
def oh (u mu:Nat) (p0:List Int) (x4 x5 x6:Int):Option Int:=match mu with
  | 0=>none
  | mu+1=>bif decide (x6 < ((p0.length:Int))) then ((ci p0 x6).bind fun y10=>(fun z0 z1 z2 z3=>oh u mu z0 z1 z2 z3) p0 (rt .i64 (aX .i64 x4 (IntKind.wrap .i64 y10)) 251) (rt .i64 (aX .i64 x5 (rt .i64 (aX .i64 x4 (IntKind.wrap .i64 y10)) 251)) 251) (aX .i64 x6 1)) else (qO u x4 x5)
def o9 (u:Nat) (p0:List Int):Option Int :=
  oh u u p0 0 0 0
def CH (u:Nat) (p0:List Int) (s:Int×Int):Option Int:=(qO u s.1 s.2)
def xn (u:Nat) (p0:List Int) (y10:Int) (i_:Nat) (s:Int×Int) (k_:(Int×Int)→Option Int):Option Int:=(fun z0 z1 z2 z3=>k_ (z1,z2)) p0 (rt .i64 (aX .i64 s.1 (IntKind.wrap .i64 y10)) 251) (rt .i64 (aX .i64 s.2 (rt .i64 (aX .i64 s.1 (IntKind.wrap .i64 y10)) 251)) 251) (aX .i64 (i_:Int) 1)
theorem Kp (u:Nat) (p0:List Int) (s:Int×Int) (k:Nat) (hn:p0.length≤9223372036854775807) (hk:p0.length < k):oh u k p0 s.1 s.2 0=Pu.bt (CH u p0) (xn u p0) p0 0 s:=Pu.bP (fun (k:Nat) (s:Int×Int) (i:Int)=>oh u k p0 s.1 s.2 i) hn (fun _ _ _=>rfl) s hk
def sZ (u:Nat) (p0:List Int) (x8:Int):Option bM :=
  (o9 u p0).bind fun r9=>some ((bM.mk r9 x8))
def p7 (u nA:Nat) (p0:List Int) (x3 x4:Int):Option bM:=match nA with
  | 0=>none
  | nA+1=>bif decide (x4 < ((p0.length:Int))) then ((ci p0 x4).bind fun y7=>(fun z0 z1 z2=>p7 u nA z0 z1 z2) p0 (aX .i64 (gR .i64 256 x3) (IntKind.wrap .i64 y7)) (aX .i64 x4 1)) else (sZ u p0 x3)
def gY (u:Nat) (p0:List Int):Option bM :=
  bif decide (((p0.length:Int)) > 6) then (some ((bM.mk 0 0))) else (p7 u u p0 1 0)
def D9 (u:Nat) (p0:List Int) (s:Int):Option bM:=(sZ u p0 s)
def zd (u:Nat) (p0:List Int) (y7:Int) (i_:Nat) (s:Int) (k_:Int→Option bM):Option bM:=(fun z0 z1 z2=>k_ z1) p0 (aX .i64 (gR .i64 256 s) (IntKind.wrap .i64 y7)) (aX .i64 (i_:Int) 1)
theorem MJ (u:Nat) (p0:List Int) (s:Int) (k:Nat) (hn:p0.length≤9223372036854775807) (hk:p0.length < k):p7 u k p0 s 0=Pu.bt (D9 u p0) (zd u p0) p0 0 s:=Pu.bP (fun (k:Nat) (s i:Int)=>p7 u k p0 s i) hn (fun _ _ _=>rfl) s hk
def AE (u:Nat) (x10:List bM):Option ((List bM)) :=
  some x10
def oj (u ms:Nat) (p0:List Int) (p1:Int) (x3:List bM) (x4:Int):Option ((List bM)):=match ms with
  | 0=>none
  | ms+1=>(o8 u p1 ((p0.length:Int))).bind fun r7=>bif decide (x4 < r7) then ((rF u p0 p1 x4).bind fun r8=>(gY u r8.1).bind fun r9=>(dW (decide ((x3.length+([r9]).length)*16≤140737488355328))).bind fun _=>(fun z0 z1 z2 z3=>oj u ms z0 z1 z2 z3) p0 p1 (x3++([r9])) (aX .i64 x4 1)) else (AE u x3)
def uM (u:Nat) (p0:List Int) (p1:Int):Option ((List bM)) :=
  oj u u p0 p1 (([]:List bM)) 0
def xO (u:Nat) (p0:Int) (p1:List Int) (p2:Int) (x3:Bool):Option af :=
  bif x3 then (some ((af.mk 0 0 0 ([])))) else ((uM u p1 p2).bind fun r4=>some ((af.mk p0 p2 ((p1.length:Int)) r4)))
def AF (u:Nat) (p0:Int) (p1:List Int) (p2:Int):Option af :=
  (bB u p0 1 1000000).bind fun r1=>bif !r1 then (xO u p0 p1 p2 true) else ((o7 u p2 ((p1.length:Int))).bind fun r2=>xO u p0 p1 p2 (!r2))
def AG (u:Nat) (p0:World):Option af :=
  (AF u 1 p0.jh p0.fC.aS).bind fun r1=>some r1
def un (u:Nat)  : Option Bool :=
  some true
def jo (u ig:Nat) (p0 p1:List bM) (x2:Int):Option Bool:=match ig with
  | 0=>none
  | ig+1=>bif decide (x2 < ((p0.length:Int))) then ((ci p0 x2).bind fun y4=>(ci p1 x2).bind fun y5=>bif !([y4.fW,y4.fS] == [y5.fW,y5.fS]) then (some false) else ((fun z0 z1 z2=>jo u ig z0 z1 z2) p0 p1 (aX .i64 x2 1))) else (un u)
def m7 (u:Nat) (p0 p1:List bM):Option Bool :=
  bif ((p0.length:Int)) != ((p1.length:Int)) then (some false) else (jo u u p0 p1 0)
def EJ (u:Nat) (p0 p1:List bM) (s:Unit):Option Bool:=(un u)
def yr (u:Nat) (p0 p1:List bM) (y4:bM) (i_:Nat) (s:Unit) (k_:Unit→Option Bool):Option Bool:=(ci p1 (i_:Int)).bind fun y5=>bif !([y4.fW,y4.fS] == [y5.fW,y5.fS]) then (some false) else ((fun z0 z1 z2=>k_ ()) p0 p1 (aX .i64 (i_:Int) 1))
theorem EK (u:Nat) (p0 p1:List bM) (s:Unit) (k:Nat) (hn:p0.length≤9223372036854775807) (hk:p0.length < k):jo u k p0 p1 0=Pu.bt (EJ u p0 p1) (yr u p0 p1) p0 0 s:=Pu.bP (fun (k:Nat) (s:Unit) (i:Int)=>jo u k p0 p1 i) hn (fun _ _ _=>rfl) s hk
def jL (u:Nat) (p0 p1:af):Option Bool :=
  bif p0.aP == p1.aP then (bif p0.aS == p1.aS then (bif p0.aY == p1.aY then ((m7 u p0.aD p1.aD).bind fun r1=>some r1) else (some false)) else (some false)) else (some false)
def rG (u:Nat) (p0:aA):Option Bool :=
  (jL u p0.av ((af.mk 0 0 0 ([])))).bind fun r1=>bif r1 then (bif p0.a7.aT == 0 then (some (((p0.a7.bh.length:Int)) == 0)) else (some false)) else (some false)
def vz (u:Nat) (x11:List Int):Option ((List Int)) :=
  some x11
def qP (u:Nat) (Mk:Int→(List Int)→co→Option ((List Int))) (x3:Int) (x4:List Int) (x8:Bool) (p0:co):Option ((List Int)) :=
  bif x8 then ((dW (decide ((x4.length+(([x3]:List Int)).length)*8≤140737488355328))).bind fun _=>(ci p0.cy x3).bind fun y10=>Mk y10 (x4++(([x3]:List Int))) p0) else (vz u x4)
def iC (u ie:Nat) (x3:Int) (x4:List Int) (p0:co):Option ((List Int)):=match ie with
  | 0=>none
  | ie+1=>(bB u x3 0 (cu .i64 ((p0.cy.length:Int)) 1)).bind fun r7=>bif r7 then (qP u (fun z0 z1 z2=>iC u ie z0 z1 z2) x3 x4 (decide (((x4.length:Int)) < ((p0.cy.length:Int)))) p0) else (qP u (fun z0 z1 z2=>iC u ie z0 z1 z2) x3 x4 false p0)
def yu (u:Nat) (p0:co) (p1:Int):Option ((List Int)) :=
  iC u u p1 (([]:List Int)) p0
def AH (u:Nat)  : Option Bool :=
  some false
def ol (u mv:Nat) (p0:List Int) (p1 x2:Int):Option Bool:=match mv with
  | 0=>none
  | mv+1=>bif decide (x2 < ((p0.length:Int))) then ((ci p0 x2).bind fun y4=>bif y4 == p1 then (some true) else ((fun z0 z1 z2=>ol u mv z0 z1 z2) p0 p1 (aX .i64 x2 1))) else (AH u)
def yv (u:Nat) (p0:List Int) (p1:Int):Option Bool :=
  ol u u p0 p1 0
def CI (u:Nat) (p0:List Int) (p1:Int) (s:Unit):Option Bool:=(AH u)
def xo (u:Nat) (p0:List Int) (p1 y4:Int) (i_:Nat) (s:Unit) (k_:Unit→Option Bool):Option Bool:=bif y4 == p1 then (some true) else ((fun z0 z1 z2=>k_ ()) p0 p1 (aX .i64 (i_:Int) 1))
theorem Kr (u:Nat) (p0:List Int) (p1:Int) (s:Unit) (k:Nat) (hn:p0.length≤9223372036854775807) (hk:p0.length < k):ol u k p0 p1 0=Pu.bt (CI u p0 p1) (xo u p0 p1) p0 0 s:=Pu.bP (fun (k:Nat) (s:Unit) (i:Int)=>ol u k p0 p1 i) hn (fun _ _ _=>rfl) s hk
def p8 (u:Nat) (p0:co) (p1 p2:Int):Option Bool :=
  bif p1 != p2 then ((yu u p0 p2).bind fun r1=>(yv u r1 p1).bind fun r2=>some r2) else (some false)
def cz (u:Nat) (p0:Int):Option Bool :=
  (bB u p0 0 1099511627775).bind fun r1=>some r1
def AI (u:Nat)  : Option Bool :=
  some true
def cm (u:Nat) (Mi:(List Kid)→Int→Option Bool) (p0:List Kid) (x2:Int) (x22:Bool):Option Bool :=
  bif x22 then (some false) else (Mi p0 (aX .i64 x2 1))
def df (u cK:Nat) (p0:List Kid) (x2:Int):Option Bool:=match cK with
  | 0=>none
  | cK+1=>bif decide (x2 < ((p0.length:Int))) then ((ci p0 x2).bind fun y4=>(bB u y4.fb 0 6).bind fun r5=>bif !r5 then (cm u (fun z0 z1=>df u cK z0 z1) p0 x2 true) else (bif decide (x2 > 0) then ((ci p0 (cu .i64 x2 1)).bind fun y6=>(ci p0 x2).bind fun y7=>bif decide (y6.fb≥y7.fb) then (cm u (fun z0 z1=>df u cK z0 z1) p0 x2 true) else ((ci p0 x2).bind fun y8=>(cz u y8.bw).bind fun r9=>bif !r9 then (cm u (fun z0 z1=>df u cK z0 z1) p0 x2 true) else ((ci p0 x2).bind fun y10=>(cz u y10.bL).bind fun r11=>bif !r11 then (cm u (fun z0 z1=>df u cK z0 z1) p0 x2 true) else ((ci p0 x2).bind fun y12=>(cz u y12.c8).bind fun r13=>bif !r13 then (cm u (fun z0 z1=>df u cK z0 z1) p0 x2 true) else ((ci p0 x2).bind fun y14=>cm u (fun z0 z1=>df u cK z0 z1) p0 x2 (decide (y14.qM < 0))))))) else ((ci p0 x2).bind fun y15=>(cz u y15.bw).bind fun r16=>bif !r16 then (cm u (fun z0 z1=>df u cK z0 z1) p0 x2 true) else ((ci p0 x2).bind fun y17=>(cz u y17.bL).bind fun r18=>bif !r18 then (cm u (fun z0 z1=>df u cK z0 z1) p0 x2 true) else ((ci p0 x2).bind fun y19=>(cz u y19.c8).bind fun r20=>bif !r20 then (cm u (fun z0 z1=>df u cK z0 z1) p0 x2 true) else ((ci p0 x2).bind fun y21=>cm u (fun z0 z1=>df u cK z0 z1) p0 x2 (decide (y21.qM < 0)))))))) else (AI u)
def pa (u:Nat) (p0:List Kid):Option Bool :=
  df u u p0 0
def Ks (u:Nat) (p0:List Kid) (s:Unit):Option Bool:=(AI u)
def CJ (u:Nat) (p0:List Kid) (y4:Kid) (i_:Nat) (s:Unit) (k_:Unit→Option Bool):Option Bool:=(bB u y4.fb 0 6).bind fun r5=>bif !r5 then (cm u (fun z0 z1=>k_ ()) p0 (i_:Int) true) else (bif decide ((i_:Int) > 0) then ((ci p0 (cu .i64 (i_:Int) 1)).bind fun y6=>(ci p0 (i_:Int)).bind fun y7=>bif decide (y6.fb≥y7.fb) then (cm u (fun z0 z1=>k_ ()) p0 (i_:Int) true) else ((ci p0 (i_:Int)).bind fun y8=>(cz u y8.bw).bind fun r9=>bif !r9 then (cm u (fun z0 z1=>k_ ()) p0 (i_:Int) true) else ((ci p0 (i_:Int)).bind fun y10=>(cz u y10.bL).bind fun r11=>bif !r11 then (cm u (fun z0 z1=>k_ ()) p0 (i_:Int) true) else ((ci p0 (i_:Int)).bind fun y12=>(cz u y12.c8).bind fun r13=>bif !r13 then (cm u (fun z0 z1=>k_ ()) p0 (i_:Int) true) else ((ci p0 (i_:Int)).bind fun y14=>cm u (fun z0 z1=>k_ ()) p0 (i_:Int) (decide (y14.qM < 0))))))) else ((ci p0 (i_:Int)).bind fun y15=>(cz u y15.bw).bind fun r16=>bif !r16 then (cm u (fun z0 z1=>k_ ()) p0 (i_:Int) true) else ((ci p0 (i_:Int)).bind fun y17=>(cz u y17.bL).bind fun r18=>bif !r18 then (cm u (fun z0 z1=>k_ ()) p0 (i_:Int) true) else ((ci p0 (i_:Int)).bind fun y19=>(cz u y19.c8).bind fun r20=>bif !r20 then (cm u (fun z0 z1=>k_ ()) p0 (i_:Int) true) else ((ci p0 (i_:Int)).bind fun y21=>cm u (fun z0 z1=>k_ ()) p0 (i_:Int) (decide (y21.qM < 0)))))))
theorem Kt (u:Nat) (p0:List Kid) (s:Unit) (k:Nat) (hn:p0.length≤9223372036854775807) (hk:p0.length < k):df u k p0 0=Pu.bt (Ks u p0) (CJ u p0) p0 0 s:=Pu.bP (fun (k:Nat) (s:Unit) (i:Int)=>df u k p0 i) hn (fun _ _ _=>rfl) s hk
def ze (u:Nat) (x8:List Int):Option ((List Int)×Bool) :=
  some ((x8,true))
def m8 (u kR:Nat) (x4:Int) (x5:List Int):Option ((List Int)×Bool):=match kR with
  | 0=>none
  | kR+1=>bif decide (x4 > 1) then (bif decide (x4 < 256) then (some ((([]:List Int),false))) else ((dW (decide (((([IntKind.wrap .u8 (fx .i64 x4 255)]:List Int)).length+x5.length)*1≤140737488355328))).bind fun _=>(fun z0 z1=>m8 u kR z0 z1) (nY .i64 x4 8) ((([IntKind.wrap .u8 (fx .i64 x4 255)]:List Int))++x5))) else (ze u x5)
def pp (u:Nat) (p0:Int):Option ((List Int)×Bool) :=
  (bB u p0 1 562949953421311).bind fun r1=>bif !r1 then (some ((([]:List Int),false))) else (m8 u u p0 (([]:List Int)))
def Cg (u:Nat)  : Option Bool :=
  some true
def lE (u:Nat) (OK:Int→af→Option Bool) (x6:Int) (x13:Bool) (p0:af):Option Bool :=
  bif x13 then (some false) else (OK (aX .i64 x6 1) p0)
def jM (u gX:Nat) (x6:Int) (p0:af):Option Bool:=match gX with
  | 0=>none
  | gX+1=>bif decide (x6 < ((p0.aD.length:Int))) then ((ci p0.aD x6).bind fun y8=>(pp u y8.fS).bind fun r9=>(f0 u p0.aS p0.aY x6).bind fun r10=>bif !r9.2 then (lE u (fun z0 z1=>jM u gX z0 z1) x6 true p0) else (bif ((r9.1.length:Int)) != r10.2 then (lE u (fun z0 z1=>jM u gX z0 z1) x6 true p0) else ((gY u r9.1).bind fun r11=>(ci p0.aD x6).bind fun y12=>lE u (fun z0 z1=>jM u gX z0 z1) x6 (!([r11.fW,r11.fS] == [y12.fW,y12.fS])) p0))) else (Cg u)
def s0 (u:Nat) (x4:Bool) (p0:af):Option Bool :=
  bif x4 then (some false) else (jM u u 0 p0)
def jp (u:Nat) (p0:af):Option Bool :=
  bif p0.aP == 0 then (bif p0.aS == 0 then (bif p0.aY == 0 then (some (((p0.aD.length:Int)) == 0)) else (some false)) else (some false)) else ((bB u p0.aP 1 1000000).bind fun r1=>bif !r1 then (s0 u true p0) else ((o7 u p0.aS p0.aY).bind fun r2=>bif !r2 then (s0 u true p0) else ((o8 u p0.aS p0.aY).bind fun r3=>s0 u (((p0.aD.length:Int)) != r3) p0)))
def Ea (u:Nat) (p0:af) (s:Unit):Option Bool:=(Cg u)
def zf (u:Nat) (p0:af) (y8:bM) (i_:Nat) (s:Unit) (k_:Unit→Option Bool):Option Bool:=(pp u y8.fS).bind fun r9=>(f0 u p0.aS p0.aY (i_:Int)).bind fun r10=>bif !r9.2 then (lE u (fun z0 z1=>k_ ()) (i_:Int) true p0) else (bif ((r9.1.length:Int)) != r10.2 then (lE u (fun z0 z1=>k_ ()) (i_:Int) true p0) else ((gY u r9.1).bind fun r11=>(ci p0.aD (i_:Int)).bind fun y12=>lE u (fun z0 z1=>k_ ()) (i_:Int) (!([r11.fW,r11.fS] == [y12.fW,y12.fS])) p0))
theorem MK (u:Nat) (p0:af) (s:Unit) (k:Nat) (hn:p0.aD.length≤9223372036854775807) (hk:p0.aD.length < k):jM u k 0 p0=Pu.bt (Ea u p0) (zf u p0) p0.aD 0 s:=Pu.bP (fun (k:Nat) (s:Unit) (i:Int)=>jM u k i p0) hn (fun _ _ _=>rfl) s hk
def rH (u:Nat) (p0:Int):Option Int :=
  (bB u p0 0 40).bind fun r1=>bif !r1 then (some 0) else ((dW (decide (0≤p0))).bind fun _=>some (cu .i64 (i4 .i64 1 p0) 1))
def p9 (u:Nat) (p0:af):Option Int :=
  (rH u ((p0.aD.length:Int))).bind fun r1=>some r1
def tN (u:Nat) (p0 p1:Int) (x3:Bool):Option Int :=
  bif x3 then (some 0) else (some (Aj .i64 p0 p1))
def rI (u:Nat) (p0 p1:Int):Option Int :=
  (cz u p0).bind fun r1=>bif !r1 then (tN u p0 p1 true) else ((cz u p1).bind fun r2=>tN u p0 p1 (!r2))
def fU (u:Nat) (p0 p1:Int):Option Bool :=
  (cz u p0).bind fun r1=>bif r1 then ((bB u p1 0 39).bind fun r2=>bif r2 then ((dW (decide (0≤p1))).bind fun _=>some ((fx .i64 (nY .i64 p0 p1) 1) == 1)) else (some false)) else (some false)
def AJ (u:Nat)  : Option Bool :=
  some true
def om (u mw:Nat) (p0:List Int) (x2:Int):Option Bool:=match mw with
  | 0=>none
  | mw+1=>bif decide (x2 < ((p0.length:Int))) then ((ci p0 x2).bind fun y4=>bif y4 != 0 then (some false) else ((fun z0 z1=>om u mw z0 z1) p0 (aX .i64 x2 1))) else (AJ u)
def pb (u:Nat) (p0:List Int):Option Bool :=
  om u u p0 0
def Ku (u:Nat) (p0:List Int) (s:Unit):Option Bool:=(AJ u)
def CK (u:Nat) (p0:List Int) (y4:Int) (i_:Nat) (s:Unit) (k_:Unit→Option Bool):Option Bool:=bif y4 != 0 then (some false) else ((fun z0 z1=>k_ ()) p0 (aX .i64 (i_:Int) 1))
theorem Kv (u:Nat) (p0:List Int) (s:Unit) (k:Nat) (hn:p0.length≤9223372036854775807) (hk:p0.length < k):om u k p0 0=Pu.bt (Ku u p0) (CK u p0) p0 0 s:=Pu.bP (fun (k:Nat) (s:Unit) (i:Int)=>om u k p0 i) hn (fun _ _ _=>rfl) s hk
def zg (u:Nat)  : Option Bool :=
  some true
def dZ (u:Nat) (J9:Int→af→aW→Option Bool) (x7:Int) (x18:Bool) (p0:af) (p1:aW):Option Bool :=
  bif x18 then (some false) else (J9 (aX .i64 x7 1) p0 p1)
def ez (u dQ:Nat) (x7:Int) (p0:af) (p1:aW):Option Bool:=match dQ with
  | 0=>none
  | dQ+1=>bif decide (x7 < ((p0.aD.length:Int))) then ((f0 u p0.aS p0.aY x7).bind fun r9=>(dW (dU r9.1 (aX .i64 r9.1 r9.2) p1.bh.length)).bind fun _=>(fU u p1.aT x7).bind fun r11=>bif r11 then ((gY u ((p1.bh.take (Int.toNat (aX .i64 r9.1 r9.2))).drop (Int.toNat r9.1))).bind fun r12=>(ci p0.aD x7).bind fun y13=>bif !([r12.fW,r12.fS] == [y13.fW,y13.fS]) then (dZ u (fun z0 z1 z2=>ez u dQ z0 z1 z2) x7 true p0 p1) else ((fU u p1.aT x7).bind fun r14=>bif !r14 then ((pb u ((p1.bh.take (Int.toNat (aX .i64 r9.1 r9.2))).drop (Int.toNat r9.1))).bind fun r15=>dZ u (fun z0 z1 z2=>ez u dQ z0 z1 z2) x7 (!r15) p0 p1) else (dZ u (fun z0 z1 z2=>ez u dQ z0 z1 z2) x7 false p0 p1))) else ((fU u p1.aT x7).bind fun r16=>bif !r16 then ((pb u ((p1.bh.take (Int.toNat (aX .i64 r9.1 r9.2))).drop (Int.toNat r9.1))).bind fun r17=>dZ u (fun z0 z1 z2=>ez u dQ z0 z1 z2) x7 (!r17) p0 p1) else (dZ u (fun z0 z1 z2=>ez u dQ z0 z1 z2) x7 false p0 p1))) else (zg u)
def m9 (u:Nat) (x5:Bool) (p0:af) (p1:aW):Option Bool :=
  bif x5 then (some false) else (ez u u 0 p0 p1)
def nF (u:Nat) (p0:af) (p1:aW):Option Bool :=
  (jp u p0).bind fun r1=>bif !r1 then (m9 u true p0 p1) else ((cz u p1.aT).bind fun r2=>bif !r2 then (m9 u true p0 p1) else ((p9 u p0).bind fun r3=>(rI u p1.aT r3).bind fun r4=>bif r4 != 0 then (m9 u true p0 p1) else (m9 u (((p1.bh.length:Int)) != p0.aY) p0 p1)))
def Ib (u:Nat) (p0:af) (p1:aW) (s:Unit):Option Bool:=(zg u)
def BI (u:Nat) (p0:af) (p1:aW) (i_:Nat) (s:Unit) (k_:Unit→Option Bool):Option Bool:=(f0 u p0.aS p0.aY (i_:Int)).bind fun r9=>(dW (dU r9.1 (aX .i64 r9.1 r9.2) p1.bh.length)).bind fun _=>(fU u p1.aT (i_:Int)).bind fun r11=>bif r11 then ((gY u ((p1.bh.take (Int.toNat (aX .i64 r9.1 r9.2))).drop (Int.toNat r9.1))).bind fun r12=>(ci p0.aD (i_:Int)).bind fun y13=>bif !([r12.fW,r12.fS] == [y13.fW,y13.fS]) then (dZ u (fun z0 z1 z2=>k_ ()) (i_:Int) true p0 p1) else ((fU u p1.aT (i_:Int)).bind fun r14=>bif !r14 then ((pb u ((p1.bh.take (Int.toNat (aX .i64 r9.1 r9.2))).drop (Int.toNat r9.1))).bind fun r15=>dZ u (fun z0 z1 z2=>k_ ()) (i_:Int) (!r15) p0 p1) else (dZ u (fun z0 z1 z2=>k_ ()) (i_:Int) false p0 p1))) else ((fU u p1.aT (i_:Int)).bind fun r16=>bif !r16 then ((pb u ((p1.bh.take (Int.toNat (aX .i64 r9.1 r9.2))).drop (Int.toNat r9.1))).bind fun r17=>dZ u (fun z0 z1 z2=>k_ ()) (i_:Int) (!r17) p0 p1) else (dZ u (fun z0 z1 z2=>k_ ()) (i_:Int) false p0 p1))
theorem Ic (u:Nat) (p0:af) (p1:aW) (s:Unit) (k:Nat) (hn:(((p0.aD.length:Int)):Int)≤9223372036854775807) (hk:Int.toNat (((p0.aD.length:Int))) < k):ez u k 0 p0 p1=Pu.qz (Ib u p0 p1) (BI u p0 p1) (Int.toNat (((p0.aD.length:Int)))) 0 s:=Pu.sN (fun (k:Nat) (s:Unit) (i:Int)=>ez u k i p0 p1) hn (fun _ _ _=>rfl) s hk
def vA (u:Nat) (p0:af) (p1:aW):Option Int :=
  (p9 u p0).bind fun r1=>(rI u r1 p1.aT).bind fun r2=>some r2
def AK (u:Nat) (p0:af) (p1:aW):Option Bool :=
  bif p0.aP != 0 then ((nF u p0 p1).bind fun r1=>bif r1 then ((vA u p0 p1).bind fun r2=>some (r2 == 0)) else (some false)) else (some false)
def qQ (u:Nat) (p2:aA):Option Bool :=
  bif p2.aJ == 0 then ((rG u p2).bind fun r18=>some r18) else (bif p2.aJ == 1 then (bif p2.av.aP != 0 then ((nF u p2.av p2.a7).bind fun r19=>some r19) else (some false)) else ((bB u p2.aJ 2 6).bind fun r20=>bif r20 then ((AK u p2.av p2.a7).bind fun r21=>some r21) else (some false)))
def oo (u:Nat) (Mj:Int→Int→co→aA→Option Bool) (p1 x13:Int) (x17:Bool) (p0:co) (p2:aA):Option Bool :=
  bif x17 then (some false) else (Mj p1 (aX .i64 x13 1) p0 p2)
def iD (u ic:Nat) (p1 x13:Int) (p0:co) (p2:aA):Option Bool:=match ic with
  | 0=>none
  | ic+1=>bif decide (x13 < ((p2.aN.length:Int))) then ((ci p2.aN x13).bind fun y15=>bif y15.fb == p1 then (oo u (fun z0 z1 z2 z3=>iD u ic z0 z1 z2 z3) p1 x13 true p0 p2) else ((ci p2.aN x13).bind fun y16=>oo u (fun z0 z1 z2 z3=>iD u ic z0 z1 z2 z3) p1 x13 (decide (y16.fb≥((p0.cy.length:Int)))) p0 p2)) else (qQ u p2)
def cr (u:Nat) (p1:Int) (x11:Bool) (p0:co) (p2:aA):Option Bool :=
  bif x11 then (some false) else (iD u u p1 0 p0 p2)
def vB (u:Nat) (p1:Int) (x3:Bool) (p0:co) (p2:aA):Option Bool :=
  bif x3 then (some false) else (bif !p2.fK then (bif p2.bf == 0 then (bif p2.be == 0 then ((rG u p2).bind fun r4=>bif r4 then (bif p2.aJ == 0 then (bif ((p2.aN.length:Int)) == 0 then (some (p2.a8 == 0)) else (some false)) else (some false)) else (some false)) else (some false)) else (some false)) else (bif p1 == 0 then (bif p2.bf != (-1) then (cr u p1 true p0 p2) else (bif decide (p1 > 0) then ((p8 u p0 p2.bf p1).bind fun r5=>bif !r5 then (cr u p1 true p0 p2) else (bif decide (p2.be < 0) then (cr u p1 true p0 p2) else (bif decide (p2.a8 < 0) then (cr u p1 true p0 p2) else (bif !((p2.aJ == 6) == (p1 == 0)) then (cr u p1 true p0 p2) else ((pa u p2.aN).bind fun r6=>cr u p1 (!r6) p0 p2))))) else (bif decide (p2.be < 0) then (cr u p1 true p0 p2) else (bif decide (p2.a8 < 0) then (cr u p1 true p0 p2) else (bif !((p2.aJ == 6) == (p1 == 0)) then (cr u p1 true p0 p2) else ((pa u p2.aN).bind fun r7=>cr u p1 (!r7) p0 p2)))))) else (bif decide (p1 > 0) then ((p8 u p0 p2.bf p1).bind fun r8=>bif !r8 then (cr u p1 true p0 p2) else (bif decide (p2.be < 0) then (cr u p1 true p0 p2) else (bif decide (p2.a8 < 0) then (cr u p1 true p0 p2) else (bif !((p2.aJ == 6) == (p1 == 0)) then (cr u p1 true p0 p2) else ((pa u p2.aN).bind fun r9=>cr u p1 (!r9) p0 p2))))) else (bif decide (p2.be < 0) then (cr u p1 true p0 p2) else (bif decide (p2.a8 < 0) then (cr u p1 true p0 p2) else (bif !((p2.aJ == 6) == (p1 == 0)) then (cr u p1 true p0 p2) else ((pa u p2.aN).bind fun r10=>cr u p1 (!r10) p0 p2)))))))
def uN (u:Nat) (p0:co) (p1:Int) (p2:aA):Option Bool :=
  (uL u p0).bind fun r1=>bif !r1 then (vB u p1 true p0 p2) else ((bB u p1 0 (cu .i64 ((p0.cy.length:Int)) 1)).bind fun r2=>vB u p1 (!r2) p0 p2)
def Kw (u:Nat) (p1:Int) (p0:co) (p2:aA) (s:Unit):Option Bool:=(qQ u p2)
def CL (u:Nat) (p1:Int) (p0:co) (p2:aA) (y15:Kid) (i_:Nat) (s:Unit) (k_:Unit→Option Bool):Option Bool:=bif y15.fb == p1 then (oo u (fun z0 z1 z2 z3=>k_ ()) p1 (i_:Int) true p0 p2) else ((ci p2.aN (i_:Int)).bind fun y16=>oo u (fun z0 z1 z2 z3=>k_ ()) p1 (i_:Int) (decide (y16.fb≥((p0.cy.length:Int)))) p0 p2)
theorem Kx (u:Nat) (p1:Int) (p0:co) (p2:aA) (s:Unit) (k:Nat) (hn:p2.aN.length≤9223372036854775807) (hk:p2.aN.length < k):iD u k p1 0 p0 p2=Pu.bt (Kw u p1 p0 p2) (CL u p1 p0 p2) p2.aN 0 s:=Pu.bP (fun (k:Nat) (s:Unit) (i:Int)=>iD u k p1 i p0 p2) hn (fun _ _ _=>rfl) s hk
def qa (u:Nat) (p0:c7):Option Bool :=
  (bB u p0.aP 0 1000000).bind fun r1=>bif r1 then ((bB u p0.cL 0 1).bind fun r2=>bif r2 then ((bB u p0.aY 0 240).bind fun r3=>some r3) else (some false)) else (some false)
def pc (u:Nat) (p0:aG) (p1:Int):Option ((List Int)) :=
  bif p1 == 1 then (some p0.fB) else (some p0.fA)
def uo (u:Nat) (p0:cd):Option Bool :=
  bif p0.dY == 2 then (bif p0.Cf == 0 then (bif ((p0.fB.length:Int)) == 0 then ((qa u p0.fR).bind fun r1=>some r1) else (some false)) else (some false)) else ((bB u p0.dY 0 1).bind fun r2=>bif r2 then ((bB u p0.Cf 0 240).bind fun r3=>bif r3 then (bif decide (((p0.fB.length:Int))≤(cu .i64 240 p0.Cf)) then (some ([p0.fR.aP,p0.fR.cL,p0.fR.aY] == [0,0,0])) else (some false)) else (some false)) else (some false))
def AL (u:Nat)  : Option Bool :=
  some true
def mz (u mn:Nat) (x5:Int) (p0:aG):Option Bool:=match mn with
  | 0=>none
  | mn+1=>bif decide (x5 < ((p0.fP.length:Int))) then ((ci p0.fP x5).bind fun y7=>(uo u y7).bind fun r8=>bif !r8 then (some false) else ((fun z0 z1=>mz u mn z0 z1) (aX .i64 x5 1) p0)) else (AL u)
def mA (u:Nat) (x3:Bool) (p0:aG):Option Bool :=
  bif x3 then (some false) else (mz u u 0 p0)
def pd (u:Nat) (p0:aG):Option Bool :=
  bif decide (((p0.fA.length:Int)) > 240) then (mA u true p0) else (bif decide (((p0.fB.length:Int)) > 240) then (mA u true p0) else ((qa u p0.fR).bind fun r1=>bif !r1 then (mA u true p0) else ((pc u p0 p0.fR.cL).bind fun r2=>bif decide (p0.fR.aY > ((r2.length:Int))) then (mA u true p0) else (mA u (decide (((p0.fP.length:Int)) > 200)) p0))))
def CM (u:Nat) (p0:aG) (s:Unit):Option Bool:=(AL u)
def xp (u:Nat) (p0:aG) (y7:cd) (i_:Nat) (s:Unit) (k_:Unit→Option Bool):Option Bool:=(uo u y7).bind fun r8=>bif !r8 then (some false) else ((fun z0 z1=>k_ ()) (aX .i64 (i_:Int) 1) p0)
theorem Ky (u:Nat) (p0:aG) (s:Unit) (k:Nat) (hn:p0.fP.length≤9223372036854775807) (hk:p0.fP.length < k):mz u k 0 p0=Pu.bt (CM u p0) (xp u p0) p0.fP 0 s:=Pu.bP (fun (k:Nat) (s:Unit) (i:Int)=>mz u k i p0) hn (fun _ _ _=>rfl) s hk
def rJ (u:Nat) (p0:aG):Option (Int×(List Int)) :=
  (pd u p0).bind fun r1=>bif !r1 then (some ((0,([]:List Int)))) else ((pc u p0 p0.fR.cL).bind fun r2=>(dW (dU 0 p0.fR.aY r2.length)).bind fun _=>(dW (decide (((([]:List Int)).length+((r2.take (Int.toNat p0.fR.aY)).drop (Int.toNat 0)).length)*1≤140737488355328))).bind fun _=>some ((p0.fR.aP,(([]:List Int))++((r2.take (Int.toNat p0.fR.aY)).drop (Int.toNat 0)))))
def oq (u:Nat) (p0 p1:List Int):Option Bool :=
  some ((strOfNums p0).toList == (strOfNums p1).toList)
def nS (u:Nat) (p0:aG) (p1:Int) (p2:List Int):Option Bool :=
  (rJ u p0).bind fun r1=>bif r1.1 == p1 then ((oq u r1.2 p2).bind fun r2=>some r2) else (some false)
def s4 (u:Nat) (p0:aG) (p1:List Int) (p2:Int) (p3:List Int):Option Bool :=
  (nS u p0 0 p1).bind fun r1=>bif r1 then (some true) else ((nS u p0 p2 p3).bind fun r2=>some r2)
def qR (u:Nat) (p0:aG):Option Int :=
  some (cu .i64 1 p0.fR.cL)
def qS (u:Nat) (p0:cd):Option cd :=
  (dW (decide (((([]:List Int)).length+p0.fB.length)*1≤140737488355328))).bind fun _=>some ((cd.mk p0.dY p0.Cf ((([]:List Int))++p0.fB) p0.fR))
def AM (u:Nat) (p0:aG) (x11:List cd):Option aG :=
  some ((aG.mk ((([]:List Int))++p0.fA) ((([]:List Int))++p0.fB) p0.fR x11))
def ot (u mx:Nat) (x5:Int) (p0:aG) (x6:List cd):Option aG:=match mx with
  | 0=>none
  | mx+1=>bif decide (x5 < ((p0.fP.length:Int))) then ((ci p0.fP x5).bind fun y9=>(qS u y9).bind fun r10=>(dW (decide ((x6.length+([r10]).length)*64≤140737488355328))).bind fun _=>(fun z0 z1 z2=>ot u mx z0 z1 z2) (aX .i64 x5 1) p0 (x6++([r10]))) else (AM u p0 x6)
def uO (u:Nat) (p0:aG):Option aG :=
  (dW (decide (((([]:List Int)).length+p0.fA.length)*1≤140737488355328))).bind fun _=>(dW (decide (((([]:List Int)).length+p0.fB.length)*1≤140737488355328))).bind fun _=>ot u u 0 p0 (([]:List cd))
def Kz (u:Nat) (p0:aG) (s:(List cd)):Option aG:=(AM u p0 s)
def CN (u:Nat) (p0:aG) (y9:cd) (i_:Nat) (s:(List cd)) (k_:((List cd))→Option aG):Option aG:=(qS u y9).bind fun r10=>(dW (decide ((s.length+([r10]).length)*64≤140737488355328))).bind fun _=>(fun z0 z1 z2=>k_ z2) (aX .i64 (i_:Int) 1) p0 (s++([r10]))
theorem KA (u:Nat) (p0:aG) (s:(List cd)) (k:Nat) (hn:p0.fP.length≤9223372036854775807) (hk:p0.fP.length < k):ot u k 0 p0 s=Pu.bt (Kz u p0) (CN u p0) p0.fP 0 s:=Pu.bP (fun (k:Nat) (s:(List cd)) (i:Int)=>ot u k i p0 s) hn (fun _ _ _=>rfl) s hk
def xP (u:Nat) (x14:List Int):Option ((List Int)) :=
  some x14
def qb (u nC:Nat) (p1:Int) (p2 x8:List Int) (x9:Int):Option ((List Int)):=match nC with
  | 0=>none
  | nC+1=>bif decide (x9 < ((p2.length:Int))) then ((ci p2 x9).bind fun y12=>(ci x8 (aX .i64 p1 x9)).bind fun y13=>(fun z0 z1 z2 z3=>qb u nC z0 z1 z2 z3) p1 p2 (x8.set (Int.toNat (aX .i64 p1 x9)) y12) (aX .i64 x9 1)) else (xP u x8)
def xQ (u:Nat) (p1:Int) (p2 x5:List Int):Option ((List Int)) :=
  qb u u p1 p2 x5 0
def s5 (u nD:Nat) (p1:Int) (p2 x3:List Int):Option ((List Int)):=match nD with
  | 0=>none
  | nD+1=>bif decide (((x3.length:Int)) < (aX .i64 p1 ((p2.length:Int)))) then ((dW (decide ((x3.length+(([0]:List Int)).length)*1≤140737488355328))).bind fun _=>(fun z0 z1 z2=>s5 u nD z0 z1 z2) p1 p2 (x3++(([0]:List Int)))) else (xQ u p1 p2 x3)
def xq (u:Nat) (p0:List Int) (p1:Int) (p2:List Int):Option ((List Int)) :=
  (dW (decide (((([]:List Int)).length+p0.length)*1≤140737488355328))).bind fun _=>s5 u u p1 p2 ((([]:List Int))++p0)
def zh (u:Nat) (p1:Int) (p2:List Int) (s:(List Int)):Option ((List Int)):=(xP u s)
def zi (u:Nat) (p1:Int) (p2:List Int) (y12:Int) (i_:Nat) (s:(List Int)) (k_:((List Int))→Option ((List Int))):Option ((List Int)):=(ci s (aX .i64 p1 (i_:Int))).bind fun y13=>(fun z0 z1 z2 z3=>k_ z2) p1 p2 (s.set (Int.toNat (aX .i64 p1 (i_:Int))) y12) (aX .i64 (i_:Int) 1)
theorem ML (u:Nat) (p1:Int) (p2:List Int) (s:(List Int)) (k:Nat) (hn:p2.length≤9223372036854775807) (hk:p2.length < k):qb u k p1 p2 s 0=Pu.bt (zh u p1 p2) (zi u p1 p2) p2 0 s:=Pu.bP (fun (k:Nat) (s:(List Int)) (i:Int)=>qb u k p1 p2 s i) hn (fun _ _ _=>rfl) s hk
def qT (u:Nat) (x5 x6:List Int) (x7 x8 x9:Int) (r1:aG):Option aG :=
  some ((aG.mk x5 x6 ((c7.mk x7 x8 x9)) r1.fP))
def qU (u:Nat) (p0:aG) (p1:cd):Option aG :=
  (uO u p0).bind fun r1=>(uo u p1).bind fun r2=>bif !r2 then (qT u r1.fA r1.fB r1.fR.aP r1.fR.cL r1.fR.aY r1) else (bif p1.dY == 0 then ((xq u p0.fA p1.Cf p1.fB).bind fun r3=>qT u r3 r1.fB r1.fR.aP r1.fR.cL r1.fR.aY r1) else (bif p1.dY == 1 then ((xq u p0.fB p1.Cf p1.fB).bind fun r4=>qT u r1.fA r4 r1.fR.aP r1.fR.cL r1.fR.aY r1) else (qT u r1.fA r1.fB p1.fR.aP p1.fR.cL p1.fR.aY r1)))
def DE (u:Nat) (x26 x27:List Int) (x28 x29 x30:Int) (x31:List cd):Option aG :=
  some ((aG.mk x26 x27 ((c7.mk x28 x29 x30)) (([]:List cd))))
def rK (u o6:Nat) (x10:Int) (p0:aG) (x11 x12:List Int) (x13 x14 x15:Int) (x16:List cd):Option aG:=match o6 with
  | 0=>none
  | o6+1=>bif decide (x10 < ((p0.fP.length:Int))) then ((ci p0.fP x10).bind fun y24=>(qU u ((aG.mk x11 x12 ((c7.mk x13 x14 x15)) x16)) y24).bind fun r25=>(fun z0 z1 z2 z3 z4 z5 z6 z7=>rK u o6 z0 z1 z2 z3 z4 z5 z6 z7) (aX .i64 x10 1) p0 r25.fA r25.fB r25.fR.aP r25.fR.cL r25.fR.aY r25.fP) else (DE u x11 x12 x13 x14 x15 x16)
def CO (u:Nat) (p0:aG):Option aG :=
  (uO u p0).bind fun r1=>(pd u p0).bind fun r2=>bif !r2 then (some r1) else (rK u u 0 p0 r1.fA r1.fB r1.fR.aP r1.fR.cL r1.fR.aY r1.fP)
def AN (u:Nat) (p0:aG) (s:(List Int)×(List Int)×Int×Int×Int×(List cd)):Option aG:=(DE u s.1 s.2.1 s.2.2.1 s.2.2.2.1 s.2.2.2.2.1 s.2.2.2.2.2)
def AO (u:Nat) (p0:aG) (y24:cd) (i_:Nat) (s:(List Int)×(List Int)×Int×Int×Int×(List cd)) (k_:((List Int)×(List Int)×Int×Int×Int×(List cd))→Option aG):Option aG:=(qU u ((aG.mk s.1 s.2.1 ((c7.mk s.2.2.1 s.2.2.2.1 s.2.2.2.2.1)) s.2.2.2.2.2)) y24).bind fun r25=>(fun z0 z1 z2 z3 z4 z5 z6 z7=>k_ (z2,z3,z4,z5,z6,z7)) (aX .i64 (i_:Int) 1) p0 r25.fA r25.fB r25.fR.aP r25.fR.cL r25.fR.aY r25.fP
theorem OV (u:Nat) (p0:aG) (s:(List Int)×(List Int)×Int×Int×Int×(List cd)) (k:Nat) (hn:p0.fP.length≤9223372036854775807) (hk:p0.fP.length < k):rK u k 0 p0 s.1 s.2.1 s.2.2.1 s.2.2.2.1 s.2.2.2.2.1 s.2.2.2.2.2=Pu.bt (AN u p0) (AO u p0) p0.fP 0 s:=Pu.bP (fun (k:Nat) (s:(List Int)×(List Int)×Int×Int×Int×(List cd)) (i:Int)=>rK u k i p0 s.1 s.2.1 s.2.2.1 s.2.2.2.1 s.2.2.2.2.1 s.2.2.2.2.2) hn (fun _ _ _=>rfl) s hk
def mB (u:Nat) (p0 p1:List Int):Option Bool :=
  bif decide (((p0.length:Int))≥((p1.length:Int))) then ((dW (dU 0 ((p1.length:Int)) p0.length)).bind fun _=>(oq u ((p0.take (Int.toNat ((p1.length:Int)))).drop (Int.toNat 0)) p1).bind fun r2=>some r2) else (some false)
def qA (u:Nat) (p0:aG) (p2:aW):Option Bool :=
  (CO u p0).bind fun r8=>(qR u p0).bind fun r9=>(pc u r8 r9).bind fun r10=>(mB u r10 p2.bh).bind fun r11=>some r11
def iE (u iY:Nat) (x4:Int) (p0:aG) (p2:aW):Option Bool:=match iY with
  | 0=>none
  | iY+1=>bif decide (x4 < ((p0.fP.length:Int))) then ((ci p0.fP x4).bind fun y6=>(qR u p0).bind fun r7=>bif y6.dY != r7 then (some false) else ((fun z0 z1 z2=>iE u iY z0 z1 z2) (aX .i64 x4 1) p0 p2)) else (qA u p0 p2)
def qV (u:Nat) (p0:aG) (p1:af) (p2:aW) (p3:Int):Option Bool :=
  (qR u p0).bind fun r1=>(pc u p0 r1).bind fun r2=>bif p3 == 2 then (iE u u 0 p0 p2) else (bif p3 == 3 then (bif ((p0.fP.length:Int)) == 0 then ((mB u r2 p2.bh).bind fun r8=>some r8) else (some false)) else (bif p3 == 4 then ((qR u p0).bind fun r9=>bif ((p0.fP.length:Int)) == 1 then ((ci p0.fP 0).bind fun y10=>bif y10.dY == 2 then ((ci p0.fP 0).bind fun y11=>bif [y11.fR.aP,y11.fR.cL,y11.fR.aY] == [p1.aP,r9,p1.aY] then ((mB u r2 p2.bh).bind fun r12=>some r12) else (some false)) else (some false)) else (some false)) else (some false)))
def sG (u:Nat) (p0:aG) (p2:aW) (s:Unit):Option Bool:=(qA u p0 p2)
def zO (u:Nat) (p0:aG) (p2:aW) (y6:cd) (i_:Nat) (s:Unit) (k_:Unit→Option Bool):Option Bool:=(qR u p0).bind fun r7=>bif y6.dY != r7 then (some false) else ((fun z0 z1 z2=>k_ ()) (aX .i64 (i_:Int) 1) p0 p2)
theorem F7 (u:Nat) (p0:aG) (p2:aW) (s:Unit) (k:Nat) (hn:p0.fP.length≤9223372036854775807) (hk:p0.fP.length < k):iE u k 0 p0 p2=Pu.bt (sG u p0 p2) (zO u p0 p2) p0.fP 0 s:=Pu.bP (fun (k:Nat) (s:Unit) (i:Int)=>iE u k i p0 p2) hn (fun _ _ _=>rfl) s hk
def iF (u:Nat) (p0:World) (p1:Int):Option Bool :=
  (ci p0.fN p1).bind fun y1=>(ci p0.fD p1).bind fun y2=>bif p1 == 0 then (bif y1.fK then ((ci p0.fZ 0).bind fun y3=>(nS u y2 0 y3.fB).bind fun r4=>bif r4 then (some (((y2.fP.length:Int)) == 0)) else (some false)) else (some false)) else ((ci p0.fZ p1).bind fun y5=>(s4 u y2 y5.fB 1 p0.jh).bind fun r6=>bif !r6 then (some false) else (bif y1.aJ == 0 then (some (((y2.fP.length:Int)) == 0)) else (bif y1.aJ == 1 then (bif ((y2.fP.length:Int)) == 0 then ((ci p0.fZ p1).bind fun y7=>(nS u y2 0 y7.fB).bind fun r8=>some r8) else (some false)) else (bif y1.aJ == 5 then (bif ((y2.fP.length:Int)) == 0 then ((nS u y2 1 p0.jh).bind fun r9=>some r9) else (some false)) else ((ci p0.fZ p1).bind fun y10=>(nS u y2 0 y10.fB).bind fun r11=>bif r11 then ((qV u y2 y1.av y1.a7 y1.aJ).bind fun r12=>some r12) else (some false))))))
def zj (u:Nat)  : Option Bool :=
  some true
def na (u:Nat) (Kc:World→Int→Option Bool) (p0:World) (x21:Int) (x27:Bool):Option Bool :=
  bif x27 then (some false) else (Kc p0 (aX .i64 x21 1))
def i8 (u gy:Nat) (p0:World) (x21:Int):Option Bool:=match gy with
  | 0=>none
  | gy+1=>bif decide (x21 < ((p0.eo.length:Int))) then ((ci p0.eo x21).bind fun y23=>(bB u y23.du 0 (cu .i64 ((p0.fT.cy.length:Int)) 1)).bind fun r24=>bif !r24 then (na u (fun z0 z1=>i8 u gy z0 z1) p0 x21 true) else ((ci p0.eo x21).bind fun y25=>(bB u y25.GU 0 (cu .i64 ((p0.fT.cy.length:Int)) 1)).bind fun r26=>na u (fun z0 z1=>i8 u gy z0 z1) p0 x21 (!r26))) else (zj u)
def pH (u:Nat) (p0:World):Option Bool :=
  i8 u u p0 0
def d2 (u:Nat) (Kd:World→Int→af→Option Bool) (p0:World) (x8:Int) (x19:Bool) (r6:af):Option Bool :=
  bif x19 then (some false) else (Kd p0 (aX .i64 x8 1) r6)
def d3 (u dR:Nat) (p0:World) (x8:Int) (r6:af):Option Bool:=match dR with
  | 0=>none
  | dR+1=>bif decide (x8 < ((p0.fT.cy.length:Int))) then ((ci p0.fN x8).bind fun y10=>(uN u p0.fT x8 y10).bind fun r11=>bif !r11 then (d2 u (fun z0 z1 z2=>d3 u dR z0 z1 z2) p0 x8 true r6) else ((ci p0.fD x8).bind fun y12=>(pd u y12).bind fun r13=>bif !r13 then (d2 u (fun z0 z1 z2=>d3 u dR z0 z1 z2) p0 x8 true r6) else ((ci p0.fN x8).bind fun y14=>bif y14.aJ != 0 then ((ci p0.fN x8).bind fun y15=>(jL u y15.av r6).bind fun r16=>bif !r16 then (d2 u (fun z0 z1 z2=>d3 u dR z0 z1 z2) p0 x8 true r6) else ((iF u p0 x8).bind fun r17=>d2 u (fun z0 z1 z2=>d3 u dR z0 z1 z2) p0 x8 (!r17) r6)) else ((iF u p0 x8).bind fun r18=>d2 u (fun z0 z1 z2=>d3 u dR z0 z1 z2) p0 x8 (!r18) r6)))) else (pH u p0)
def d4 (u:Nat) (p0:World) (x5:Bool):Option Bool :=
  bif x5 then (some false) else ((AG u p0).bind fun r6=>d3 u u p0 0 r6)
def vC (u:Nat) (p0:World):Option Bool :=
  (yq u p0.fC).bind fun r1=>bif !r1 then (d4 u p0 true) else ((uL u p0.fT).bind fun r2=>bif !r2 then (d4 u p0 true) else ((o7 u p0.fC.aS ((p0.jh.length:Int))).bind fun r3=>bif !r3 then (d4 u p0 true) else ((vu u p0.fZ ((p0.fT.cy.length:Int))).bind fun r4=>bif !r4 then (d4 u p0 true) else (bif ((p0.fN.length:Int)) != ((p0.fT.cy.length:Int)) then (d4 u p0 true) else (bif ((p0.fD.length:Int)) != ((p0.fT.cy.length:Int)) then (d4 u p0 true) else (bif decide (((p0.eo.length:Int)) > 400) then (d4 u p0 true) else (bif decide (((p0.pX.length:Int)) > 3000) then (d4 u p0 true) else (d4 u p0 (decide (p0.qL < 0))))))))))
def Id (u:Nat) (p0:World) (s:Unit):Option Bool:=(zj u)
def BJ (u:Nat) (p0:World) (y23:au) (i_:Nat) (s:Unit) (k_:Unit→Option Bool):Option Bool:=(bB u y23.du 0 (cu .i64 ((p0.fT.cy.length:Int)) 1)).bind fun r24=>bif !r24 then (na u (fun z0 z1=>k_ ()) p0 (i_:Int) true) else ((ci p0.eo (i_:Int)).bind fun y25=>(bB u y25.GU 0 (cu .i64 ((p0.fT.cy.length:Int)) 1)).bind fun r26=>na u (fun z0 z1=>k_ ()) p0 (i_:Int) (!r26))
theorem Ie (u:Nat) (p0:World) (s:Unit) (k:Nat) (hn:p0.eo.length≤9223372036854775807) (hk:p0.eo.length < k):i8 u k p0 0=Pu.bt (Id u p0) (BJ u p0) p0.eo 0 s:=Pu.bP (fun (k:Nat) (s:Unit) (i:Int)=>i8 u k p0 i) hn (fun _ _ _=>rfl) s hk
def If (u:Nat) (p0:World) (r6:af) (s:Unit):Option Bool:=(pH u p0)
def BK (u:Nat) (p0:World) (r6:af) (i_:Nat) (s:Unit) (k_:Unit→Option Bool):Option Bool:=(ci p0.fN (i_:Int)).bind fun y10=>(uN u p0.fT (i_:Int) y10).bind fun r11=>bif !r11 then (d2 u (fun z0 z1 z2=>k_ ()) p0 (i_:Int) true r6) else ((ci p0.fD (i_:Int)).bind fun y12=>(pd u y12).bind fun r13=>bif !r13 then (d2 u (fun z0 z1 z2=>k_ ()) p0 (i_:Int) true r6) else ((ci p0.fN (i_:Int)).bind fun y14=>bif y14.aJ != 0 then ((ci p0.fN (i_:Int)).bind fun y15=>(jL u y15.av r6).bind fun r16=>bif !r16 then (d2 u (fun z0 z1 z2=>k_ ()) p0 (i_:Int) true r6) else ((iF u p0 (i_:Int)).bind fun r17=>d2 u (fun z0 z1 z2=>k_ ()) p0 (i_:Int) (!r17) r6)) else ((iF u p0 (i_:Int)).bind fun r18=>d2 u (fun z0 z1 z2=>k_ ()) p0 (i_:Int) (!r18) r6)))
theorem Ig (u:Nat) (p0:World) (r6:af) (s:Unit) (k:Nat) (hn:(((p0.fT.cy.length:Int)):Int)≤9223372036854775807) (hk:Int.toNat (((p0.fT.cy.length:Int))) < k):d3 u k p0 0 r6=Pu.qz (If u p0 r6) (BK u p0 r6) (Int.toNat (((p0.fT.cy.length:Int)))) 0 s:=Pu.sN (fun (k:Nat) (s:Unit) (i:Int)=>d3 u k p0 i r6) hn (fun _ _ _=>rfl) s hk
def uP (u:Nat) (p0:af):Option af :=
  (dW (decide (((([]:List bM)).length+p0.aD.length)*16≤140737488355328))).bind fun _=>some ((af.mk p0.aP p0.aS p0.aY ((([]:List bM))++p0.aD)))
def uQ (u:Nat) (p0:aW):Option aW :=
  (dW (decide (((([]:List Int)).length+p0.bh.length)*1≤140737488355328))).bind fun _=>some ((aW.mk p0.aT ((([]:List Int))++p0.bh)))
def fy (u:Nat) (p0:aA):Option aA :=
  (uP u p0.av).bind fun r1=>(uQ u p0.a7).bind fun r2=>(dW (decide (((([]:List Kid)).length+p0.aN.length)*40≤140737488355328))).bind fun _=>some ((aA.mk p0.fK p0.bf p0.be r1 r2 p0.aJ ((([]:List Kid))++p0.aN) p0.a8))
def vD (u:Nat)  : Option (Int×Int×Bool) :=
  some ((0,0,false))
def qW (u:Nat) (o5:(List Int)→Int→Int→Int→Option (Int×Int×Bool)) (p0:List Int) (p1 x3:Int) (y8 x4:Int) (x10:Bool):Option (Int×Int×Bool) :=
  bif x10 then (some ((0,0,false))) else (some ((sV .i64 x3 (i4 .i64 (fx .i64 (IntKind.wrap .i64 y8) 127) (gR .i64 7 x4)),aX .i64 (aX .i64 p1 x4) 1,true)))
def mC (u:Nat) (o5:(List Int)→Int→Int→Int→Option (Int×Int×Bool)) (p0:List Int) (p1 x3 x4:Int) (x7:Bool):Option (Int×Int×Bool) :=
  bif x7 then (some ((0,0,false))) else ((ci p0 (aX .i64 p1 x4)).bind fun y8=>(dW (decide (0≤(gR .i64 7 x4)))).bind fun _=>bif decide ((IntKind.wrap .i64 y8) < 128) then (bif (IntKind.wrap .i64 y8) == 0 then (bif decide (x4 > 0) then (qW u o5 p0 p1 x3 y8 x4 true) else (qW u o5 p0 p1 x3 y8 x4 (decide ((sV .i64 x3 (i4 .i64 (fx .i64 (IntKind.wrap .i64 y8) 127) (gR .i64 7 x4))) > 1000000000000)))) else (qW u o5 p0 p1 x3 y8 x4 (decide ((sV .i64 x3 (i4 .i64 (fx .i64 (IntKind.wrap .i64 y8) 127) (gR .i64 7 x4))) > 1000000000000)))) else (o5 p0 p1 (sV .i64 x3 (i4 .i64 (fx .i64 (IntKind.wrap .i64 y8) 127) (gR .i64 7 x4))) (aX .i64 x4 1)))
def dE (u fJ:Nat) (p0:List Int) (p1 x3 x4:Int):Option (Int×Int×Bool):=match fJ with
  | 0=>none
  | fJ+1=>bif decide (x4 < 6) then (bif decide (p1 < 0) then (mC u (fun z0 z1 z2 z3=>dE u fJ z0 z1 z2 z3) p0 p1 x3 x4 true) else (mC u (fun z0 z1 z2 z3=>dE u fJ z0 z1 z2 z3) p0 p1 x3 x4 (decide (p1≥(cu .i64 ((p0.length:Int)) x4))))) else (vD u)
def ga (u:Nat) (p0:List Int) (p1:Int):Option (Int×Int×Bool) :=
  dE u u p0 p1 0 0
def KB (u:Nat) (p0:List Int) (p1 s:Int):Option (Int×Int×Bool):=(vD u)
def KC (u:Nat) (p0:List Int) (p1:Int) (i_:Nat) (s:Int) (k_:Int→Option (Int×Int×Bool)):Option (Int×Int×Bool):=bif decide (p1 < 0) then (mC u (fun z0 z1 z2 z3=>k_ z2) p0 p1 s (i_:Int) true) else (mC u (fun z0 z1 z2 z3=>k_ z2) p0 p1 s (i_:Int) (decide (p1≥(cu .i64 ((p0.length:Int)) (i_:Int)))))
theorem WN (u:Nat) (p0:List Int) (p1 s:Int) (k:Nat) (hn:(6:Int)≤9223372036854775807) (hk:Int.toNat (6) < k):dE u k p0 p1 s 0=Pu.qz (KB u p0 p1) (KC u p0 p1) (Int.toNat (6)) 0 s:=Pu.sN (fun (k:Nat) (s i:Int)=>dE u k p0 p1 s i) hn (fun _ _ _=>rfl) s hk
def rL (u:Nat)  : Option (Int×Int×Bool) :=
  some ((0,0,false))
def fE (u jH:Nat) (p0:List Int) (p1 x3 x4:Int):Option (Int×Int×Bool):=match jH with
  | 0=>none
  | jH+1=>bif decide (x4 < 8) then (bif decide (p1≥(cu .i64 ((p0.length:Int)) x4)) then (some ((0,0,false))) else ((ci p0 (aX .i64 p1 x4)).bind fun y7=>(dW (decide (0≤(gR .i64 7 x4)))).bind fun _=>bif decide ((IntKind.wrap .i64 y7) < 128) then (bif decide ((IntKind.wrap .i64 y7) > 0) then (some ((sV .i64 x3 (i4 .i64 (fx .i64 (IntKind.wrap .i64 y7) 127) (gR .i64 7 x4)),aX .i64 (aX .i64 p1 x4) 1,true))) else (some ((sV .i64 x3 (i4 .i64 (fx .i64 (IntKind.wrap .i64 y7) 127) (gR .i64 7 x4)),aX .i64 (aX .i64 p1 x4) 1,x4 == 0)))) else ((fun z0 z1 z2 z3=>fE u jH z0 z1 z2 z3) p0 p1 (sV .i64 x3 (i4 .i64 (fx .i64 (IntKind.wrap .i64 y7) 127) (gR .i64 7 x4))) (aX .i64 x4 1)))) else (rL u)
def s6 (u:Nat) (p0:List Int) (p1:Int):Option (Int×Int×Bool) :=
  fE u u p0 p1 0 0
def GZ (u:Nat) (p0:List Int) (p1 s:Int):Option (Int×Int×Bool):=(rL u)
def G0 (u:Nat) (p0:List Int) (p1:Int) (i_:Nat) (s:Int) (k_:Int→Option (Int×Int×Bool)):Option (Int×Int×Bool):=bif decide (p1≥(cu .i64 ((p0.length:Int)) (i_:Int))) then (some ((0,0,false))) else ((ci p0 (aX .i64 p1 (i_:Int))).bind fun y7=>(dW (decide (0≤(gR .i64 7 (i_:Int))))).bind fun _=>bif decide ((IntKind.wrap .i64 y7) < 128) then (bif decide ((IntKind.wrap .i64 y7) > 0) then (some ((sV .i64 s (i4 .i64 (fx .i64 (IntKind.wrap .i64 y7) 127) (gR .i64 7 (i_:Int))),aX .i64 (aX .i64 p1 (i_:Int)) 1,true))) else (some ((sV .i64 s (i4 .i64 (fx .i64 (IntKind.wrap .i64 y7) 127) (gR .i64 7 (i_:Int))),aX .i64 (aX .i64 p1 (i_:Int)) 1,(i_:Int) == 0)))) else ((fun z0 z1 z2 z3=>k_ z2) p0 p1 (sV .i64 s (i4 .i64 (fx .i64 (IntKind.wrap .i64 y7) 127) (gR .i64 7 (i_:Int)))) (aX .i64 (i_:Int) 1)))
theorem Va (u:Nat) (p0:List Int) (p1 s:Int) (k:Nat) (hn:(8:Int)≤9223372036854775807) (hk:Int.toNat (8) < k):fE u k p0 p1 s 0=Pu.qz (GZ u p0 p1) (G0 u p0 p1) (Int.toNat (8)) 0 s:=Pu.sN (fun (k:Nat) (s i:Int)=>fE u k p0 p1 s i) hn (fun _ _ _=>rfl) s hk
def ou (u:Nat) (x19:Int) (r1 r2 r3:Int×Int×Bool) (x20:List bM):Option (af×Int×Bool) :=
  (jp u ((af.mk r1.1 r2.1 r3.1 x20))).bind fun r21=>bif !r21 then (some (((af.mk 0 0 0 ([])),0,false))) else (some (((af.mk r1.1 r2.1 r3.1 x20),x19,true)))
def jW (u:Nat) (Mh:(List Int)→(Int×Int×Bool)→(Int×Int×Bool)→(Int×Int×Bool)→Int→Int→(List bM)→Option (af×Int×Bool)) (p0:List Int) (r1 r2 r3:Int×Int×Bool) (x8 x9:Int) (x15:Bool) (x10:List bM):Option (af×Int×Bool) :=
  bif x15 then ((s6 u p0 x8).bind fun r16=>bif !r16.2.2 then (some (((af.mk 0 0 0 ([])),0,false))) else ((pp u r16.1).bind fun r17=>(gY u r17.1).bind fun r18=>(dW (decide ((x10.length+([(bM.mk r18.fW r16.1)]).length)*16≤140737488355328))).bind fun _=>Mh p0 r1 r2 r3 r16.2.1 (aX .i64 x9 1) (x10++([(bM.mk r18.fW r16.1)])))) else (ou u x8 r1 r2 r3 x10)
def dG (u ib:Nat) (p0:List Int) (r1 r2 r3:Int×Int×Bool) (x8 x9:Int) (x10:List bM):Option (af×Int×Bool):=match ib with
  | 0=>none
  | ib+1=>(o8 u r2.1 r3.1).bind fun r14=>bif decide (x9 < r14) then (jW u (fun z0 z1 z2 z3 z4 z5 z6=>dG u ib z0 z1 z2 z3 z4 z5 z6) p0 r1 r2 r3 x8 x9 (decide (r1.1 > 0)) x10) else (jW u (fun z0 z1 z2 z3 z4 z5 z6=>dG u ib z0 z1 z2 z3 z4 z5 z6) p0 r1 r2 r3 x8 x9 false x10)
def qX (u:Nat) (p0:List Int) (r1 r2 r3:Int×Int×Bool) (x4:Bool):Option (af×Int×Bool) :=
  bif x4 then (some (((af.mk 0 0 0 ([])),0,false))) else (dG u u p0 r1 r2 r3 r3.2.1 0 ([]))
def yw (u:Nat) (p0:List Int) (p1:Int):Option (af×Int×Bool) :=
  (ga u p0 p1).bind fun r1=>(ga u p0 r1.2.1).bind fun r2=>(ga u p0 r2.2.1).bind fun r3=>bif !r1.2.2 then (qX u p0 r1 r2 r3 true) else (bif !r2.2.2 then (qX u p0 r1 r2 r3 true) else (qX u p0 r1 r2 r3 (!r3.2.2)))
def pI (u:Nat) (p0:List Int) (r1:Int×Int×Bool) (x2:Bool):Option ((List Int)×Int×Bool) :=
  bif x2 then (some ((([]:List Int),0,false))) else ((dW (dU r1.2.1 (aX .i64 r1.2.1 r1.1) p0.length)).bind fun _=>(dW (decide (((([]:List Int)).length+((p0.take (Int.toNat (aX .i64 r1.2.1 r1.1))).drop (Int.toNat r1.2.1)).length)*1≤140737488355328))).bind fun _=>some (((([]:List Int))++((p0.take (Int.toNat (aX .i64 r1.2.1 r1.1))).drop (Int.toNat r1.2.1)),aX .i64 r1.2.1 r1.1,true)))
def vE (u:Nat) (p0:List Int) (p1 p2:Int):Option ((List Int)×Int×Bool) :=
  (ga u p0 p1).bind fun r1=>bif !r1.2.2 then (pI u p0 r1 true) else (bif decide (r1.1 > p2) then (pI u p0 r1 true) else (pI u p0 r1 (decide (r1.1 > (cu .i64 ((p0.length:Int)) r1.2.1)))))
def tO (u:Nat) (x20 p2:Int) (r2:Int×Int×Bool) (x21 x22:Int):Option (ei×Int×Bool) :=
  some (((ei.mk p2 r2.1 ((af.mk 0 0 0 ([]))) x21 x22 0 ([])),x20,true))
def tP (u:Nat) (x14:Int) (x15:List Int) (p2:Int) (r2:Int×Int×Bool):Option (ei×Int×Bool) :=
  (ci x15 0).bind fun y16=>(ci x15 1).bind fun y17=>(ci x15 2).bind fun y18=>(ci x15 3).bind fun y19=>tO u x14 p2 r2 (aX .i64 y16 (i4 .i64 y17 20)) (aX .i64 y18 (i4 .i64 y19 20))
def nb (u:Nat) (Ke:(List Int)→Int→(List Int)→Int→Int→(Int×Int×Bool)→Option (ei×Int×Bool)) (p0:List Int) (x6:Int) (x7:List Int) (x8:Int) (r12:Int×Int×Bool) (x13:Bool) (p2:Int) (r2:Int×Int×Bool):Option (ei×Int×Bool) :=
  bif x13 then (some (((ei.mk p2 r2.1 ((af.mk 0 0 0 ([]))) 0 0 0 ([])),0,false))) else ((dW (decide ((x7.length+(([r12.1]:List Int)).length)*8≤140737488355328))).bind fun _=>Ke p0 r12.2.1 (x7++(([r12.1]:List Int))) (aX .i64 x8 1) p2 r2)
def cY (u gz:Nat) (p0:List Int) (x6:Int) (x7:List Int) (x8 p2:Int) (r2:Int×Int×Bool):Option (ei×Int×Bool):=match gz with
  | 0=>none
  | gz+1=>bif decide (x8 < 4) then ((ga u p0 x6).bind fun r12=>bif !r12.2.2 then (nb u (fun z0 z1 z2 z3 z4 z5=>cY u gz z0 z1 z2 z3 z4 z5) p0 x6 x7 x8 r12 true p2 r2) else (nb u (fun z0 z1 z2 z3 z4 z5=>cY u gz z0 z1 z2 z3 z4 z5) p0 x6 x7 x8 r12 (decide (r12.1≥1048576)) p2 r2)) else (tP u x6 x7 p2 r2)
def fF (u:Nat) (p0:List Int) (p1 p2:Int):Option (ei×Int×Bool) :=
  bif p2 == 1 then ((yw u p0 p1).bind fun r1=>some (((ei.mk p2 0 r1.1 0 0 0 ([])),r1.2.1,r1.2.2))) else ((ga u p0 p1).bind fun r2=>bif !r2.2.2 then (some (((ei.mk p2 r2.1 ((af.mk 0 0 0 ([]))) 0 0 0 ([])),0,false))) else (bif p2 == 2 then (cY u u p0 r2.2.1 (([]:List Int)) 0 p2 r2) else (bif p2 == 3 then ((ga u p0 r2.2.1).bind fun r13=>(vE u p0 r13.2.1 6).bind fun r14=>bif r13.2.2 then (some (((ei.mk p2 r2.1 ((af.mk 0 0 0 ([]))) 0 0 r13.1 r14.1),r14.2.1,r14.2.2))) else (some (((ei.mk p2 r2.1 ((af.mk 0 0 0 ([]))) 0 0 r13.1 r14.1),r14.2.1,false)))) else (tO u r2.2.1 p2 r2 0 0))))
def Ih (u:Nat) (p0:List Int) (p2:Int) (r2:Int×Int×Bool) (s:Int×(List Int)):Option (ei×Int×Bool):=(tP u s.1 s.2 p2 r2)
def Ii (u:Nat) (p0:List Int) (p2:Int) (r2:Int×Int×Bool) (i_:Nat) (s:Int×(List Int)) (k_:(Int×(List Int))→Option (ei×Int×Bool)):Option (ei×Int×Bool):=(ga u p0 s.1).bind fun r12=>bif !r12.2.2 then (nb u (fun z0 z1 z2 z3 z4 z5=>k_ (z1,z2)) p0 s.1 s.2 (i_:Int) r12 true p2 r2) else (nb u (fun z0 z1 z2 z3 z4 z5=>k_ (z1,z2)) p0 s.1 s.2 (i_:Int) r12 (decide (r12.1≥1048576)) p2 r2)
theorem Wh (u:Nat) (p0:List Int) (p2:Int) (r2:Int×Int×Bool) (s:Int×(List Int)) (k:Nat) (hn:(4:Int)≤9223372036854775807) (hk:Int.toNat (4) < k):cY u k p0 s.1 s.2 0 p2 r2=Pu.qz (Ih u p0 p2 r2) (Ii u p0 p2 r2) (Int.toNat (4)) 0 s:=Pu.sN (fun (k:Nat) (s:Int×(List Int)) (i:Int)=>cY u k p0 s.1 s.2 i p2 r2) hn (fun _ _ _=>rfl) s hk
def qc (u:Nat) (r1 x2:Bool) (p0:ei):Option Bool :=
  bif p0.bz == 1 then (bif p0.aP == 0 then (bif p0.av.aP != 0 then ((jp u p0.av).bind fun r3=>bif r3 then (some x2) else (some false)) else (some false)) else (some false)) else (bif p0.bz == 2 then ((bB u p0.aP 0 1000000).bind fun r4=>bif r4 then (bif r1 then ((cz u p0.bw).bind fun r5=>bif r5 then ((cz u p0.bL).bind fun r6=>bif r6 then (bif p0.fI == 0 then (some (((p0.fB.length:Int)) == 0)) else (some false)) else (some false)) else (some false)) else (some false)) else (some false)) else (bif p0.bz == 3 then ((bB u p0.aP 1 1000000).bind fun r7=>bif r7 then (bif r1 then (bif p0.bw == 0 then (bif p0.bL == 0 then ((bB u p0.fI 0 39).bind fun r8=>bif r8 then ((bB u ((p0.fB.length:Int)) 1 6).bind fun r9=>some r9) else (some false)) else (some false)) else (some false)) else (some false)) else (some false)) else (bif p0.bz == 4 then ((bB u p0.aP 0 1000000).bind fun r10=>bif r10 then (bif r1 then (some x2) else (some false)) else (some false)) else (some false))))
def xr (u:Nat) (p0:ei):Option Bool :=
  (jL u p0.av ((af.mk 0 0 0 ([])))).bind fun r1=>bif p0.bw == 0 then (bif p0.bL == 0 then (bif p0.fI == 0 then (qc u r1 (((p0.fB.length:Int)) == 0) p0) else (qc u r1 false p0)) else (qc u r1 false p0)) else (qc u r1 false p0)
def qY (u:Nat) (x9:Bool) (r3:ei×Int×Bool):Option (ei×Bool) :=
  bif x9 then (some (((ei.mk 0 0 ((af.mk 0 0 0 ([]))) 0 0 0 ([])),false))) else (some ((r3.1,true)))
def vF (u:Nat) (p0:List Int) (r3:ei×Int×Bool) (x5:Bool):Option (ei×Bool) :=
  bif x5 then (some (((ei.mk 0 0 ((af.mk 0 0 0 ([]))) 0 0 0 ([])),false))) else ((ga u p0 r3.2.1).bind fun r6=>bif !r6.2.2 then (qY u true r3) else (bif r6.2.1 != ((p0.length:Int)) then (qY u true r3) else ((dW (dU 0 r3.2.1 p0.length)).bind fun _=>(o9 u ((p0.take (Int.toNat r3.2.1)).drop (Int.toNat 0))).bind fun r8=>qY u (r6.1 != r8) r3)))
def vG (u:Nat) (p0:List Int) (r1:Int×Int×Bool) (x2:Bool):Option (ei×Bool) :=
  bif x2 then (some (((ei.mk 0 0 ((af.mk 0 0 0 ([]))) 0 0 0 ([])),false))) else ((fF u p0 r1.2.1 r1.1).bind fun r3=>bif !r3.2.2 then (vF u p0 r3 true) else ((xr u r3.1).bind fun r4=>vF u p0 r3 (!r4)))
def yx (u:Nat) (p0:List Int):Option (ei×Bool) :=
  (ga u p0 0).bind fun r1=>bif !r1.2.2 then (vG u p0 r1 true) else (vG u p0 r1 (decide (((p0.length:Int)) > 400)))
def lz (u:Nat) (p0:aA):Option aA :=
  (fy u p0).bind fun r1=>some ((aA.mk r1.fK r1.bf r1.be r1.av r1.a7 r1.aJ r1.aN (aX .i64 r1.a8 1)))
def Ch (u:Nat)  : Option Int :=
  some (-1)
def qd (u nz:Nat) (p0:List Kid) (p1 x2:Int):Option Int:=match nz with
  | 0=>none
  | nz+1=>bif decide (x2 < ((p0.length:Int))) then ((ci p0 x2).bind fun y4=>bif y4.fb == p1 then (some x2) else ((fun z0 z1 z2=>qd u nz z0 z1 z2) p0 p1 (aX .i64 x2 1))) else (Ch u)
def uq (u:Nat) (p0:List Kid) (p1:Int):Option Int :=
  qd u u p0 p1 0
def MM (u:Nat) (p0:List Kid) (p1:Int) (s:Unit):Option Int:=(Ch u)
def MN (u:Nat) (p0:List Kid) (p1:Int) (y4:Kid) (i_:Nat) (s:Unit) (k_:Unit→Option Int):Option Int:=bif y4.fb == p1 then (some (i_:Int)) else ((fun z0 z1 z2=>k_ ()) p0 p1 (aX .i64 (i_:Int) 1))
theorem MO (u:Nat) (p0:List Kid) (p1:Int) (s:Unit) (k:Nat) (hn:p0.length≤9223372036854775807) (hk:p0.length < k):qd u k p0 p1 0=Pu.bt (MM u p0 p1) (MN u p0 p1) p0 0 s:=Pu.bP (fun (k:Nat) (s:Unit) (i:Int)=>qd u k p0 p1 i) hn (fun _ _ _=>rfl) s hk
def Aa (u:Nat) (p1 p2 p3:Int) (p0:List Kid) (x12:Int):Option ((List Kid)) :=
  (dW (dU 0 x12 ((([]:List Kid))++p0).length)).bind fun _=>(dW (decide (((([]:List Kid)).length+((((([]:List Kid))++p0).take (Int.toNat x12)).drop (Int.toNat 0)).length)*40≤140737488355328))).bind fun _=>(dW (decide ((((([]:List Kid))++((((([]:List Kid))++p0).take (Int.toNat x12)).drop (Int.toNat 0))).length+([(Kid.mk p1 p2 p3 0 0)]).length)*40≤140737488355328))).bind fun _=>(dW (dU x12 ((((([]:List Kid))++p0).length:Int)) ((([]:List Kid))++p0).length)).bind fun _=>(dW (decide (((((([]:List Kid))++((((([]:List Kid))++p0).take (Int.toNat x12)).drop (Int.toNat 0)))++([(Kid.mk p1 p2 p3 0 0)])).length+((((([]:List Kid))++p0).take (Int.toNat ((((([]:List Kid))++p0).length:Int)))).drop (Int.toNat x12)).length)*40≤140737488355328))).bind fun _=>some ((((([]:List Kid))++((((([]:List Kid))++p0).take (Int.toNat x12)).drop (Int.toNat 0)))++([(Kid.mk p1 p2 p3 0 0)]))++((((([]:List Kid))++p0).take (Int.toNat ((((([]:List Kid))++p0).length:Int)))).drop (Int.toNat x12)))
def vH (u:Nat) (RE:Int→Int→Int→(List Kid)→Int→Option ((List Kid))) (p1 p2 p3:Int) (p0:List Kid) (x8:Int) (x11:Bool):Option ((List Kid)) :=
  bif x11 then (RE p1 p2 p3 p0 (aX .i64 x8 1)) else (Aa u p1 p2 p3 p0 x8)
def lA (u kj:Nat) (p1 p2 p3:Int) (p0:List Kid) (x8:Int):Option ((List Kid)):=match kj with
  | 0=>none
  | kj+1=>bif decide (x8 < ((((([]:List Kid))++p0).length:Int))) then ((ci ((([]:List Kid))++p0) x8).bind fun y10=>vH u (fun z0 z1 z2 z3 z4=>lA u kj z0 z1 z2 z3 z4) p1 p2 p3 p0 x8 (decide (y10.fb≤p1))) else (vH u (fun z0 z1 z2 z3 z4=>lA u kj z0 z1 z2 z3 z4) p1 p2 p3 p0 x8 false)
def vI (u:Nat) (p0:List Kid) (p1 p2 p3:Int) (x5:Bool):Option ((List Kid)) :=
  bif x5 then (some ((([]:List Kid))++p0)) else ((uq u p0 p1).bind fun r6=>bif decide (r6 < 0) then (lA u u p1 p2 p3 p0 0) else ((ci ((([]:List Kid))++p0) r6).bind fun y11=>(ci ((([]:List Kid))++p0) r6).bind fun y12=>some (((([]:List Kid))++p0).set (Int.toNat r6) ((Kid.mk y11.fb p2 (sV .i64 y11.bL p3) 0 y11.c8)))))
def CP (u:Nat) (p0:List Kid) (p1 p2 p3:Int):Option ((List Kid)) :=
  (dW (decide (((([]:List Kid)).length+p0.length)*40≤140737488355328))).bind fun _=>(bB u p1 0 6).bind fun r2=>bif !r2 then (vI u p0 p1 p2 p3 true) else ((cz u p2).bind fun r3=>bif !r3 then (vI u p0 p1 p2 p3 true) else ((cz u p3).bind fun r4=>vI u p0 p1 p2 p3 (!r4)))
def vJ (u:Nat) (x9:Int) (x10:List Int):Option ((List Int)) :=
  (dW (decide ((x10.length+(([IntKind.wrap .u8 x9]:List Int)).length)*1≤140737488355328))).bind fun _=>some (x10++(([IntKind.wrap .u8 x9]:List Int)))
def mD (u mq:Nat) (x5:Int) (x6:List Int):Option ((List Int)):=match mq with
  | 0=>none
  | mq+1=>bif decide (x5 > 127) then ((dW (decide ((x6.length+(([IntKind.wrap .u8 (sV .i64 (fx .i64 x5 127) 128)]:List Int)).length)*1≤140737488355328))).bind fun _=>(fun z0 z1=>mD u mq z0 z1) (nY .i64 x5 7) (x6++(([IntKind.wrap .u8 (sV .i64 (fx .i64 x5 127) 128)]:List Int)))) else (vJ u x5 x6)
def dX (u:Nat) (p0:List Int) (p1:Int):Option ((List Int)) :=
  (dW (decide (((([]:List Int)).length+p0.length)*1≤140737488355328))).bind fun _=>(bB u p1 0 1000000000000).bind fun r2=>bif !r2 then (some ((([]:List Int))++p0)) else (mD u u p1 ((([]:List Int))++p0))
def rM (u:Nat) (x7:List Int) (x8:Int):Option ((List Int)) :=
  (dW (decide ((x7.length+(([IntKind.wrap .u8 x8]:List Int)).length)*1≤140737488355328))).bind fun _=>some (x7++(([IntKind.wrap .u8 x8]:List Int)))
def jq (u jI:Nat) (x3:List Int) (x4:Int):Option ((List Int)):=match jI with
  | 0=>none
  | jI+1=>bif decide (x4 > 127) then ((dW (decide ((x3.length+(([IntKind.wrap .u8 (sV .i64 (fx .i64 x4 127) 128)]:List Int)).length)*1≤140737488355328))).bind fun _=>(fun z0 z1=>jq u jI z0 z1) (x3++(([IntKind.wrap .u8 (sV .i64 (fx .i64 x4 127) 128)]:List Int))) (nY .i64 x4 7)) else (rM u x3 x4)
def s7 (u:Nat) (p0:List Int) (p1:Int):Option ((List Int)) :=
  jq u u p0 p1
def AP (u:Nat) (x14:List Int):Option ((List Int)) :=
  some x14
def oz (u mp:Nat) (x8:List Int) (x9:Int) (p1:af):Option ((List Int)):=match mp with
  | 0=>none
  | mp+1=>bif decide (x9 < ((p1.aD.length:Int))) then ((ci p1.aD x9).bind fun y12=>(s7 u x8 y12.fS).bind fun r13=>(fun z0 z1 z2=>oz u mp z0 z1 z2) r13 (aX .i64 x9 1) p1) else (AP u x8)
def yy (u:Nat) (p0:List Int) (p1:af):Option ((List Int)) :=
  (dW (decide (((([]:List Int)).length+p0.length)*1≤140737488355328))).bind fun _=>(jp u p1).bind fun r2=>bif !r2 then (some ((([]:List Int))++p0)) else ((dX u ((([]:List Int))++p0) p1.aP).bind fun r3=>(dX u r3 p1.aS).bind fun r4=>(dX u r4 p1.aY).bind fun r5=>oz u u r5 0 p1)
def CQ (u:Nat) (p1:af) (s:(List Int)):Option ((List Int)):=(AP u s)
def xt (u:Nat) (p1:af) (y12:bM) (i_:Nat) (s:(List Int)) (k_:((List Int))→Option ((List Int))):Option ((List Int)):=(s7 u s y12.fS).bind fun r13=>(fun z0 z1 z2=>k_ z0) r13 (aX .i64 (i_:Int) 1) p1
theorem KD (u:Nat) (p1:af) (s:(List Int)) (k:Nat) (hn:p1.aD.length≤9223372036854775807) (hk:p1.aD.length < k):oz u k s 0 p1=Pu.bt (CQ u p1) (xt u p1) p1.aD 0 s:=Pu.bP (fun (k:Nat) (s:(List Int)) (i:Int)=>oz u k s i p1) hn (fun _ _ _=>rfl) s hk
def vK (u:Nat) (p0:Int):Option (Int×Int) :=
  some ((fx .i64 p0 1048575,nY .i64 p0 20))
def Ab (u:Nat) (p0 p1:List Int):Option ((List Int)) :=
  (dX u p0 ((p1.length:Int))).bind fun r1=>(dW (decide ((r1.length+p1.length)*1≤140737488355328))).bind fun _=>some (r1++p1)
def mE (u:Nat) (x15:List Int):Option ((List Int)) :=
  (o9 u x15).bind fun r16=>(dX u x15 r16).bind fun r17=>some r17
def yz (u:Nat) (p0:ei):Option ((List Int)) :=
  (xr u p0).bind fun r1=>bif !r1 then (some (([]:List Int))) else ((dX u (([]:List Int)) p0.bz).bind fun r2=>bif p0.bz == 1 then ((yy u r2 p0.av).bind fun r3=>mE u r3) else (bif p0.bz == 2 then ((vK u p0.bw).bind fun r4=>(dX u r2 p0.aP).bind fun r5=>(dX u r5 r4.1).bind fun r6=>(dX u r6 r4.2).bind fun r7=>(vK u p0.bL).bind fun r8=>(dX u r7 r8.1).bind fun r9=>(dX u r9 r8.2).bind fun r10=>mE u r10) else (bif p0.bz == 3 then ((dX u r2 p0.aP).bind fun r11=>(dX u r11 p0.fI).bind fun r12=>(Ab u r12 p0.fB).bind fun r13=>mE u r13) else ((dX u r2 p0.aP).bind fun r14=>mE u r14))))
def iw (u:Nat) (p0 p1:Int) (p2:ei):Option au :=
  (yz u p2).bind fun r1=>some ((au.mk p0 p1 r1))
def uR (u:Nat) (p0:aA):Option Int :=
  some p0.a7.aT
def oA (u:Nat) (p0:List Kid) (p2 r1:Int) (x7:Bool):Option Int :=
  bif x7 then (some 0) else ((ci p0 r1).bind fun y8=>(ci p0 r1).bind fun y9=>some (Aj .i64 (fx .i64 y8.bw p2) y9.c8))
def uS (u:Nat) (p0:List Kid) (p1 p2:Int):Option Int :=
  (uq u p0 p1).bind fun r1=>bif decide (r1 < 0) then (oA u p0 p2 r1 true) else ((cz u p2).bind fun r2=>bif !r2 then (oA u p0 p2 r1 true) else ((ci p0 r1).bind fun y3=>(cz u y3.bw).bind fun r4=>bif !r4 then (oA u p0 p2 r1 true) else ((ci p0 r1).bind fun y5=>(cz u y5.c8).bind fun r6=>oA u p0 p2 r1 (!r6))))
def tQ (u:Nat) (x9:List Int):Option ((List Int)) :=
  some x9
def kW (u:Nat) (Kb:Int→(List Int)→Int→Option ((List Int))) (p0:Int) (x8:List Int) (x4:Int):Option ((List Int)) :=
  Kb p0 x8 (aX .i64 x4 1)
def i9 (u gw:Nat) (p0:Int) (x3:List Int) (x4:Int):Option ((List Int)):=match gw with
  | 0=>none
  | gw+1=>bif decide (x4 < 40) then ((fU u p0 x4).bind fun r7=>bif r7 then ((dW (decide ((x3.length+(([x4]:List Int)).length)*8≤140737488355328))).bind fun _=>kW u (fun z0 z1 z2=>i9 u gw z0 z1 z2) p0 (x3++(([x4]:List Int))) x4) else (kW u (fun z0 z1 z2=>i9 u gw z0 z1 z2) p0 x3 x4)) else (tQ u x3)
def vL (u:Nat) (p0:Int):Option ((List Int)) :=
  i9 u u p0 (([]:List Int)) 0
def BL (u:Nat) (p0:Int) (s:(List Int)):Option ((List Int)):=(tQ u s)
def BM (u:Nat) (p0:Int) (i_:Nat) (s:(List Int)) (k_:((List Int))→Option ((List Int))):Option ((List Int)):=(fU u p0 (i_:Int)).bind fun r7=>bif r7 then ((dW (decide ((s.length+(([(i_:Int)]:List Int)).length)*8≤140737488355328))).bind fun _=>kW u (fun z0 z1 z2=>k_ z1) p0 (s++(([(i_:Int)]:List Int))) (i_:Int)) else (kW u (fun z0 z1 z2=>k_ z1) p0 s (i_:Int))
theorem Ij (u:Nat) (p0:Int) (s:(List Int)) (k:Nat) (hn:(40:Int)≤9223372036854775807) (hk:Int.toNat (40) < k):i9 u k p0 s 0=Pu.qz (BL u p0) (BM u p0) (Int.toNat (40)) 0 s:=Pu.sN (fun (k:Nat) (s:(List Int)) (i:Int)=>i9 u k p0 s i) hn (fun _ _ _=>rfl) s hk
def tR (u:Nat) (p2:Int) (x3:Bool) (p0:af) (p1:aW):Option ((List Int)×Bool) :=
  bif x3 then (some ((([]:List Int),false))) else ((f0 u p0.aS p0.aY p2).bind fun r4=>(dW (dU r4.1 (aX .i64 r4.1 r4.2) p1.bh.length)).bind fun _=>(dW (decide (((([]:List Int)).length+((p1.bh.take (Int.toNat (aX .i64 r4.1 r4.2))).drop (Int.toNat r4.1)).length)*1≤140737488355328))).bind fun _=>some (((([]:List Int))++((p1.bh.take (Int.toNat (aX .i64 r4.1 r4.2))).drop (Int.toNat r4.1)),true)))
def pq (u:Nat) (p0:af) (p1:aW) (p2:Int):Option ((List Int)×Bool) :=
  (nF u p0 p1).bind fun r1=>bif !r1 then (tR u p2 true p0 p1) else ((fU u p1.aT p2).bind fun r2=>tR u p2 (!r2) p0 p1)
def pr (u:Nat) (p0 p1:Int) (p2:List Int):Option ei :=
  (dW (decide (((([]:List Int)).length+p2.length)*1≤140737488355328))).bind fun _=>some ((ei.mk 3 p0 ((af.mk 0 0 0 ([]))) 0 0 p1 ((([]:List Int))++p2)))
def oB (u:Nat) (p2:Int) (p0:List Kid) (r2:Int) (x6:Bool):Option ((List Kid)) :=
  bif x6 then (some ((([]:List Kid))++p0)) else ((ci ((([]:List Kid))++p0) r2).bind fun y7=>(ci ((([]:List Kid))++p0) r2).bind fun y8=>some (((([]:List Kid))++p0).set (Int.toNat r2) ((Kid.mk y7.fb y7.bw y7.bL y7.qM (sV .i64 y7.c8 p2)))))
def qe (u:Nat) (p0:List Kid) (p1 p2:Int):Option ((List Kid)) :=
  (dW (decide (((([]:List Kid)).length+p0.length)*40≤140737488355328))).bind fun _=>(uq u p0 p1).bind fun r2=>bif decide (r2 < 0) then (oB u p2 p0 r2 true) else ((cz u p2).bind fun r3=>bif !r3 then (oB u p2 p0 r2 true) else ((ci p0 r2).bind fun y4=>(cz u y4.c8).bind fun r5=>oB u p2 p0 r2 (!r5)))
def qB (u:Nat) (p2 r3:Int) (p0 r1:aA) (x17:List au):Option Act :=
  (qe u p0.aN p2 r3).bind fun r18=>some ((Act.mk ((aA.mk r1.fK r1.bf r1.be r1.av r1.a7 r1.aJ r18 r1.a8)) x17))
def kp (u:Nat) (Gp:Int→Int→Int→((List Int))→Int→aA→aA→(List au)→Option Act) (p1 p2 r3:Int) (r4:(List Int)) (x7:Int) (p0 r1:aA) (x16:List au):Option Act :=
  Gp p1 p2 r3 r4 (aX .i64 x7 1) p0 r1 x16
def gc (u eO:Nat) (p1 p2 r3:Int) (r4:(List Int)) (x7:Int) (p0 r1:aA) (x8:List au):Option Act:=match eO with
  | 0=>none
  | eO+1=>bif decide (x7 < ((r4.length:Int))) then ((ci r4 x7).bind fun y11=>(pq u p0.av p0.a7 y11).bind fun r12=>bif r12.2 then ((ci r4 x7).bind fun y13=>(pr u p0.av.aP y13 r12.1).bind fun r14=>(iw u p1 p2 r14).bind fun r15=>(dW (decide ((x8.length+([r15]).length)*40≤140737488355328))).bind fun _=>kp u (fun z0 z1 z2 z3 z4 z5 z6 z7=>gc u eO z0 z1 z2 z3 z4 z5 z6 z7) p1 p2 r3 r4 x7 p0 r1 (x8++([r15]))) else (kp u (fun z0 z1 z2 z3 z4 z5 z6 z7=>gc u eO z0 z1 z2 z3 z4 z5 z6 z7) p1 p2 r3 r4 x7 p0 r1 x8)) else (qB u p2 r3 p0 r1 x8)
def qZ (u:Nat) (p0:aA) (p1 p2:Int):Option Act :=
  (fy u p0).bind fun r1=>(uR u p0).bind fun r2=>(uS u p0.aN p2 r2).bind fun r3=>(vL u r3).bind fun r4=>gc u u p1 p2 r3 r4 0 p0 r1 (([]:List au))
def zP (u:Nat) (p1 p2 r3:Int) (r4:(List Int)) (p0 r1:aA) (s:(List au)):Option Act:=(qB u p2 r3 p0 r1 s)
def zQ (u:Nat) (p1 p2 r3:Int) (r4:(List Int)) (p0 r1:aA) (y11:Int) (i_:Nat) (s:(List au)) (k_:((List au))→Option Act):Option Act:=(pq u p0.av p0.a7 y11).bind fun r12=>bif r12.2 then ((ci r4 (i_:Int)).bind fun y13=>(pr u p0.av.aP y13 r12.1).bind fun r14=>(iw u p1 p2 r14).bind fun r15=>(dW (decide ((s.length+([r15]).length)*40≤140737488355328))).bind fun _=>kp u (fun z0 z1 z2 z3 z4 z5 z6 z7=>k_ z7) p1 p2 r3 r4 (i_:Int) p0 r1 (s++([r15]))) else (kp u (fun z0 z1 z2 z3 z4 z5 z6 z7=>k_ z7) p1 p2 r3 r4 (i_:Int) p0 r1 s)
theorem F8 (u:Nat) (p1 p2 r3:Int) (r4:(List Int)) (p0 r1:aA) (s:(List au)) (k:Nat) (hn:r4.length≤9223372036854775807) (hk:r4.length < k):gc u k p1 p2 r3 r4 0 p0 r1 s=Pu.bt (zP u p1 p2 r3 r4 p0 r1) (zQ u p1 p2 r3 r4 p0 r1) r4 0 s:=Pu.bP (fun (k:Nat) (s:(List au)) (i:Int)=>gc u k p1 p2 r3 r4 i p0 r1 s) hn (fun _ _ _=>rfl) s hk
def pt (u:Nat) (r1:aA) (r2:(List Kid)) (x10:List au):Option Act :=
  some ((Act.mk ((aA.mk r1.fK r1.bf r1.be r1.av r1.a7 r1.aJ r2 r1.a8)) x10))
def pu (u:Nat) (r1:aA) (r2:(List Kid)) (r7:Act) (x9:List au):Option Act :=
  some ((Act.mk r7.fN x9))
def pJ (u:Nat) (p0:aA) (p1 p2:Int) (p3:ei):Option Act :=
  (fy u p0).bind fun r1=>bif p2 == p1 then (some ((Act.mk r1 (([]:List au))))) else ((CP u p0.aN p2 p3.bw p3.bL).bind fun r2=>bif p0.aJ == 0 then ((iw u p1 p2 ((ei.mk 4 0 ((af.mk 0 0 0 ([]))) 0 0 0 ([])))).bind fun r3=>(dW (decide (((([]:List au)).length+([r3]).length)*40≤140737488355328))).bind fun _=>pt u r1 r2 ((([]:List au))++([r3]))) else (bif p3.aP != p0.av.aP then ((iw u p1 p2 ((ei.mk 1 0 p0.av 0 0 0 ([])))).bind fun r5=>(dW (decide (((([]:List au)).length+([r5]).length)*40≤140737488355328))).bind fun _=>pt u r1 r2 ((([]:List au))++([r5]))) else ((qZ u ((aA.mk r1.fK r1.bf r1.be r1.av r1.a7 r1.aJ r2 r1.a8)) p1 p2).bind fun r7=>bif ((r7.sU.length:Int)) == 0 then ((iw u p1 p2 ((ei.mk 4 p0.av.aP ((af.mk 0 0 0 ([]))) 0 0 0 ([])))).bind fun r8=>(dW (decide ((r7.sU.length+([r8]).length)*40≤140737488355328))).bind fun _=>pu u r1 r2 r7 (r7.sU++([r8]))) else (pu u r1 r2 r7 r7.sU))))
def s8 (u:Nat) (p0:af):Option aW :=
  (jp u p0).bind fun r1=>bif !r1 then (some ((aW.mk 0 ([])))) else ((dW (decide (0≤p0.aY) && (p0.aY == 0 || p0.aY == p0.aY))).bind fun _=>(dW (decide (Int.toNat p0.aY*1≤140737488355328))).bind fun _=>some ((aW.mk 0 (List.replicate (Int.toNat p0.aY) (0:Int)))))
def Am (u:Nat) (p0:Int):Option Bool :=
  (bB u p0 0 63000).bind fun r1=>some r1
def pK (u:Nat) (p0:Int):Option (Int×Int) :=
  (Am u p0).bind fun r1=>bif !r1 then (some ((0,0))) else (some ((rt .i64 p0 251,Vx .i64 p0 251)))
def xu (u:Nat) (p0 p1:Int):Option Int :=
  (bB u p1 1 1000000000000).bind fun r1=>bif !r1 then (some 0) else ((dW (!(p1 == 0))).bind fun _=>(dW (!(p1 == 0))).bind fun _=>some (rt .i64 (aX .i64 (rt .i64 p0 p1) p1) p1))
def rN (u:Nat) (p0 p1:Int) (p2 p3:Int) (x5:Bool):Option Int :=
  bif x5 then (some p0) else ((pK u p0).bind fun r6=>(xu u (cu .i64 r6.2 (gR .i64 (rt .i64 p1 251) p2)) 251).bind fun r7=>(xu u (aX .i64 (cu .i64 r6.1 p2) p3) 251).bind fun r8=>(xu u (aX .i64 r7 r8) 251).bind fun r9=>some (aX .i64 r8 (gR .i64 251 r9)))
def An (u:Nat) (p0 p1:Int) (p2 p3:Int):Option Int :=
  (Am u p0).bind fun r1=>bif !r1 then (rN u p0 p1 p2 p3 true) else ((bB u p1 1 1000000000000).bind fun r2=>bif !r2 then (rN u p0 p1 p2 p3 true) else ((bB u p2 0 255).bind fun r3=>bif !r3 then (rN u p0 p1 p2 p3 true) else ((bB u p3 0 255).bind fun r4=>rN u p0 p1 p2 p3 (!r4))))
def tT (u:Nat) (x17:List Int):Option ((List Int)) :=
  some x17
def gO (u kS:Nat) (p0:List Int) (p1:Int) (x8:List Int) (x9 x10:Int):Option ((List Int)):=match kS with
  | 0=>none
  | kS+1=>bif decide (x10 < ((p0.length:Int))) then ((ci p0 (cu .i64 x10 p1)).bind fun y14=>(ci p0 x10).bind fun y15=>(An u x9 p1 (IntKind.wrap .i64 y14) (IntKind.wrap .i64 y15)).bind fun r16=>(dW (decide ((x8.length+(([r16]:List Int)).length)*8≤140737488355328))).bind fun _=>(fun z0 z1 z2 z3 z4=>gO u kS z0 z1 z2 z3 z4) p0 p1 (x8++(([r16]:List Int))) r16 (aX .i64 x10 1)) else (tT u x8)
def tU (u:Nat) (p0:List Int) (p1:Int) (x1:Bool):Option ((List Int)) :=
  bif x1 then (some (([]:List Int))) else ((dW (dU 0 p1 p0.length)).bind fun _=>(o9 u ((p0.take (Int.toNat p1)).drop (Int.toNat 0))).bind fun r3=>(dW (decide (((([]:List Int)).length+(([r3]:List Int)).length)*8≤140737488355328))).bind fun _=>gO u u p0 p1 ((([]:List Int))++(([r3]:List Int))) r3 p1)
def vM (u:Nat) (p0:List Int) (p1:Int):Option ((List Int)) :=
  bif decide (p1 < 1) then (tU u p0 p1 true) else (tU u p0 p1 (decide (p1 > ((p0.length:Int)))))
def Ik (u:Nat) (p0:List Int) (p1:Int) (s:(List Int)×Int):Option ((List Int)):=(tT u s.1)
def Il (u:Nat) (p0:List Int) (p1:Int) (i_:Nat) (s:(List Int)×Int) (k_:((List Int)×Int)→Option ((List Int))):Option ((List Int)):=(ci p0 (cu .i64 (i_:Int) p1)).bind fun y14=>(ci p0 (i_:Int)).bind fun y15=>(An u s.2 p1 (IntKind.wrap .i64 y14) (IntKind.wrap .i64 y15)).bind fun r16=>(dW (decide ((s.1.length+(([r16]:List Int)).length)*8≤140737488355328))).bind fun _=>(fun z0 z1 z2 z3 z4=>k_ (z2,z3)) p0 p1 (s.1++(([r16]:List Int))) r16 (aX .i64 (i_:Int) 1)
theorem Wi (u:Nat) (p0:List Int) (p1:Int) (s:(List Int)×Int) (k:Nat) (hn:(((p0.length:Int)):Int)≤9223372036854775807) (hk:Int.toNat (((p0.length:Int))) < k):gO u k p0 p1 s.1 s.2 0=Pu.qz (Ik u p0 p1) (Il u p0 p1) (Int.toNat (((p0.length:Int)))) 0 s:=Pu.sN (fun (k:Nat) (s:(List Int)×Int) (i:Int)=>gO u k p0 p1 s.1 s.2 i) hn (fun _ _ _=>rfl) s hk
def tW (u:Nat)  : Option Int :=
  some (-1)
def nc (u:Nat) (Ka:(List Int)→Int→((List Int))→Int→bM→Option Int) (p0:List Int) (p2:Int) (r2:(List Int)) (x4:Int) (x9:Bool) (p1:bM):Option Int :=
  bif x9 then (some x4) else (Ka p0 p2 r2 (aX .i64 x4 1) p1)
def eA (u gu:Nat) (p0:List Int) (p2:Int) (r2:(List Int)) (x4:Int) (p1:bM):Option Int:=match gu with
  | 0=>none
  | gu+1=>bif decide (x4 < ((r2.length:Int))) then ((ci r2 x4).bind fun y6=>bif y6 == p1.fW then ((dW (dU x4 (aX .i64 x4 p2) p0.length)).bind fun _=>(gY u ((p0.take (Int.toNat (aX .i64 x4 p2))).drop (Int.toNat x4))).bind fun r8=>nc u (fun z0 z1 z2 z3 z4=>eA u gu z0 z1 z2 z3 z4) p0 p2 r2 x4 ([r8.fW,r8.fS] == [p1.fW,p1.fS]) p1) else (nc u (fun z0 z1 z2 z3 z4=>eA u gu z0 z1 z2 z3 z4) p0 p2 r2 x4 false p1)) else (tW u)
def vN (u:Nat) (p0:List Int) (p1:bM) (p2:Int):Option Int :=
  (bB u p2 1 6).bind fun r1=>bif !r1 then (some (-1)) else ((vM u p0 p2).bind fun r2=>eA u u p0 p2 r2 0 p1)
def Im (u:Nat) (p0:List Int) (p2:Int) (r2:(List Int)) (p1:bM) (s:Unit):Option Int:=(tW u)
def Io (u:Nat) (p0:List Int) (p2:Int) (r2:(List Int)) (p1:bM) (y6:Int) (i_:Nat) (s:Unit) (k_:Unit→Option Int):Option Int:=bif y6 == p1.fW then ((dW (dU (i_:Int) (aX .i64 (i_:Int) p2) p0.length)).bind fun _=>(gY u ((p0.take (Int.toNat (aX .i64 (i_:Int) p2))).drop (Int.toNat (i_:Int)))).bind fun r8=>nc u (fun z0 z1 z2 z3 z4=>k_ ()) p0 p2 r2 (i_:Int) ([r8.fW,r8.fS] == [p1.fW,p1.fS]) p1) else (nc u (fun z0 z1 z2 z3 z4=>k_ ()) p0 p2 r2 (i_:Int) false p1)
theorem Wj (u:Nat) (p0:List Int) (p2:Int) (r2:(List Int)) (p1:bM) (s:Unit) (k:Nat) (hn:r2.length≤9223372036854775807) (hk:r2.length < k):eA u k p0 p2 r2 0 p1=Pu.bt (Im u p0 p2 r2 p1) (Io u p0 p2 r2 p1) r2 0 s:=Pu.bP (fun (k:Nat) (s:Unit) (i:Int)=>eA u k p0 p2 r2 i p1) hn (fun _ _ _=>rfl) s hk
def tX (u:Nat) (p0:List Int) (p2:Int) (r1:Int×Int) (x2:Bool) (p1:af):Option Int :=
  bif x2 then (some (-1)) else ((ci p1.aD p2).bind fun y3=>(vN u p0 y3 r1.2).bind fun r4=>some r4)
def rO (u:Nat) (p0:List Int) (p1:af) (p2:Int):Option Int :=
  (f0 u p1.aS p1.aY p2).bind fun r1=>bif r1.2 == 0 then (tX u p0 p2 r1 true p1) else (tX u p0 p2 r1 (decide (p2≥((p1.aD.length:Int)))) p1)
def rP (u:Nat) (p0 p1:Int) (x3:Bool):Option Int :=
  bif x3 then (some p0) else ((dW (decide (0≤p1))).bind fun _=>some (sV .i64 p0 (i4 .i64 1 p1)))
def nT (u:Nat) (p0 p1:Int):Option Int :=
  (cz u p0).bind fun r1=>bif !r1 then (rP u p0 p1 true) else ((bB u p1 0 39).bind fun r2=>rP u p0 p1 (!r2))
def xR (u:Nat) (p2:Int) (p1:aW) (x15:List Int):Option (Bool×aW) :=
  (nT u p1.aT p2).bind fun r16=>some ((true,(aW.mk r16 x15)))
def qf (u nB:Nat) (p2:Int) (p3:List Int) (r6:Int×Int) (x9:Int) (p1:aW) (x10:List Int):Option (Bool×aW):=match nB with
  | 0=>none
  | nB+1=>bif decide (x9 < ((p3.length:Int))) then ((ci p3 x9).bind fun y13=>(ci x10 (aX .i64 r6.1 x9)).bind fun y14=>(fun z0 z1 z2 z3 z4 z5=>qf u nB z0 z1 z2 z3 z4 z5) p2 p3 r6 (aX .i64 x9 1) p1 (x10.set (Int.toNat (aX .i64 r6.1 x9)) y13)) else (xR u p2 p1 x10)
def qg (u:Nat) (p2:Int) (p3:List Int) (x5:Bool) (p0:af) (p1:aW):Option (Bool×aW) :=
  bif x5 then (some ((false,p1))) else ((f0 u p0.aS p0.aY p2).bind fun r6=>qf u u p2 p3 r6 0 p1 p1.bh)
def ur (u:Nat) (p0:af) (p1:aW) (p2:Int) (p3:List Int):Option (Bool×aW) :=
  (bB u p2 0 (cu .i64 ((p0.aD.length:Int)) 1)).bind fun r1=>bif !r1 then (qg u p2 p3 true p0 p1) else ((fU u p1.aT p2).bind fun r2=>bif r2 then (qg u p2 p3 true p0 p1) else ((gY u p3).bind fun r3=>(ci p0.aD p2).bind fun y4=>bif !([r3.fW,r3.fS] == [y4.fW,y4.fS]) then (qg u p2 p3 true p0 p1) else (qg u p2 p3 (decide (((p3.length:Int)) > 6)) p0 p1)))
def zk (u:Nat) (p2:Int) (p3:List Int) (r6:Int×Int) (p1:aW) (s:(List Int)):Option (Bool×aW):=(xR u p2 p1 s)
def zl (u:Nat) (p2:Int) (p3:List Int) (r6:Int×Int) (p1:aW) (y13:Int) (i_:Nat) (s:(List Int)) (k_:((List Int))→Option (Bool×aW)):Option (Bool×aW):=(ci s (aX .i64 r6.1 (i_:Int))).bind fun y14=>(fun z0 z1 z2 z3 z4 z5=>k_ z5) p2 p3 r6 (aX .i64 (i_:Int) 1) p1 (s.set (Int.toNat (aX .i64 r6.1 (i_:Int))) y13)
theorem MP (u:Nat) (p2:Int) (p3:List Int) (r6:Int×Int) (p1:aW) (s:(List Int)) (k:Nat) (hn:p3.length≤9223372036854775807) (hk:p3.length < k):qf u k p2 p3 r6 0 p1 s=Pu.bt (zk u p2 p3 r6 p1) (zl u p2 p3 r6 p1) p3 0 s:=Pu.bP (fun (k:Nat) (s:(List Int)) (i:Int)=>qf u k p2 p3 r6 i p1 s) hn (fun _ _ _=>rfl) s hk
def vO (u:Nat) (x18:Int) (x19:List Int):Option aW :=
  some ((aW.mk x18 x19))
def kt (u:Nat) (Gn:(List Int)→Int→af→Int→(List Int)→Option aW) (p1:List Int) (x6:Int) (p0:af) (x16:Int) (x17:List Int):Option aW :=
  Gn p1 (aX .i64 x6 1) p0 x16 x17
def gf (u eN:Nat) (p1:List Int) (x6:Int) (p0:af) (x7:Int) (x8:List Int):Option aW:=match eN with
  | 0=>none
  | eN+1=>bif decide (x6 < ((p0.aD.length:Int))) then ((rO u p1 p0 x6).bind fun r12=>(f0 u p0.aS p0.aY x6).bind fun r13=>bif decide (r12≥0) then ((dW (dU r12 (aX .i64 r12 r13.2) p1.length)).bind fun _=>(ur u p0 ((aW.mk x7 x8)) x6 ((p1.take (Int.toNat (aX .i64 r12 r13.2))).drop (Int.toNat r12))).bind fun r15=>kt u (fun z0 z1 z2 z3 z4=>gf u eN z0 z1 z2 z3 z4) p1 x6 p0 r15.2.aT r15.2.bh) else (kt u (fun z0 z1 z2 z3 z4=>gf u eN z0 z1 z2 z3 z4) p1 x6 p0 x7 x8)) else (vO u x7 x8)
def q5 (u:Nat) (p0:af) (p1:List Int):Option aW :=
  (s8 u p0).bind fun r1=>(jp u p0).bind fun r2=>bif !r2 then (some r1) else (gf u u p1 0 p0 r1.aT r1.bh)
def zR (u:Nat) (p1:List Int) (p0:af) (s:Int×(List Int)):Option aW:=(vO u s.1 s.2)
def sH (u:Nat) (p1:List Int) (p0:af) (i_:Nat) (s:Int×(List Int)) (k_:(Int×(List Int))→Option aW):Option aW:=(rO u p1 p0 (i_:Int)).bind fun r12=>(f0 u p0.aS p0.aY (i_:Int)).bind fun r13=>bif decide (r12≥0) then ((dW (dU r12 (aX .i64 r12 r13.2) p1.length)).bind fun _=>(ur u p0 ((aW.mk s.1 s.2)) (i_:Int) ((p1.take (Int.toNat (aX .i64 r12 r13.2))).drop (Int.toNat r12))).bind fun r15=>kt u (fun z0 z1 z2 z3 z4=>k_ (z3,z4)) p1 (i_:Int) p0 r15.2.aT r15.2.bh) else (kt u (fun z0 z1 z2 z3 z4=>k_ (z3,z4)) p1 (i_:Int) p0 s.1 s.2)
theorem F9 (u:Nat) (p1:List Int) (p0:af) (s:Int×(List Int)) (k:Nat) (hn:(((p0.aD.length:Int)):Int)≤9223372036854775807) (hk:Int.toNat (((p0.aD.length:Int))) < k):gf u k p1 0 p0 s.1 s.2=Pu.qz (zR u p1 p0) (sH u p1 p0) (Int.toNat (((p0.aD.length:Int)))) 0 s:=Pu.sN (fun (k:Nat) (s:Int×(List Int)) (i:Int)=>gf u k p1 i p0 s.1 s.2) hn (fun _ _ _=>rfl) s hk
def AQ (u:Nat) (p0:af) (p1:List Int):Option Bool :=
  bif ((p1.length:Int)) == p0.aY then ((uM u p1 p0.aS).bind fun r1=>(m7 u r1 p0.aD).bind fun r2=>some r2) else (some false)
def tY (u:Nat) (r1:aA) (r7:af) (r8:aW) (x11:Int):Option aA :=
  some ((aA.mk r1.fK r1.bf r1.be r7 r8 x11 r1.aN r1.a8))
def tZ (u:Nat) (x10:Bool) (r1:aA) (r7:af) (r8:aW):Option aA :=
  bif x10 then (tY u r1 r7 r8 5) else (tY u r1 r7 r8 1)
def t1 (u:Nat) (x5:Bool) (p1:aG) (p2:af) (r1:aA):Option aA :=
  bif x5 then (some r1) else ((rJ u p1).bind fun r6=>(uP u p2).bind fun r7=>(q5 u p2 r6.2).bind fun r8=>bif r6.1 == p2.aP then ((AQ u p2 r6.2).bind fun r9=>tZ u r9 r1 r7 r8) else (tZ u false r1 r7 r8))
def vP (u:Nat) (p0:aA) (p1:aG) (p2:af):Option aA :=
  (fy u p0).bind fun r1=>bif p0.aJ != 0 then ((jL u p0.av p2).bind fun r2=>bif !r2 then ((lz u p0).bind fun r3=>some r3) else (some r1)) else ((jp u p2).bind fun r4=>bif !r4 then (t1 u true p1 p2 r1) else (t1 u (p2.aP == 0) p1 p2 r1))
def rQ (u:Nat) (x4:Bool) (x5:Int) (x6:List Int):Option (aW×Bool) :=
  bif x4 then (some (((aW.mk x5 x6),false))) else (some (((aW.mk x5 x6),true)))
def s9 (u:Nat) (p0:af) (p1:aW) (p2:Int) (p3:List Int):Option (aW×Bool) :=
  (uQ u p1).bind fun r1=>(nF u p0 p1).bind fun r2=>bif !r2 then (rQ u true r1.aT r1.bh) else ((ur u p0 r1 p2 p3).bind fun r3=>rQ u (!r3.1) r3.2.aT r3.2.bh)
def t2 (u:Nat) (r1:aA) (x24:List Kid) (x25:List au):Option Act :=
  some ((Act.mk ((aA.mk r1.fK r1.bf r1.be r1.av r1.a7 r1.aJ x24 r1.a8)) x25))
def t6 (u:Nat) (qK:Int→Int→((List Int)×Bool)→Int→aA→aA→(List Kid)→(List au)→Option Act) (p1 p2:Int) (r2:(List Int)×Bool) (x6:Int) (p0 r1:aA) (x22:List Kid) (x23:List au):Option Act :=
  qK p1 p2 r2 (aX .i64 x6 1) p0 r1 x22 x23
def ng (u:Nat) (qK:Int→Int→((List Int)×Bool)→Int→aA→aA→(List Kid)→(List au)→Option Act) (p1 p2:Int) (r2:(List Int)×Bool) (x6:Int) (x12:Bool) (p0 r1:aA) (x7:List Kid) (x8:List au):Option Act :=
  bif x12 then ((ci p0.aN x6).bind fun y13=>(uR u p0).bind fun r14=>(uS u x7 y13.fb r14).bind fun r15=>(fU u r15 p2).bind fun r16=>bif r16 then ((pr u p0.av.aP p2 r2.1).bind fun r17=>(iw u p1 y13.fb r17).bind fun r18=>(dW (decide ((x8.length+([r18]).length)*40≤140737488355328))).bind fun _=>(nT u 0 p2).bind fun r20=>(qe u x7 y13.fb r20).bind fun r21=>t6 u qK p1 p2 r2 x6 p0 r1 r21 (x8++([r18]))) else (t6 u qK p1 p2 r2 x6 p0 r1 x7 x8)) else (t2 u r1 x7 x8)
def eB (u fa:Nat) (p1 p2:Int) (r2:(List Int)×Bool) (x6:Int) (p0 r1:aA) (x7:List Kid) (x8:List au):Option Act:=match fa with
  | 0=>none
  | fa+1=>bif decide (x6 < ((p0.aN.length:Int))) then (ng u (fun z0 z1 z2 z3 z4 z5 z6 z7=>eB u fa z0 z1 z2 z3 z4 z5 z6 z7) p1 p2 r2 x6 r2.2 p0 r1 x7 x8) else (ng u (fun z0 z1 z2 z3 z4 z5 z6 z7=>eB u fa z0 z1 z2 z3 z4 z5 z6 z7) p1 p2 r2 x6 false p0 r1 x7 x8)
def vQ (u:Nat) (p0:aA) (p1 p2:Int):Option Act :=
  (fy u p0).bind fun r1=>(pq u p0.av p0.a7 p2).bind fun r2=>eB u u p1 p2 r2 0 p0 r1 r1.aN (([]:List au))
def rS (u:Nat) (p1:Int) (x1:Bool) (p0:aA) (p2:ei):Option Act :=
  bif x1 then ((lz u p0).bind fun r2=>some ((Act.mk r2 (([]:List au))))) else ((fU u p0.a7.aT p2.fI).bind fun r3=>bif r3 then ((fy u p0).bind fun r4=>some ((Act.mk r4 (([]:List au))))) else ((s9 u p0.av p0.a7 p2.fI p2.fB).bind fun r5=>bif !r5.2 then ((lz u p0).bind fun r6=>some ((Act.mk r6 (([]:List au))))) else ((fy u p0).bind fun r7=>(vQ u ((aA.mk r7.fK r7.bf r7.be r7.av r5.1 r7.aJ r7.aN r7.a8)) p1 p2.fI).bind fun r8=>some r8)))
def ta (u:Nat) (p0:aA) (p1:Int) (p2:ei):Option Act :=
  bif p0.aJ == 0 then (rS u p1 true p0 p2) else (rS u p1 (p2.aP != p0.av.aP) p0 p2)
def oC (u:Nat) (x4:Bool) (x5 x6:Int) (x7 x8 x9:Int) (x10:List bM) (x11:Int) (x12:List Int) (x13:Int) (x14:List Kid) (x15:Int):Option Act :=
  some ((Act.mk ((aA.mk x4 x5 x6 ((af.mk x7 x8 x9 x10)) ((aW.mk x11 x12)) x13 x14 x15)) (([]:List au))))
def tc (u:Nat) (p0:aA) (p1:Int) (p2:aG) (p3:ei):Option Act :=
  (fy u p0).bind fun r1=>bif p3.bz == 1 then ((vP u ((aA.mk r1.fK r1.bf 0 r1.av r1.a7 r1.aJ r1.aN r1.a8)) p2 p3.av).bind fun r2=>oC u r2.fK r2.bf r2.be r2.av.aP r2.av.aS r2.av.aY r2.av.aD r2.a7.aT r2.a7.bh r2.aJ r2.aN r2.a8) else (bif p3.bz == 3 then ((ta u ((aA.mk r1.fK r1.bf 0 r1.av r1.a7 r1.aJ r1.aN r1.a8)) p1 p3).bind fun r3=>some r3) else (bif p3.bz == 2 then (oC u r1.fK r1.bf 0 r1.av.aP r1.av.aS r1.av.aY r1.av.aD r1.a7.aT r1.a7.bh r1.aJ r1.aN (aX .i64 r1.a8 1)) else (oC u r1.fK r1.bf 0 r1.av.aP r1.av.aS r1.av.aY r1.av.aD r1.a7.aT r1.a7.bh r1.aJ r1.aN r1.a8)))
def vR (u:Nat) (p1:Int) (x4:Bool) (p2:aA) (p3:aG) (p4:au) (r2:ei×Bool):Option Act :=
  bif x4 then ((lz u p2).bind fun r5=>some ((Act.mk r5 (([]:List au))))) else (bif r2.1.bz == 2 then ((pJ u p2 p1 p4.du r2.1).bind fun r6=>some r6) else (bif p4.du == p2.bf then ((tc u p2 p1 p3 r2.1).bind fun r7=>some r7) else ((lz u p2).bind fun r8=>some ((Act.mk r8 (([]:List au)))))))
def CR (u:Nat) (p0:co) (p1:Int) (p2:aA) (p3:aG) (p4:au):Option Act :=
  bif !p2.fK then ((fy u p2).bind fun r1=>some ((Act.mk r1 (([]:List au))))) else ((yx u p4.fB).bind fun r2=>bif !r2.2 then (vR u p1 true p2 p3 p4 r2) else ((bB u p4.du 0 (cu .i64 ((p0.cy.length:Int)) 1)).bind fun r3=>bif !r3 then (vR u p1 true p2 p3 p4 r2) else (vR u p1 (p4.du == p1) p2 p3 p4 r2)))
def xv (u:Nat)  : Option Bool :=
  some true
def jr (u jG:Nat) (x5:Int) (p0 p1:aA):Option Bool:=match jG with
  | 0=>none
  | jG+1=>bif decide (x5 < ((p0.aN.length:Int))) then ((ci p0.aN x5).bind fun y7=>(ci p1.aN x5).bind fun y8=>bif !([y7.fb,y7.bw,y7.bL,y7.qM,y7.c8] == [y8.fb,y8.bw,y8.bL,y8.qM,y8.c8]) then (some false) else ((fun z0 z1 z2=>jr u jG z0 z1 z2) (aX .i64 x5 1) p0 p1)) else (xv u)
def d7 (u:Nat) (x3:Bool) (p0 p1:aA):Option Bool :=
  bif x3 then (some false) else (jr u u 0 p0 p1)
def qh (u:Nat) (p0 p1:aA):Option Bool :=
  bif !(p0.fK == p1.fK) then (d7 u true p0 p1) else (bif p0.bf != p1.bf then (d7 u true p0 p1) else (bif p0.be != p1.be then (d7 u true p0 p1) else ((jL u p0.av p1.av).bind fun r1=>bif !r1 then (d7 u true p0 p1) else (bif p0.a7.aT != p1.a7.aT then (d7 u true p0 p1) else ((oq u p0.a7.bh p1.a7.bh).bind fun r2=>bif !r2 then (d7 u true p0 p1) else (bif p0.aJ != p1.aJ then (d7 u true p0 p1) else (bif ((p0.aN.length:Int)) != ((p1.aN.length:Int)) then (d7 u true p0 p1) else (d7 u (p0.a8 != p1.a8) p0 p1))))))))
def G1 (u:Nat) (p0 p1:aA) (s:Unit):Option Bool:=(xv u)
def AR (u:Nat) (p0 p1:aA) (y7:Kid) (i_:Nat) (s:Unit) (k_:Unit→Option Bool):Option Bool:=(ci p1.aN (i_:Int)).bind fun y8=>bif !([y7.fb,y7.bw,y7.bL,y7.qM,y7.c8] == [y8.fb,y8.bw,y8.bL,y8.qM,y8.c8]) then (some false) else ((fun z0 z1 z2=>k_ ()) (aX .i64 (i_:Int) 1) p0 p1)
theorem G2 (u:Nat) (p0 p1:aA) (s:Unit) (k:Nat) (hn:p0.aN.length≤9223372036854775807) (hk:p0.aN.length < k):jr u k 0 p0 p1=Pu.bt (G1 u p0 p1) (AR u p0 p1) p0.aN 0 s:=Pu.bP (fun (k:Nat) (s:Unit) (i:Int)=>jr u k i p0 p1) hn (fun _ _ _=>rfl) s hk
def Ac (u:Nat) (p0:co) (p1:Int) (p2:aA) (p3:aG) (p4:au):Option Bool :=
  (CR u p0 p1 p2 p3 p4).bind fun r1=>bif ((r1.sU.length:Int)) == 0 then ((qh u ((aA.mk r1.fN.fK r1.fN.bf r1.fN.be r1.fN.av r1.fN.a7 r1.fN.aJ r1.fN.aN p2.a8)) p2).bind fun r2=>some r2) else (some false)
def pL (u:Nat) (p0:World) (p1:Int):Option Bool :=
  (ci p0.eo p1).bind fun y1=>(ci p0.fN y1.GU).bind fun y2=>(ci p0.fD y1.GU).bind fun y3=>(Ac u p0.fT y1.GU y2 y3 y1).bind fun r4=>some r4
def q6 (u:Nat) (p0:World) (p1:Int):Option Bool :=
  (vC u p0).bind fun r1=>bif r1 then ((bB u p1 0 (cu .i64 ((p0.eo.length:Int)) 1)).bind fun r2=>bif r2 then ((pL u p0 p1).bind fun r3=>some r3) else (some false)) else (some false)
def bC (u:Nat) (p0 p1 p2:Int):Option Bool :=
  bif decide (p0≥p1) then (some (decide (p0≤p2))) else (some false)
def yA (u:Nat) (p0:vg):Option Bool :=
  (bC u p0.aS 2 6).bind fun r1=>bif r1 then ((bC u p0.gA 1 40).bind fun r2=>bif r2 then ((bC u p0.ep 1 5).bind fun r3=>bif r3 then ((bC u p0.ij 2 8).bind fun r4=>some r4) else (some false)) else (some false)) else (some false)
def vS (u:Nat) (p0:co):Option Bool :=
  (bC u ((p0.cy.length:Int)) 1 7).bind fun r8=>some r8
def eC (u:Nat) (Mg:co→Int→Option Bool) (p0:co) (x2:Int) (x7:Bool):Option Bool :=
  bif x7 then (some false) else (Mg p0 (aX .i64 x2 1))
def fj (u ed:Nat) (p0:co) (x2:Int):Option Bool:=match ed with
  | 0=>none
  | ed+1=>bif decide (x2 < ((p0.cy.length:Int))) then ((ci p0.cy x2).bind fun y4=>bif x2 == 0 then (bif y4 != (-1) then (eC u (fun z0 z1=>fj u ed z0 z1) p0 x2 true) else (bif decide (x2 > 0) then ((bC u y4 0 (cu .i64 x2 1)).bind fun r5=>eC u (fun z0 z1=>fj u ed z0 z1) p0 x2 (!r5)) else (eC u (fun z0 z1=>fj u ed z0 z1) p0 x2 false))) else (bif decide (x2 > 0) then ((bC u y4 0 (cu .i64 x2 1)).bind fun r6=>eC u (fun z0 z1=>fj u ed z0 z1) p0 x2 (!r6)) else (eC u (fun z0 z1=>fj u ed z0 z1) p0 x2 false))) else (vS u p0)
def uT (u:Nat) (p0:co):Option Bool :=
  fj u u p0 0
def CS (u:Nat) (p0:co) (s:Unit):Option Bool:=(vS u p0)
def CT (u:Nat) (p0:co) (y4:Int) (i_:Nat) (s:Unit) (k_:Unit→Option Bool):Option Bool:=bif (i_:Int) == 0 then (bif y4 != (-1) then (eC u (fun z0 z1=>k_ ()) p0 (i_:Int) true) else (bif decide ((i_:Int) > 0) then ((bC u y4 0 (cu .i64 (i_:Int) 1)).bind fun r5=>eC u (fun z0 z1=>k_ ()) p0 (i_:Int) (!r5)) else (eC u (fun z0 z1=>k_ ()) p0 (i_:Int) false))) else (bif decide ((i_:Int) > 0) then ((bC u y4 0 (cu .i64 (i_:Int) 1)).bind fun r6=>eC u (fun z0 z1=>k_ ()) p0 (i_:Int) (!r6)) else (eC u (fun z0 z1=>k_ ()) p0 (i_:Int) false))
theorem KE (u:Nat) (p0:co) (s:Unit) (k:Nat) (hn:p0.cy.length≤9223372036854775807) (hk:p0.cy.length < k):fj u k p0 0=Pu.bt (CS u p0) (CT u p0) p0.cy 0 s:=Pu.bP (fun (k:Nat) (s:Unit) (i:Int)=>fj u k p0 i) hn (fun _ _ _=>rfl) s hk
def pe (u:Nat) (p0 p1:Int):Option Bool :=
  (bC u p0 2 6).bind fun r1=>bif r1 then ((bC u p1 0 (gR .i64 40 p0)).bind fun r2=>some r2) else (some false)
def rT (u:Nat) (p0:ba):Option Bool :=
  some (decide (((p0.fB.length:Int)) > 240))
def cM (u:Nat)  : Option Int :=
  some (-1)
def bn (u bk:Nat) (p0:List ba) (x2:Int):Option Int:=match bk with
  | 0=>none
  | bk+1=>bif decide (x2 < ((p0.length:Int))) then ((ci p0 x2).bind fun y4=>(rT u y4).bind fun r5=>bif r5 then (some x2) else ((fun z0 z1=>bn u bk z0 z1) p0 (aX .i64 x2 1))) else (cM u)
def cj (u:Nat) (p0:List ba):Option Int :=
  bn u u p0 0
def io (u:Nat) (p0:List ba) (s:Unit):Option Int:=(cM u)
def ip (u:Nat) (p0:List ba) (y4:ba) (i_:Nat) (s:Unit) (k_:Unit→Option Int):Option Int:=(rT u y4).bind fun r5=>bif r5 then (some (i_:Int)) else ((fun z0 z1=>k_ ()) p0 (aX .i64 (i_:Int) 1))
theorem iq (u:Nat) (p0:List ba) (s:Unit) (k:Nat) (hn:p0.length≤9223372036854775807) (hk:p0.length < k):bn u k p0 0=Pu.bt (io u p0) (ip u p0) p0 0 s:=Pu.bP (fun (k:Nat) (s:Unit) (i:Int)=>bn u k p0 i) hn (fun _ _ _=>rfl) s hk
def cf (u:Nat) (p0:List ba):Option Bool :=
  (cj u p0).bind fun r1=>some (decide (r1≥0))
def q7 (u:Nat) (p0:co) (p1:List ba):Option Bool :=
  bif ((p1.length:Int)) == ((p0.cy.length:Int)) then ((cf u p1).bind fun r1=>some (!r1)) else (some false)
def t7 (u:Nat) (p0 p1:Int) (x3:Bool):Option Int :=
  bif x3 then (some 0) else ((dW (!(p1 == 0))).bind fun _=>some (Vx .i64 (cu .i64 (aX .i64 p0 p1) 1) p1))
def vT (u:Nat) (p0 p1:Int):Option Int :=
  (bC u p0 0 1000000000000).bind fun r1=>bif !r1 then (t7 u p0 p1 true) else ((bC u p1 1 1000000000000).bind fun r2=>t7 u p0 p1 (!r2))
def pf (u:Nat) (p0 p1:Int):Option Int :=
  (pe u p0 p1).bind fun r1=>bif !r1 then (some 0) else ((vT u p1 p0).bind fun r2=>some r2)
def ja (u:Nat) (p0 p1 p2:Int):Option (Int×Int) :=
  (pf u p0 p1).bind fun r1=>(bC u p2 0 (cu .i64 r1 1)).bind fun r2=>bif !r2 then (some ((0,0))) else (some ((gR .i64 p2 p0,if (cu .i64 p1 (gR .i64 p2 p0)) < p0 then (cu .i64 p1 (gR .i64 p2 p0)) else p0)))
def gj (u:Nat) (p0:List Int):Option ((List Int)) :=
  (dW (decide (0≤((p0.length:Int))) && (0 == 0 || 0 == ((p0.length:Int))))).bind fun _=>(dW (decide (Int.toNat ((p0.length:Int))*1≤140737488355328))).bind fun _=>(dW (decide (((List.replicate (Int.toNat 0) (0:Int)).length+p0.length)*1≤140737488355328))).bind fun _=>some ((List.replicate (Int.toNat 0) (0:Int))++p0)
def td (u:Nat) (p0:List Int) (p1 p2:Int) (x3:Bool):Option ((List Int)×Bool) :=
  bif x3 then (some (([],false))) else ((dW (dU p1 (aX .i64 p1 p2) p0.length)).bind fun _=>(gj u ((p0.take (Int.toNat (aX .i64 p1 p2))).drop (Int.toNat p1))).bind fun r5=>some ((r5,true)))
def ut (u:Nat) (p0:List Int) (p1 p2:Int):Option ((List Int)×Bool) :=
  (bC u p1 0 ((p0.length:Int))).bind fun r1=>bif !r1 then (td u p0 p1 p2 true) else ((bC u p2 0 (cu .i64 ((p0.length:Int)) p1)).bind fun r2=>td u p0 p1 p2 (!r2))
def rU (u:Nat) (p0:List Int) (p1 p2:Int):Option ((List Int)×Bool) :=
  (ja u p1 ((p0.length:Int)) p2).bind fun r1=>bif r1.2 == 0 then (some (([],false))) else ((ut u p0 r1.1 r1.2).bind fun r2=>some ((r2.1,r2.2)))
def Ao (u:Nat) (p0 p1:Int):Option Int :=
  (bC u p1 1 1000000000000).bind fun r1=>bif !r1 then (some 0) else ((dW (!(p1 == 0))).bind fun _=>(dW (!(p1 == 0))).bind fun _=>some (rt .i64 (aX .i64 (rt .i64 p0 p1) p1) p1))
def CU (u:Nat) (p0 p1:Int):Option Int :=
  (Ao u p0 251).bind fun r1=>(Ao u p1 251).bind fun r2=>some (aX .i64 r1 (gR .i64 251 r2))
def q8 (u:Nat) (x11 x12:Int):Option Int :=
  (CU u x11 x12).bind fun r13=>some r13
def oD (u mb:Nat) (x4 x5:Int) (p0:List Int) (x6:Int):Option Int:=match mb with
  | 0=>none
  | mb+1=>bif decide (x6 < ((p0.length:Int))) then ((ci p0 x6).bind fun y10=>(fun z0 z1 z2 z3=>oD u mb z0 z1 z2 z3) (rt .i64 (aX .i64 x4 (IntKind.wrap .i64 y10)) 251) (rt .i64 (aX .i64 x5 (rt .i64 (aX .i64 x4 (IntKind.wrap .i64 y10)) 251)) 251) p0 (aX .i64 x6 1)) else (q8 u x4 x5)
def pg (u:Nat) (p0:List Int):Option Int :=
  oD u u 0 0 p0 0
def CW (u:Nat) (p0:List Int) (s:Int×Int):Option Int:=(q8 u s.1 s.2)
def xw (u:Nat) (p0:List Int) (y10:Int) (i_:Nat) (s:Int×Int) (k_:(Int×Int)→Option Int):Option Int:=(fun z0 z1 z2 z3=>k_ (z0,z1)) (rt .i64 (aX .i64 s.1 (IntKind.wrap .i64 y10)) 251) (rt .i64 (aX .i64 s.2 (rt .i64 (aX .i64 s.1 (IntKind.wrap .i64 y10)) 251)) 251) p0 (aX .i64 (i_:Int) 1)
theorem KF (u:Nat) (p0:List Int) (s:Int×Int) (k:Nat) (hn:p0.length≤9223372036854775807) (hk:p0.length < k):oD u k s.1 s.2 p0 0=Pu.bt (CW u p0) (xw u p0) p0 0 s:=Pu.bP (fun (k:Nat) (s:Int×Int) (i:Int)=>oD u k s.1 s.2 p0 i) hn (fun _ _ _=>rfl) s hk
def te (u:Nat) (p0:List Int) (x8:Int):Option bM :=
  (pg u p0).bind fun r9=>some ((bM.mk r9 x8))
def qi (u ny:Nat) (p0:List Int) (x3 x4:Int):Option bM:=match ny with
  | 0=>none
  | ny+1=>bif decide (x4 < ((p0.length:Int))) then ((ci p0 x4).bind fun y7=>(fun z0 z1 z2=>qi u ny z0 z1 z2) p0 (sV .i64 (i4 .i64 x3 8) (IntKind.wrap .i64 y7)) (aX .i64 x4 1)) else (te u p0 x3)
def kX (u:Nat) (p0:List Int):Option bM :=
  bif decide (((p0.length:Int)) > 6) then (some ((bM.mk 0 0))) else (qi u u p0 1 0)
def Eb (u:Nat) (p0:List Int) (s:Int):Option bM:=(te u p0 s)
def zn (u:Nat) (p0:List Int) (y7:Int) (i_:Nat) (s:Int) (k_:Int→Option bM):Option bM:=(fun z0 z1 z2=>k_ z1) p0 (sV .i64 (i4 .i64 s 8) (IntKind.wrap .i64 y7)) (aX .i64 (i_:Int) 1)
theorem MQ (u:Nat) (p0:List Int) (s:Int) (k:Nat) (hn:p0.length≤9223372036854775807) (hk:p0.length < k):qi u k p0 s 0=Pu.bt (Eb u p0) (zn u p0) p0 0 s:=Pu.bP (fun (k:Nat) (s i:Int)=>qi u k p0 s i) hn (fun _ _ _=>rfl) s hk
def AS (u:Nat) (x10:List bM):Option ((List bM)) :=
  some x10
def oE (u ma:Nat) (p0:List Int) (p1:Int) (x4:List bM) (r1 x5:Int):Option ((List bM)):=match ma with
  | 0=>none
  | ma+1=>bif decide (x5 < r1) then ((rU u p0 p1 x5).bind fun r8=>(kX u r8.1).bind fun r9=>(dW (decide ((x4.length+([r9]).length)*16≤140737488355328))).bind fun _=>(fun z0 z1 z2 z3 z4=>oE u ma z0 z1 z2 z3 z4) p0 p1 (x4++([r9])) r1 (aX .i64 x5 1)) else (AS u x4)
def uU (u:Nat) (p0:List Int) (p1:Int):Option ((List bM)) :=
  (pf u p1 ((p0.length:Int))).bind fun r1=>oE u u p0 p1 (([]:List bM)) r1 0
def KG (u:Nat) (p0:List Int) (p1 r1:Int) (s:(List bM)):Option ((List bM)):=(AS u s)
def CX (u:Nat) (p0:List Int) (p1 r1:Int) (i_:Nat) (s:(List bM)) (k_:((List bM))→Option ((List bM))):Option ((List bM)):=(rU u p0 p1 (i_:Int)).bind fun r8=>(kX u r8.1).bind fun r9=>(dW (decide ((s.length+([r9]).length)*16≤140737488355328))).bind fun _=>(fun z0 z1 z2 z3 z4=>k_ z2) p0 p1 (s++([r9])) r1 (aX .i64 (i_:Int) 1)
theorem KH (u:Nat) (p0:List Int) (p1 r1:Int) (s:(List bM)) (k:Nat) (hn:(r1:Int)≤9223372036854775807) (hk:Int.toNat (r1) < k):oE u k p0 p1 s r1 0=Pu.qz (KG u p0 p1 r1) (CX u p0 p1 r1) (Int.toNat (r1)) 0 s:=Pu.sN (fun (k:Nat) (s:(List bM)) (i:Int)=>oE u k p0 p1 s r1 i) hn (fun _ _ _=>rfl) s hk
def xS (u:Nat) (p0:Int) (p1:List Int) (p2:Int) (x3:Bool):Option af :=
  bif x3 then (some ((af.mk 0 0 0 ([])))) else ((uU u p1 p2).bind fun r4=>some ((af.mk p0 p2 ((p1.length:Int)) r4)))
def AT (u:Nat) (p0:Int) (p1:List Int) (p2:Int):Option af :=
  (bC u p0 1 1000000).bind fun r1=>bif !r1 then (xS u p0 p1 p2 true) else ((pe u p2 ((p1.length:Int))).bind fun r2=>xS u p0 p1 p2 (!r2))
def AU (u:Nat) (p0:World):Option af :=
  (AT u 1 p0.jh p0.fC.aS).bind fun r1=>some r1
def ee (u:Nat) (p0:co) (p1:Int):Option Bool :=
  (bC u p1 0 (cu .i64 ((p0.cy.length:Int)) 1)).bind fun r1=>some r1
def iG (u:Nat) (p0:af):Option Bool :=
  bif p0.aP == 0 then (bif p0.aS == 0 then (bif p0.aY == 0 then (some (((p0.aD.length:Int)) == 0)) else (some false)) else (some false)) else (some false)
def lR (u:Nat) (p0:aW):Option Bool :=
  bif p0.aT == 0 then (some (((p0.bh.length:Int)) == 0)) else (some false)
def t8 (u:Nat) (p0:aA):Option Bool :=
  bif !p0.fK then (bif p0.bf == 0 then (bif p0.be == 0 then ((iG u p0.av).bind fun r1=>bif r1 then ((lR u p0.a7).bind fun r2=>bif r2 then (bif p0.aJ == 0 then (bif ((p0.aN.length:Int)) == 0 then (some (p0.a8 == 0)) else (some false)) else (some false)) else (some false)) else (some false)) else (some false)) else (some false)) else (some false)
def vU (u:Nat) (x11:List Int):Option ((List Int)) :=
  some x11
def q9 (u:Nat) (Mf:Int→(List Int)→co→Option ((List Int))) (x3:Int) (x4:List Int) (x8:Bool) (p0:co):Option ((List Int)) :=
  bif x8 then ((dW (decide ((x4.length+(([x3]:List Int)).length)*8≤140737488355328))).bind fun _=>(ci p0.cy x3).bind fun y10=>Mf y10 (x4++(([x3]:List Int))) p0) else (vU u x4)
def iH (u ia:Nat) (x3:Int) (x4:List Int) (p0:co):Option ((List Int)):=match ia with
  | 0=>none
  | ia+1=>(ee u p0 x3).bind fun r7=>bif r7 then (q9 u (fun z0 z1 z2=>iH u ia z0 z1 z2) x3 x4 (decide (((x4.length:Int)) < ((p0.cy.length:Int)))) p0) else (q9 u (fun z0 z1 z2=>iH u ia z0 z1 z2) x3 x4 false p0)
def yB (u:Nat) (p0:co) (p1:Int):Option ((List Int)) :=
  iH u u p1 (([]:List Int)) p0
def m1 (u:Nat)  : Option Int :=
  some (-1)
def er (u dV:Nat) (p0:List Int) (p1 x2:Int):Option Int:=match dV with
  | 0=>none
  | dV+1=>bif decide (x2 < ((p0.length:Int))) then ((ci p0 x2).bind fun y4=>bif p1 == y4 then (some x2) else ((fun z0 z1 z2=>er u dV z0 z1 z2) p0 p1 (aX .i64 x2 1))) else (m1 u)
def lB (u:Nat) (p0:List Int) (p1:Int):Option Int :=
  er u u p0 p1 0
def Ad (u:Nat) (p0:List Int) (p1:Int) (s:Unit):Option Int:=(m1 u)
def qC (u:Nat) (p0:List Int) (p1 y4:Int) (i_:Nat) (s:Unit) (k_:Unit→Option Int):Option Int:=bif p1 == y4 then (some (i_:Int)) else ((fun z0 z1 z2=>k_ ()) p0 p1 (aX .i64 (i_:Int) 1))
theorem Ae (u:Nat) (p0:List Int) (p1:Int) (s:Unit) (k:Nat) (hn:p0.length≤9223372036854775807) (hk:p0.length < k):er u k p0 p1 0=Pu.bt (Ad u p0 p1) (qC u p0 p1) p0 0 s:=Pu.bP (fun (k:Nat) (s:Unit) (i:Int)=>er u k p0 p1 i) hn (fun _ _ _=>rfl) s hk
def fL (u:Nat) (p0:List Int) (p1:Int):Option Bool :=
  (lB u p0 p1).bind fun r1=>some (decide (r1≥0))
def qj (u:Nat) (p0:co) (p1 p2:Int):Option Bool :=
  bif p1 != p2 then ((yB u p0 p2).bind fun r1=>(fL u r1 p1).bind fun r2=>some r2) else (some false)
def zo (u:Nat) (x17:List Int):Option ((List Int)×Bool) :=
  some ((x17,true))
def nh (u kE:Nat) (p0 x5:Int) (x11:List Int) (x12:Int):Option ((List Int)×Bool):=match kE with
  | 0=>none
  | kE+1=>bif decide (x12 < (((List.replicate (Int.toNat x5) (0:Int)).length:Int))) then ((dW (decide (0≤(gR .i64 8 (cu .i64 (cu .i64 x5 1) x12))))).bind fun _=>(ci x11 x12).bind fun y16=>(fun z0 z1 z2 z3=>nh u kE z0 z1 z2 z3) p0 x5 (x11.set (Int.toNat x12) (IntKind.wrap .u8 (nY .i64 p0 (gR .i64 8 (cu .i64 (cu .i64 x5 1) x12))))) (aX .i64 x12 1)) else (zo u x11)
def ni (u:Nat) (p0 x5:Int) (x6:Bool):Option ((List Int)×Bool) :=
  bif x6 then (some (([],false))) else ((dW (decide (0≤x5) && (x5 == 0 || x5 == x5))).bind fun _=>(dW (decide (Int.toNat x5*1≤140737488355328))).bind fun _=>nh u u p0 x5 (List.replicate (Int.toNat x5) (0:Int)) 0)
def pM (u:Nat) (p0 x5:Int):Option ((List Int)×Bool) :=
  bif decide (p0 < 1) then (ni u p0 x5 true) else ((dW (decide (0≤(gR .i64 8 x5)))).bind fun _=>ni u p0 x5 ((nY .i64 p0 (gR .i64 8 x5)) != 1))
def pN (u:Nat) (J6:Int→Int→Option ((List Int)×Bool)) (p0 x2:Int) (x4:Bool):Option ((List Int)×Bool) :=
  bif x4 then (J6 p0 (aX .i64 x2 1)) else (pM u p0 x2)
def gP (u gp:Nat) (p0 x2:Int):Option ((List Int)×Bool):=match gp with
  | 0=>none
  | gp+1=>bif decide (x2 < 6) then ((dW (decide (0≤(gR .i64 8 x2)))).bind fun _=>pN u (fun z0 z1=>gP u gp z0 z1) p0 x2 (decide ((nY .i64 p0 (gR .i64 8 x2)) > 1))) else (pN u (fun z0 z1=>gP u gp z0 z1) p0 x2 false)
def nG (u:Nat) (p0:Int):Option ((List Int)×Bool) :=
  gP u u p0 0
def Ip (u:Nat) (p0 x5:Int) (s:(List Int)):Option ((List Int)×Bool):=(zo u s)
def BN (u:Nat) (p0 x5:Int) (i_:Nat) (s:(List Int)) (k_:((List Int))→Option ((List Int)×Bool)):Option ((List Int)×Bool):=(dW (decide (0≤(gR .i64 8 (cu .i64 (cu .i64 x5 1) (i_:Int)))))).bind fun _=>(ci s (i_:Int)).bind fun y16=>(fun z0 z1 z2 z3=>k_ z2) p0 x5 (s.set (Int.toNat (i_:Int)) (IntKind.wrap .u8 (nY .i64 p0 (gR .i64 8 (cu .i64 (cu .i64 x5 1) (i_:Int)))))) (aX .i64 (i_:Int) 1)
theorem Iq (u:Nat) (p0 x5:Int) (s:(List Int)) (k:Nat) (hn:((((List.replicate (Int.toNat x5) (0:Int)).length:Int)):Int)≤9223372036854775807) (hk:Int.toNat ((((List.replicate (Int.toNat x5) (0:Int)).length:Int))) < k):nh u k p0 x5 s 0=Pu.qz (Ip u p0 x5) (BN u p0 x5) (Int.toNat ((((List.replicate (Int.toNat x5) (0:Int)).length:Int)))) 0 s:=Pu.sN (fun (k:Nat) (s:(List Int)) (i:Int)=>nh u k p0 x5 s i) hn (fun _ _ _=>rfl) s hk
def Ci (u:Nat)  : Option Bool :=
  some true
def lF (u:Nat) (OJ:af→Int→Option Bool) (p0:af) (x7:Int) (x13:Bool):Option Bool :=
  bif x13 then (some false) else (OJ p0 (aX .i64 x7 1))
def jN (u gW:Nat) (p0:af) (x7:Int):Option Bool:=match gW with
  | 0=>none
  | gW+1=>bif decide (x7 < ((p0.aD.length:Int))) then ((ci p0.aD x7).bind fun y9=>(nG u y9.fS).bind fun r10=>(ja u p0.aS p0.aY x7).bind fun r11=>bif !r10.2 then (lF u (fun z0 z1=>jN u gW z0 z1) p0 x7 true) else (bif ((r10.1.length:Int)) != r11.2 then (lF u (fun z0 z1=>jN u gW z0 z1) p0 x7 true) else ((pg u r10.1).bind fun r12=>lF u (fun z0 z1=>jN u gW z0 z1) p0 x7 (r12 != y9.fW)))) else (Ci u)
def tg (u:Nat) (x5:Bool) (p0:af):Option Bool :=
  bif x5 then (some false) else (jN u u p0 0)
def mF (u:Nat) (p0:af):Option Bool :=
  (iG u p0).bind fun r1=>bif r1 then (some true) else ((bC u p0.aP 1 1000000).bind fun r2=>bif !r2 then (tg u true p0) else ((pe u p0.aS p0.aY).bind fun r3=>bif !r3 then (tg u true p0) else ((pf u p0.aS p0.aY).bind fun r4=>tg u (((p0.aD.length:Int)) != r4) p0)))
def Ec (u:Nat) (p0:af) (s:Unit):Option Bool:=(Ci u)
def zp (u:Nat) (p0:af) (y9:bM) (i_:Nat) (s:Unit) (k_:Unit→Option Bool):Option Bool:=(nG u y9.fS).bind fun r10=>(ja u p0.aS p0.aY (i_:Int)).bind fun r11=>bif !r10.2 then (lF u (fun z0 z1=>k_ ()) p0 (i_:Int) true) else (bif ((r10.1.length:Int)) != r11.2 then (lF u (fun z0 z1=>k_ ()) p0 (i_:Int) true) else ((pg u r10.1).bind fun r12=>lF u (fun z0 z1=>k_ ()) p0 (i_:Int) (r12 != y9.fW)))
theorem MR (u:Nat) (p0:af) (s:Unit) (k:Nat) (hn:p0.aD.length≤9223372036854775807) (hk:p0.aD.length < k):jN u k p0 0=Pu.bt (Ec u p0) (zp u p0) p0.aD 0 s:=Pu.bP (fun (k:Nat) (s:Unit) (i:Int)=>jN u k p0 i) hn (fun _ _ _=>rfl) s hk
def dr (u:Nat) (p0:Int):Option Bool :=
  (bC u p0 0 1099511627775).bind fun r1=>some r1
def rV (u:Nat) (p0:Int):Option Int :=
  (bC u p0 0 40).bind fun r1=>bif !r1 then (some 0) else ((dW (decide (0≤p0))).bind fun _=>some (cu .i64 (i4 .i64 1 p0) 1))
def qk (u:Nat) (p0:af):Option Int :=
  (rV u ((p0.aD.length:Int))).bind fun r1=>some r1
def iI (u:Nat) (p0:aW) (p1:af) (p2:Int):Option ((List Int)) :=
  (ja u p1.aS p1.aY p2).bind fun r1=>(dW (dU r1.1 (aX .i64 r1.1 r1.2) p0.bh.length)).bind fun _=>some ((p0.bh.take (Int.toNat (aX .i64 r1.1 r1.2))).drop (Int.toNat r1.1))
def pv (u:Nat) (p0:Int):Option Bool :=
  (bC u p0 0 39).bind fun r1=>some r1
def fk (u:Nat) (p0 p1:Int):Option Bool :=
  (dr u p0).bind fun r1=>bif r1 then ((pv u p1).bind fun r2=>bif r2 then ((dW (decide (0≤p1))).bind fun _=>some ((fx .i64 (nY .i64 p0 p1) 1) == 1)) else (some false)) else (some false)
def vV (u:Nat) (p0:Int):Option Bool :=
  some (p0 != 0)
def dH (u:Nat)  : Option Int :=
  some (-1)
def bY (u bV:Nat) (p0:List Int) (x2:Int):Option Int:=match bV with
  | 0=>none
  | bV+1=>bif decide (x2 < ((p0.length:Int))) then ((ci p0 x2).bind fun y4=>(vV u y4).bind fun r5=>bif r5 then (some x2) else ((fun z0 z1=>bY u bV z0 z1) p0 (aX .i64 x2 1))) else (dH u)
def c9 (u:Nat) (p0:List Int):Option Int :=
  bY u u p0 0
def mX (u:Nat) (p0:List Int) (s:Unit):Option Int:=(dH u)
def mY (u:Nat) (p0:List Int) (y4:Int) (i_:Nat) (s:Unit) (k_:Unit→Option Int):Option Int:=(vV u y4).bind fun r5=>bif r5 then (some (i_:Int)) else ((fun z0 z1=>k_ ()) p0 (aX .i64 (i_:Int) 1))
theorem mZ (u:Nat) (p0:List Int) (s:Unit) (k:Nat) (hn:p0.length≤9223372036854775807) (hk:p0.length < k):bY u k p0 0=Pu.bt (mX u p0) (mY u p0) p0 0 s:=Pu.bP (fun (k:Nat) (s:Unit) (i:Int)=>bY u k p0 i) hn (fun _ _ _=>rfl) s hk
def bq (u:Nat) (p0:List Int):Option Bool :=
  (c9 u p0).bind fun r1=>some (decide (r1≥0))
def zq (u:Nat)  : Option Bool :=
  some true
def d5 (u:Nat) (J5:af→Int→aW→Option Bool) (p0:af) (x6:Int) (x16:Bool) (p1:aW):Option Bool :=
  bif x16 then (some false) else (J5 p0 (aX .i64 x6 1) p1)
def eD (u dO:Nat) (p0:af) (x6:Int) (p1:aW):Option Bool:=match dO with
  | 0=>none
  | dO+1=>bif decide (x6 < ((p0.aD.length:Int))) then ((ci p0.aD x6).bind fun y8=>(iI u p1 p0 x6).bind fun r9=>(fk u p1.aT x6).bind fun r10=>bif r10 then ((kX u r9).bind fun r11=>bif !([r11.fW,r11.fS] == [y8.fW,y8.fS]) then (d5 u (fun z0 z1 z2=>eD u dO z0 z1 z2) p0 x6 true p1) else ((fk u p1.aT x6).bind fun r12=>bif !r12 then ((bq u r9).bind fun r13=>d5 u (fun z0 z1 z2=>eD u dO z0 z1 z2) p0 x6 r13 p1) else (d5 u (fun z0 z1 z2=>eD u dO z0 z1 z2) p0 x6 false p1))) else ((fk u p1.aT x6).bind fun r14=>bif !r14 then ((bq u r9).bind fun r15=>d5 u (fun z0 z1 z2=>eD u dO z0 z1 z2) p0 x6 r15 p1) else (d5 u (fun z0 z1 z2=>eD u dO z0 z1 z2) p0 x6 false p1))) else (zq u)
def nj (u:Nat) (x4:Bool) (p0:af) (p1:aW):Option Bool :=
  bif x4 then (some false) else (eD u u p0 0 p1)
def pw (u:Nat) (p0:af) (p1:aW):Option Bool :=
  (mF u p0).bind fun r1=>bif !r1 then (nj u true p0 p1) else ((dr u p1.aT).bind fun r2=>bif !r2 then (nj u true p0 p1) else ((qk u p0).bind fun r3=>bif (Aj .i64 p1.aT r3) != 0 then (nj u true p0 p1) else (nj u (((p1.bh.length:Int)) != p0.aY) p0 p1)))
def Ir (u:Nat) (p0:af) (p1:aW) (s:Unit):Option Bool:=(zq u)
def BO (u:Nat) (p0:af) (p1:aW) (y8:bM) (i_:Nat) (s:Unit) (k_:Unit→Option Bool):Option Bool:=(iI u p1 p0 (i_:Int)).bind fun r9=>(fk u p1.aT (i_:Int)).bind fun r10=>bif r10 then ((kX u r9).bind fun r11=>bif !([r11.fW,r11.fS] == [y8.fW,y8.fS]) then (d5 u (fun z0 z1 z2=>k_ ()) p0 (i_:Int) true p1) else ((fk u p1.aT (i_:Int)).bind fun r12=>bif !r12 then ((bq u r9).bind fun r13=>d5 u (fun z0 z1 z2=>k_ ()) p0 (i_:Int) r13 p1) else (d5 u (fun z0 z1 z2=>k_ ()) p0 (i_:Int) false p1))) else ((fk u p1.aT (i_:Int)).bind fun r14=>bif !r14 then ((bq u r9).bind fun r15=>d5 u (fun z0 z1 z2=>k_ ()) p0 (i_:Int) r15 p1) else (d5 u (fun z0 z1 z2=>k_ ()) p0 (i_:Int) false p1))
theorem Is (u:Nat) (p0:af) (p1:aW) (s:Unit) (k:Nat) (hn:p0.aD.length≤9223372036854775807) (hk:p0.aD.length < k):eD u k p0 0 p1=Pu.bt (Ir u p0 p1) (BO u p0 p1) p0.aD 0 s:=Pu.bP (fun (k:Nat) (s:Unit) (i:Int)=>eD u k p0 i p1) hn (fun _ _ _=>rfl) s hk
def t9 (u:Nat) (p0 p1:Int) (x3:Bool):Option Int :=
  bif x3 then (some 0) else (some (Aj .i64 p0 p1))
def vW (u:Nat) (p0 p1:Int):Option Int :=
  (dr u p0).bind fun r1=>bif !r1 then (t9 u p0 p1 true) else ((dr u p1).bind fun r2=>t9 u p0 p1 (!r2))
def vX (u:Nat) (p0:af) (p1:aW):Option Int :=
  (qk u p0).bind fun r1=>(vW u r1 p1.aT).bind fun r2=>some r2
def mS (u:Nat) (x4:Bool) (p0:aA):Option Bool :=
  bif x4 then (some false) else (bif p0.aJ == 1 then (some true) else ((vX u p0.av p0.a7).bind fun r5=>some (r5 == 0)))
def mG (u:Nat) (p0:aA):Option Bool :=
  bif p0.aJ == 0 then ((iG u p0.av).bind fun r1=>bif r1 then ((lR u p0.a7).bind fun r2=>some r2) else (some false)) else (bif p0.av.aP == 0 then (mS u true p0) else ((pw u p0.av p0.a7).bind fun r3=>mS u (!r3) p0))
def xy (u:Nat) (p0:Int):Option Bool :=
  (bC u p0 0 6).bind fun r1=>some r1
def AV (u:Nat)  : Option Bool :=
  some true
def dg (u:Nat) (Me:(List Kid)→Int→Option Bool) (p0:List Kid) (x2:Int) (x10:Bool):Option Bool :=
  bif x10 then (some false) else (Me p0 (aX .i64 x2 1))
def d8 (u dp:Nat) (p0:List Kid) (x2:Int):Option Bool:=match dp with
  | 0=>none
  | dp+1=>bif decide (x2 < ((p0.length:Int))) then ((ci p0 x2).bind fun y4=>(xy u y4.fb).bind fun r5=>bif !r5 then (dg u (fun z0 z1=>d8 u dp z0 z1) p0 x2 true) else ((dr u y4.bw).bind fun r6=>bif !r6 then (dg u (fun z0 z1=>d8 u dp z0 z1) p0 x2 true) else ((dr u y4.bL).bind fun r7=>bif !r7 then (dg u (fun z0 z1=>d8 u dp z0 z1) p0 x2 true) else (bif decide (y4.qM < 0) then (dg u (fun z0 z1=>d8 u dp z0 z1) p0 x2 true) else ((dr u y4.c8).bind fun r8=>bif !r8 then (dg u (fun z0 z1=>d8 u dp z0 z1) p0 x2 true) else (bif decide (x2 > 0) then ((ci p0 (cu .i64 x2 1)).bind fun y9=>dg u (fun z0 z1=>d8 u dp z0 z1) p0 x2 (decide (y4.fb≤y9.fb))) else (dg u (fun z0 z1=>d8 u dp z0 z1) p0 x2 false))))))) else (AV u)
def yC (u:Nat) (p0:List Kid):Option Bool :=
  d8 u u p0 0
def KI (u:Nat) (p0:List Kid) (s:Unit):Option Bool:=(AV u)
def CY (u:Nat) (p0:List Kid) (y4:Kid) (i_:Nat) (s:Unit) (k_:Unit→Option Bool):Option Bool:=(xy u y4.fb).bind fun r5=>bif !r5 then (dg u (fun z0 z1=>k_ ()) p0 (i_:Int) true) else ((dr u y4.bw).bind fun r6=>bif !r6 then (dg u (fun z0 z1=>k_ ()) p0 (i_:Int) true) else ((dr u y4.bL).bind fun r7=>bif !r7 then (dg u (fun z0 z1=>k_ ()) p0 (i_:Int) true) else (bif decide (y4.qM < 0) then (dg u (fun z0 z1=>k_ ()) p0 (i_:Int) true) else ((dr u y4.c8).bind fun r8=>bif !r8 then (dg u (fun z0 z1=>k_ ()) p0 (i_:Int) true) else (bif decide ((i_:Int) > 0) then ((ci p0 (cu .i64 (i_:Int) 1)).bind fun y9=>dg u (fun z0 z1=>k_ ()) p0 (i_:Int) (decide (y4.fb≤y9.fb))) else (dg u (fun z0 z1=>k_ ()) p0 (i_:Int) false))))))
theorem KJ (u:Nat) (p0:List Kid) (s:Unit) (k:Nat) (hn:p0.length≤9223372036854775807) (hk:p0.length < k):d8 u k p0 0=Pu.bt (KI u p0) (CY u p0) p0 0 s:=Pu.bP (fun (k:Nat) (s:Unit) (i:Int)=>d8 u k p0 i) hn (fun _ _ _=>rfl) s hk
def th (u:Nat) (p0:Kid) (q0:co) (q1:Int):Option Bool :=
  (ee u q0 p0.fb).bind fun r1=>bif !r1 then (some true) else (some (p0.fb == q1))
def db (u:Nat)  : Option Int :=
  some (-1)
def bI (u bD:Nat) (p0:List Kid) (p1_0:co) (p1_1 x2:Int):Option Int:=match bD with
  | 0=>none
  | bD+1=>bif decide (x2 < ((p0.length:Int))) then ((ci p0 x2).bind fun y4=>(th u y4 p1_0 p1_1).bind fun r5=>bif r5 then (some x2) else ((fun z0 z1 z2 z3=>bI u bD z0 z1 z2 z3) p0 p1_0 p1_1 (aX .i64 x2 1))) else (db u)
def cC (u:Nat) (p0:List Kid) (p1_0:co) (p1_1:Int):Option Int :=
  bI u u p0 p1_0 p1_1 0
def jX (u:Nat) (p0:List Kid) (p1_0:co) (p1_1:Int) (s:Unit):Option Int:=(db u)
def ej (u:Nat) (p0:List Kid) (p1_0:co) (p1_1:Int) (y4:Kid) (i_:Nat) (s:Unit) (k_:Unit→Option Int):Option Int:=(th u y4 p1_0 p1_1).bind fun r5=>bif r5 then (some (i_:Int)) else ((fun z0 z1 z2 z3=>k_ ()) p0 p1_0 p1_1 (aX .i64 (i_:Int) 1))
theorem jY (u:Nat) (p0:List Kid) (p1_0:co) (p1_1:Int) (s:Unit) (k:Nat) (hn:p0.length≤9223372036854775807) (hk:p0.length < k):bI u k p0 p1_0 p1_1 0=Pu.bt (jX u p0 p1_0 p1_1) (ej u p0 p1_0 p1_1) p0 0 s:=Pu.bP (fun (k:Nat) (s:Unit) (i:Int)=>bI u k p0 p1_0 p1_1 i) hn (fun _ _ _=>rfl) s hk
def bZ (u:Nat) (p0:List Kid) (p1_0:co) (p1_1:Int):Option Bool :=
  (cC u p0 p1_0 p1_1).bind fun r1=>some (decide (r1≥0))
def mH (u:Nat) (x7:Bool) (p0:co) (p1:Int) (p2:aA):Option Bool :=
  bif x7 then (bif decide (p2.be≥0) then (bif decide (p2.a8≥0) then ((bC u p2.aJ 0 6).bind fun r8=>bif r8 then (bif (p2.aJ == 6) == (p1 == 0) then ((mG u p2).bind fun r9=>bif r9 then ((yC u p2.aN).bind fun r10=>bif r10 then ((bZ u p2.aN p0 p1).bind fun r11=>some (!r11)) else (some false)) else (some false)) else (some false)) else (some false)) else (some false)) else (some false)) else (some false)
def vY (u:Nat) (x3:Bool) (p0:co) (p1:Int) (p2:aA):Option Bool :=
  bif x3 then (some false) else (bif !p2.fK then ((t8 u p2).bind fun r4=>some r4) else (bif p1 == 0 then (bif p2.bf == (-1) then (mH u true p0 p1 p2) else (bif p1 != 0 then ((qj u p0 p2.bf p1).bind fun r5=>mH u r5 p0 p1 p2) else (mH u false p0 p1 p2))) else (bif p1 != 0 then ((qj u p0 p2.bf p1).bind fun r6=>mH u r6 p0 p1 p2) else (mH u false p0 p1 p2))))
def uV (u:Nat) (p0:co) (p1:Int) (p2:aA):Option Bool :=
  (uT u p0).bind fun r1=>bif !r1 then (vY u true p0 p1 p2) else ((ee u p0 p1).bind fun r2=>vY u (!r2) p0 p1 p2)
def uv (u:Nat) (p0:Int):Option Bool :=
  (bC u p0 0 1000000).bind fun r1=>some r1
def uW (u:Nat) (p0:Int):Option Bool :=
  bif p0 == 0 then (some true) else (some (p0 == 1))
def ql (u:Nat) (p0:c7):Option Bool :=
  (uv u p0.aP).bind fun r1=>bif r1 then ((uW u p0.cL).bind fun r2=>bif r2 then ((bC u p0.aY 0 240).bind fun r3=>some r3) else (some false)) else (some false)
def eP (u:Nat) (p0:aG) (p1:Int):Option ((List Int)) :=
  bif p1 == 0 then (some p0.fA) else (some p0.fB)
def AW (u:Nat) (p0:cd):Option Bool :=
  bif p0.dY == 2 then (bif p0.Cf == 0 then (bif ((p0.fB.length:Int)) == 0 then ((ql u p0.fR).bind fun r1=>some r1) else (some false)) else (some false)) else ((uW u p0.dY).bind fun r2=>bif r2 then (bif [p0.fR.aP,p0.fR.cL,p0.fR.aY] == [0,0,0] then ((bC u p0.Cf 0 (cu .i64 240 ((p0.fB.length:Int)))).bind fun r3=>some r3) else (some false)) else (some false))
def ti (u:Nat) (p0:cd):Option Bool :=
  (AW u p0).bind fun r1=>some (!r1)
def dd (u:Nat)  : Option Int :=
  some (-1)
def bJ (u bE:Nat) (p0:List cd) (x2:Int):Option Int:=match bE with
  | 0=>none
  | bE+1=>bif decide (x2 < ((p0.length:Int))) then ((ci p0 x2).bind fun y4=>(ti u y4).bind fun r5=>bif r5 then (some x2) else ((fun z0 z1=>bJ u bE z0 z1) p0 (aX .i64 x2 1))) else (dd u)
def cD (u:Nat) (p0:List cd):Option Int :=
  bJ u u p0 0
def jZ (u:Nat) (p0:List cd) (s:Unit):Option Int:=(dd u)
def ek (u:Nat) (p0:List cd) (y4:cd) (i_:Nat) (s:Unit) (k_:Unit→Option Int):Option Int:=(ti u y4).bind fun r5=>bif r5 then (some (i_:Int)) else ((fun z0 z1=>k_ ()) p0 (aX .i64 (i_:Int) 1))
theorem ka (u:Nat) (p0:List cd) (s:Unit) (k:Nat) (hn:p0.length≤9223372036854775807) (hk:p0.length < k):bJ u k p0 0=Pu.bt (jZ u p0) (ek u p0) p0 0 s:=Pu.bP (fun (k:Nat) (s:Unit) (i:Int)=>bJ u k p0 i) hn (fun _ _ _=>rfl) s hk
def b5 (u:Nat) (p0:List cd):Option Bool :=
  (cD u p0).bind fun r1=>some (decide (r1≥0))
def oF (u:Nat) (p0:aG) (x3:Bool):Option Bool :=
  bif x3 then (some false) else (bif decide (((p0.fP.length:Int))≤200) then ((b5 u p0.fP).bind fun r4=>some (!r4)) else (some false))
def pi (u:Nat) (p0:aG):Option Bool :=
  bif decide (((p0.fA.length:Int)) > 240) then (oF u p0 true) else (bif decide (((p0.fB.length:Int)) > 240) then (oF u p0 true) else ((ql u p0.fR).bind fun r1=>bif !r1 then (oF u p0 true) else ((eP u p0 p0.fR.cL).bind fun r2=>oF u p0 (decide (p0.fR.aY > ((r2.length:Int)))))))
def gF (u:Nat)  : Option Bool :=
  some true
def cP (u cF:Nat) (p0 p1:List bM) (x2:Int):Option Bool:=match cF with
  | 0=>none
  | cF+1=>bif decide (x2 < ((p0.length:Int))) then ((ci p0 x2).bind fun y4=>(ci p1 x2).bind fun y5=>bif !([y4.fW,y4.fS] == [y5.fW,y5.fS]) then (some false) else ((fun z0 z1 z2=>cP u cF z0 z1 z2) p0 p1 (aX .i64 x2 1))) else (gF u)
def da (u:Nat) (p0 p1:List bM):Option Bool :=
  bif ((p0.length:Int)) != ((p1.length:Int)) then (some false) else (cP u u p0 p1 0)
def rX (u:Nat) (p0 p1:List bM) (s:Unit):Option Bool:=(gF u)
def ku (u:Nat) (p0 p1:List bM) (y4:bM) (i_:Nat) (s:Unit) (k_:Unit→Option Bool):Option Bool:=(ci p1 (i_:Int)).bind fun y5=>bif !([y4.fW,y4.fS] == [y5.fW,y5.fS]) then (some false) else ((fun z0 z1 z2=>k_ ()) p0 p1 (aX .i64 (i_:Int) 1))
theorem rY (u:Nat) (p0 p1:List bM) (s:Unit) (k:Nat) (hn:p0.length≤9223372036854775807) (hk:p0.length < k):cP u k p0 p1 0=Pu.bt (rX u p0 p1) (ku u p0 p1) p0 0 s:=Pu.bP (fun (k:Nat) (s:Unit) (i:Int)=>cP u k p0 p1 i) hn (fun _ _ _=>rfl) s hk
def nH (u:Nat) (p0 p1:af):Option Bool :=
  bif p0.aP == p1.aP then (bif p0.aS == p1.aS then (bif p0.aY == p1.aY then ((da u p0.aD p1.aD).bind fun r1=>some r1) else (some false)) else (some false)) else (some false)
def pz (u:Nat) (p0:aG):Option (Int×(List Int)) :=
  (pi u p0).bind fun r1=>bif !r1 then (some ((0,[]))) else ((eP u p0 p0.fR.cL).bind fun r2=>(dW (dU 0 p0.fR.aY r2.length)).bind fun _=>(gj u ((r2.take (Int.toNat p0.fR.aY)).drop (Int.toNat 0))).bind fun r4=>some ((p0.fR.aP,r4)))
def BP (u:Nat) (p0 p1:List Int):Option Bool :=
  some ((strOfNums p0).toList == (strOfNums p1).toList)
def oG (u:Nat) (p0 p1:List Int):Option Bool :=
  (BP u p0 p1).bind fun r1=>some r1
def uw (u:Nat) (p0:aG) (p1:Int) (p2:List Int):Option Bool :=
  (pz u p0).bind fun r1=>bif r1.1 == p1 then ((oG u r1.2 p2).bind fun r2=>some r2) else (some false)
def DF (u:Nat) (p0:aG):Option Int :=
  some (cu .i64 1 p0.fR.cL)
def rZ (u:Nat) (p0:cd) (q0:Int):Option Bool :=
  some (p0.dY != q0)
def cZ (u:Nat)  : Option Int :=
  some (-1)
def bx (u bu:Nat) (p0:List cd) (p1_0 x2:Int):Option Int:=match bu with
  | 0=>none
  | bu+1=>bif decide (x2 < ((p0.length:Int))) then ((ci p0 x2).bind fun y4=>(rZ u y4 p1_0).bind fun r5=>bif r5 then (some x2) else ((fun z0 z1 z2=>bx u bu z0 z1 z2) p0 p1_0 (aX .i64 x2 1))) else (cZ u)
def ct (u:Nat) (p0:List cd) (p1_0:Int):Option Int :=
  bx u u p0 p1_0 0
def ji (u:Nat) (p0:List cd) (p1_0:Int) (s:Unit):Option Int:=(cZ u)
def jj (u:Nat) (p0:List cd) (p1_0:Int) (y4:cd) (i_:Nat) (s:Unit) (k_:Unit→Option Int):Option Int:=(rZ u y4 p1_0).bind fun r5=>bif r5 then (some (i_:Int)) else ((fun z0 z1 z2=>k_ ()) p0 p1_0 (aX .i64 (i_:Int) 1))
theorem jk (u:Nat) (p0:List cd) (p1_0:Int) (s:Unit) (k:Nat) (hn:p0.length≤9223372036854775807) (hk:p0.length < k):bx u k p0 p1_0 0=Pu.bt (ji u p0 p1_0) (jj u p0 p1_0) p0 0 s:=Pu.bP (fun (k:Nat) (s:Unit) (i:Int)=>bx u k p0 p1_0 i) hn (fun _ _ _=>rfl) s hk
def bT (u:Nat) (p0:List cd) (p1_0:Int):Option Bool :=
  (ct u p0 p1_0).bind fun r1=>some (decide (r1≥0))
def vZ (u:Nat) (p0:cd):Option cd :=
  (gj u p0.fB).bind fun r1=>some ((cd.mk p0.dY p0.Cf r1 p0.fR))
def xz (u:Nat) (r1 r2:(List Int)) (p0:aG) (x11:List cd):Option aG :=
  some ((aG.mk r1 r2 p0.fR x11))
def lS (u jB:Nat) (p0:aG) (x5:Int) (r1 r2:(List Int)) (x6:List cd):Option aG:=match jB with
  | 0=>none
  | jB+1=>bif decide (x5 < ((p0.fP.length:Int))) then ((ci p0.fP x5).bind fun y9=>(vZ u y9).bind fun r10=>(dW (decide ((x6.length+([r10]).length)*64≤140737488355328))).bind fun _=>(fun z0 z1 z2 z3 z4=>lS u jB z0 z1 z2 z3 z4) p0 (aX .i64 x5 1) r1 r2 (x6++([r10]))) else (xz u r1 r2 p0 x6)
def tj (u:Nat) (p0:aG):Option aG :=
  (gj u p0.fA).bind fun r1=>(gj u p0.fB).bind fun r2=>lS u u p0 0 r1 r2 ([])
def G3 (u:Nat) (p0:aG) (r1 r2:(List Int)) (s:(List cd)):Option aG:=(xz u r1 r2 p0 s)
def AX (u:Nat) (p0:aG) (r1 r2:(List Int)) (y9:cd) (i_:Nat) (s:(List cd)) (k_:((List cd))→Option aG):Option aG:=(vZ u y9).bind fun r10=>(dW (decide ((s.length+([r10]).length)*64≤140737488355328))).bind fun _=>(fun z0 z1 z2 z3 z4=>k_ z4) p0 (aX .i64 (i_:Int) 1) r1 r2 (s++([r10]))
theorem G4 (u:Nat) (p0:aG) (r1 r2:(List Int)) (s:(List cd)) (k:Nat) (hn:p0.fP.length≤9223372036854775807) (hk:p0.fP.length < k):lS u k p0 0 r1 r2 s=Pu.bt (G3 u p0 r1 r2) (AX u p0 r1 r2) p0.fP 0 s:=Pu.bP (fun (k:Nat) (s:(List cd)) (i:Int)=>lS u k p0 i r1 r2 s) hn (fun _ _ _=>rfl) s hk
def yD (u:Nat) (p0:Int):Option Bool :=
  some true
def ua (u:Nat) (p0:aG) (p1:Int):Option (Nat×aG) :=
  bif p1 == 0 then (some ((0,p0))) else (some ((1,p0)))
def mT (u:Nat) (p1:cd) (r1:Nat×aG) (x5:List Int):Option aG :=
  (dW (Gy p1.Cf x5.length)).bind fun _=>some ((aG.mk r1.2.fA (zZ x5 p1.fB (Int.toNat p1.Cf)) r1.2.fR r1.2.fP))
def gB (u fe:Nat) (p1:cd) (r1:Nat×aG) (x3:List Int):Option aG:=match fe with
  | 0=>none
  | fe+1=>bif decide (((x3.length:Int)) < (aX .i64 p1.Cf ((p1.fB.length:Int)))) then ((dW (decide ((x3.length+(([0]:List Int)).length)*1≤140737488355328))).bind fun _=>(fun z0 z1 z2=>gB u fe z0 z1 z2) p1 r1 (x3++(([0]:List Int)))) else (mT u p1 r1 x3)
def mU (u:Nat) (p1:cd) (x9:List Int) (r1:Nat×aG):Option aG :=
  (dW (Gy p1.Cf x9.length)).bind fun _=>some ((aG.mk (zZ x9 p1.fB (Int.toNat p1.Cf)) r1.2.fB r1.2.fR r1.2.fP))
def gC (u ff:Nat) (p1:cd) (x7:List Int) (r1:Nat×aG):Option aG:=match ff with
  | 0=>none
  | ff+1=>bif decide (((x7.length:Int)) < (aX .i64 p1.Cf ((p1.fB.length:Int)))) then ((dW (decide ((x7.length+(([0]:List Int)).length)*1≤140737488355328))).bind fun _=>(fun z0 z1 z2=>gC u ff z0 z1 z2) p1 (x7++(([0]:List Int))) r1) else (mU u p1 x7 r1)
def js (u:Nat) (p0:aG) (p1:cd):Option aG :=
  bif p1.dY == 2 then (some ((aG.mk p0.fA p0.fB p1.fR p0.fP))) else ((ua u p0 p1.dY).bind fun r1=>bif Nat.beq r1.1 0 then (gC u u p1 r1.2.fA r1) else (bif Nat.beq r1.1 1 then (gB u u p1 r1 r1.2.fB) else none))
def gZ (u:Nat) (x33 x34:List Int) (x35 x36 x37:Int) (x38:List cd):Option aG :=
  some ((aG.mk x33 x34 ((c7.mk x35 x36 x37)) ([])))
def cX (u:Nat) (sS:aG→Int→(List Int)→(List Int)→Int→Int→Int→(List cd)→Option aG) (p0:aG) (x10:Int) (x27 x28:List Int) (x29 x30 x31:Int) (x32:List cd):Option aG :=
  sS p0 (aX .i64 x10 1) x27 x28 x29 x30 x31 x32
def bW (u ca:Nat) (p0:aG) (x10:Int) (x11 x12:List Int) (x13 x14 x15:Int) (x16:List cd):Option aG:=match ca with
  | 0=>none
  | ca+1=>bif decide (x10 < ((p0.fP.length:Int))) then ((ci p0.fP x10).bind fun y24=>(yD u x10).bind fun r25=>bif r25 then ((js u ((aG.mk x11 x12 ((c7.mk x13 x14 x15)) x16)) y24).bind fun r26=>cX u (fun z0 z1 z2 z3 z4 z5 z6 z7=>bW u ca z0 z1 z2 z3 z4 z5 z6 z7) p0 x10 r26.fA r26.fB r26.fR.aP r26.fR.cL r26.fR.aY r26.fP) else (cX u (fun z0 z1 z2 z3 z4 z5 z6 z7=>bW u ca z0 z1 z2 z3 z4 z5 z6 z7) p0 x10 x11 x12 x13 x14 x15 x16)) else (gZ u x11 x12 x13 x14 x15 x16)
def fh (u:Nat) (p0:aG):Option aG :=
  (tj u p0).bind fun r1=>(pi u p0).bind fun r2=>bif !r2 then (some r1) else (bW u u p0 0 r1.fA r1.fB r1.fR.aP r1.fR.cL r1.fR.aY r1.fP)
def lu (u:Nat) (p0:aG) (s:(List Int)×(List Int)×Int×Int×Int×(List cd)):Option aG:=(gZ u s.1 s.2.1 s.2.2.1 s.2.2.2.1 s.2.2.2.2.1 s.2.2.2.2.2)
def fV (u:Nat) (p0:aG) (y24:cd) (i_:Nat) (s:(List Int)×(List Int)×Int×Int×Int×(List cd)) (k_:((List Int)×(List Int)×Int×Int×Int×(List cd))→Option aG):Option aG:=(yD u (i_:Int)).bind fun r25=>bif r25 then ((js u ((aG.mk s.1 s.2.1 ((c7.mk s.2.2.1 s.2.2.2.1 s.2.2.2.2.1)) s.2.2.2.2.2)) y24).bind fun r26=>cX u (fun z0 z1 z2 z3 z4 z5 z6 z7=>k_ (z2,z3,z4,z5,z6,z7)) p0 (i_:Int) r26.fA r26.fB r26.fR.aP r26.fR.cL r26.fR.aY r26.fP) else (cX u (fun z0 z1 z2 z3 z4 z5 z6 z7=>k_ (z2,z3,z4,z5,z6,z7)) p0 (i_:Int) s.1 s.2.1 s.2.2.1 s.2.2.2.1 s.2.2.2.2.1 s.2.2.2.2.2)
theorem sI (u:Nat) (p0:aG) (s:(List Int)×(List Int)×Int×Int×Int×(List cd)) (k:Nat) (hn:p0.fP.length≤9223372036854775807) (hk:p0.fP.length < k):bW u k p0 0 s.1 s.2.1 s.2.2.1 s.2.2.2.1 s.2.2.2.2.1 s.2.2.2.2.2=Pu.bt (lu u p0) (fV u p0) p0.fP 0 s:=Pu.bP (fun (k:Nat) (s:(List Int)×(List Int)×Int×Int×Int×(List cd)) (i:Int)=>bW u k p0 i s.1 s.2.1 s.2.2.1 s.2.2.2.1 s.2.2.2.2.1 s.2.2.2.2.2) hn (fun _ _ _=>rfl) s hk
def CZ (u:Nat) (p0:aG):Option aG :=
  (fh u p0).bind fun r1=>some r1
def pO (u:Nat) (p0 p1:List Int):Option Bool :=
  bif decide (((p0.length:Int))≥((p1.length:Int))) then ((dW (dU 0 ((p1.length:Int)) p0.length)).bind fun _=>(BP u ((p0.take (Int.toNat ((p1.length:Int)))).drop (Int.toNat 0)) p1).bind fun r2=>some r2) else (some false)
def jt (u:Nat) (p0:aG) (q0:Int) (q1:aW):Option Bool :=
  (eP u p0 q0).bind fun r1=>(pO u r1 q1.bh).bind fun r2=>some r2
def nI (u:Nat) (p3:Int) (p0:aG) (r1 x2:Int) (p1:af) (p2:aW):Option Bool :=
  bif p3 == 2 then ((bT u p0.fP r1).bind fun r3=>bif !r3 then ((CZ u p0).bind fun r4=>(jt u r4 x2 p2).bind fun r5=>some r5) else (some false)) else (bif p3 == 3 then (bif ((p0.fP.length:Int)) == 0 then ((jt u p0 x2 p2).bind fun r6=>some r6) else (some false)) else (bif p3 == 4 then (bif ((p0.fP.length:Int)) == 1 then ((ci p0.fP 0).bind fun y7=>bif y7.dY == 2 then ((ci p0.fP 0).bind fun y8=>bif [y8.fR.aP,y8.fR.cL,y8.fR.aY] == [p1.aP,r1,p1.aY] then ((jt u p0 x2 p2).bind fun r9=>some r9) else (some false)) else (some false)) else (some false)) else (some false)))
def ra (u:Nat) (p0:aG) (p1:af) (p2:aW) (p3:Int):Option Bool :=
  (DF u p0).bind fun r1=>bif r1 == 1 then (nI u p3 p0 r1 1 p1 p2) else (nI u p3 p0 r1 0 p1 p2)
def kv (u:Nat) (r4 r5:Bool) (y2:aG) (x6:Bool) (y1:aA):Option Bool :=
  bif x6 then (bif ((y2.fP.length:Int)) == 0 then (bif r4 then (some true) else (some r5)) else (some false)) else (bif y1.aJ == 1 then (bif ((y2.fP.length:Int)) == 0 then (some r4) else (some false)) else (bif y1.aJ == 5 then (bif ((y2.fP.length:Int)) == 0 then (some r5) else (some false)) else (bif r4 then ((ra u y2 y1.av y1.a7 y1.aJ).bind fun r7=>some r7) else (some false))))
def kc (u:Nat) (p0:World) (p1:Int):Option Bool :=
  (ci p0.fN p1).bind fun y1=>(ci p0.fD p1).bind fun y2=>(ci p0.fZ p1).bind fun y3=>(uw u y2 0 y3.fB).bind fun r4=>(uw u y2 1 p0.jh).bind fun r5=>bif !y1.fK then (kv u r4 r5 y2 true y1) else (kv u r4 r5 y2 (y1.aJ == 0) y1)
def rc (u:Nat) (p0:au) (q0:World):Option Bool :=
  (ee u q0.fT p0.du).bind fun r1=>bif !r1 then (some true) else ((ee u q0.fT p0.GU).bind fun r2=>some (!r2))
def cN (u:Nat)  : Option Int :=
  some (-1)
def bp (u bl:Nat) (p0:List au) (p1_0:World) (x2:Int):Option Int:=match bl with
  | 0=>none
  | bl+1=>bif decide (x2 < ((p0.length:Int))) then ((ci p0 x2).bind fun y4=>(rc u y4 p1_0).bind fun r5=>bif r5 then (some x2) else ((fun z0 z1 z2=>bp u bl z0 z1 z2) p0 p1_0 (aX .i64 x2 1))) else (cN u)
def ck (u:Nat) (p0:List au) (p1_0:World):Option Int :=
  bp u u p0 p1_0 0
def ir (u:Nat) (p0:List au) (p1_0:World) (s:Unit):Option Int:=(cN u)
def dB (u:Nat) (p0:List au) (p1_0:World) (y4:au) (i_:Nat) (s:Unit) (k_:Unit→Option Int):Option Int:=(rc u y4 p1_0).bind fun r5=>bif r5 then (some (i_:Int)) else ((fun z0 z1 z2=>k_ ()) p0 p1_0 (aX .i64 (i_:Int) 1))
theorem iu (u:Nat) (p0:List au) (p1_0:World) (s:Unit) (k:Nat) (hn:p0.length≤9223372036854775807) (hk:p0.length < k):bp u k p0 p1_0 0=Pu.bt (ir u p0 p1_0) (dB u p0 p1_0) p0 0 s:=Pu.bP (fun (k:Nat) (s:Unit) (i:Int)=>bp u k p0 p1_0 i) hn (fun _ _ _=>rfl) s hk
def bQ (u:Nat) (p0:List au) (p1_0:World):Option Bool :=
  (ck u p0 p1_0).bind fun r1=>some (decide (r1≥0))
def nk (u:Nat) (p0:World):Option Bool :=
  (ci p0.fN 0).bind fun y18=>bif y18.fK then ((ci p0.fD 0).bind fun y19=>(ci p0.fZ 0).bind fun y20=>(uw u y19 0 y20.fB).bind fun r21=>bif r21 then ((ci p0.fD 0).bind fun y22=>bif ((y22.fP.length:Int)) == 0 then (bif decide (((p0.eo.length:Int))≤400) then ((bQ u p0.eo p0).bind fun r23=>bif !r23 then (bif decide (((p0.pX.length:Int))≤3000) then (some (decide (p0.qL≥0))) else (some false)) else (some false)) else (some false)) else (some false)) else (some false)) else (some false)
def ub (u:Nat) (qJ:World→Int→af→Option Bool) (p0:World) (x8:Int) (x17:Bool) (r6:af):Option Bool :=
  bif x17 then (some false) else (qJ p0 (aX .i64 x8 1) r6)
def fu (u:Nat) (qJ:World→Int→af→Option Bool) (x8:Int) (p0:World) (x15:Bool) (r6:af):Option Bool :=
  bif x15 then (some false) else (bif decide (x8 > 0) then ((kc u p0 x8).bind fun r16=>ub u qJ p0 x8 (!r16) r6) else (ub u qJ p0 x8 false r6))
def d6 (u dP:Nat) (p0:World) (x8:Int) (r6:af):Option Bool:=match dP with
  | 0=>none
  | dP+1=>bif decide (x8 < ((p0.fN.length:Int))) then ((ci p0.fN x8).bind fun y10=>(uV u p0.fT x8 y10).bind fun r11=>bif !r11 then (fu u (fun z0 z1 z2=>d6 u dP z0 z1 z2) x8 p0 true r6) else ((ci p0.fD x8).bind fun y12=>(pi u y12).bind fun r13=>bif !r13 then (fu u (fun z0 z1 z2=>d6 u dP z0 z1 z2) x8 p0 true r6) else (bif y10.aJ != 0 then ((nH u y10.av r6).bind fun r14=>fu u (fun z0 z1 z2=>d6 u dP z0 z1 z2) x8 p0 (!r14) r6) else (fu u (fun z0 z1 z2=>d6 u dP z0 z1 z2) x8 p0 false r6)))) else (nk u p0)
def gQ (u:Nat) (x5:Bool) (p0:World):Option Bool :=
  bif x5 then (some false) else ((AU u p0).bind fun r6=>d6 u u p0 0 r6)
def wa (u:Nat) (p0:World):Option Bool :=
  (yA u p0.fC).bind fun r1=>bif !r1 then (gQ u true p0) else ((uT u p0.fT).bind fun r2=>bif !r2 then (gQ u true p0) else ((pe u p0.fC.aS ((p0.jh.length:Int))).bind fun r3=>bif !r3 then (gQ u true p0) else ((q7 u p0.fT p0.fZ).bind fun r4=>bif !r4 then (gQ u true p0) else (bif ((p0.fN.length:Int)) != ((p0.fT.cy.length:Int)) then (gQ u true p0) else (gQ u (((p0.fD.length:Int)) != ((p0.fT.cy.length:Int))) p0)))))
def It (u:Nat) (p0:World) (r6:af) (s:Unit):Option Bool:=(nk u p0)
def BQ (u:Nat) (p0:World) (r6:af) (y10:aA) (i_:Nat) (s:Unit) (k_:Unit→Option Bool):Option Bool:=(uV u p0.fT (i_:Int) y10).bind fun r11=>bif !r11 then (fu u (fun z0 z1 z2=>k_ ()) (i_:Int) p0 true r6) else ((ci p0.fD (i_:Int)).bind fun y12=>(pi u y12).bind fun r13=>bif !r13 then (fu u (fun z0 z1 z2=>k_ ()) (i_:Int) p0 true r6) else (bif y10.aJ != 0 then ((nH u y10.av r6).bind fun r14=>fu u (fun z0 z1 z2=>k_ ()) (i_:Int) p0 (!r14) r6) else (fu u (fun z0 z1 z2=>k_ ()) (i_:Int) p0 false r6)))
theorem Iu (u:Nat) (p0:World) (r6:af) (s:Unit) (k:Nat) (hn:p0.fN.length≤9223372036854775807) (hk:p0.fN.length < k):d6 u k p0 0 r6=Pu.bt (It u p0 r6) (BQ u p0 r6) p0.fN 0 s:=Pu.bP (fun (k:Nat) (s:Unit) (i:Int)=>d6 u k p0 i r6) hn (fun _ _ _=>rfl) s hk
def eU (u:Nat) (p0:List bM):Option (List bM) :=
  (dW (decide (((([]:List bM)).length+p0.length)*16≤140737488355328))).bind fun _=>some ((([]:List bM))++p0)
def sd (u:Nat) (p0:af):Option af :=
  (eU u p0.aD).bind fun r1=>some ((af.mk p0.aP p0.aS p0.aY r1))
def oH (u:Nat) (p0:aW):Option aW :=
  (gj u p0.bh).bind fun r1=>some ((aW.mk p0.aT r1))
def cG (u:Nat) (p0:List Kid):Option (List Kid) :=
  (dW (decide (((([]:List Kid)).length+p0.length)*40≤140737488355328))).bind fun _=>some ((([]:List Kid))++p0)
def gG (u:Nat) (p0:aA):Option aA :=
  (sd u p0.av).bind fun r1=>(oH u p0.a7).bind fun r2=>(cG u p0.aN).bind fun r3=>some ((aA.mk p0.fK p0.bf p0.be r1 r2 p0.aJ r3 p0.a8))
def uc (u:Nat)  : Option (Int×Int×Bool) :=
  some ((0,0,false))
def fv (u kG:Nat) (p0:List Int) (p1 x3:Int) (p2 x4:Int):Option (Int×Int×Bool):=match kG with
  | 0=>none
  | kG+1=>bif decide (x4 < p2) then ((bC u p1 0 (cu .i64 (cu .i64 ((p0.length:Int)) 1) x4)).bind fun r7=>bif !r7 then (some ((0,0,false))) else ((ci p0 (aX .i64 p1 x4)).bind fun y8=>(dW (decide (0≤(gR .i64 7 x4)))).bind fun _=>bif decide ((IntKind.wrap .i64 y8) < 128) then (bif x4 == 0 then (some ((sV .i64 x3 (i4 .i64 (fx .i64 (IntKind.wrap .i64 y8) 127) (gR .i64 7 x4)),aX .i64 (aX .i64 p1 x4) 1,true))) else (some ((sV .i64 x3 (i4 .i64 (fx .i64 (IntKind.wrap .i64 y8) 127) (gR .i64 7 x4)),aX .i64 (aX .i64 p1 x4) 1,decide ((IntKind.wrap .i64 y8) > 0))))) else ((fun z0 z1 z2 z3 z4=>fv u kG z0 z1 z2 z3 z4) p0 p1 (sV .i64 x3 (i4 .i64 (fx .i64 (IntKind.wrap .i64 y8) 127) (gR .i64 7 x4))) p2 (aX .i64 x4 1)))) else (uc u)
def pA (u:Nat) (p0:List Int) (p1 p2:Int):Option (Int×Int×Bool) :=
  fv u u p0 p1 0 p2 0
def Iv (u:Nat) (p0:List Int) (p1 p2 s:Int):Option (Int×Int×Bool):=(uc u)
def Iw (u:Nat) (p0:List Int) (p1 p2:Int) (i_:Nat) (s:Int) (k_:Int→Option (Int×Int×Bool)):Option (Int×Int×Bool):=(bC u p1 0 (cu .i64 (cu .i64 ((p0.length:Int)) 1) (i_:Int))).bind fun r7=>bif !r7 then (some ((0,0,false))) else ((ci p0 (aX .i64 p1 (i_:Int))).bind fun y8=>(dW (decide (0≤(gR .i64 7 (i_:Int))))).bind fun _=>bif decide ((IntKind.wrap .i64 y8) < 128) then (bif (i_:Int) == 0 then (some ((sV .i64 s (i4 .i64 (fx .i64 (IntKind.wrap .i64 y8) 127) (gR .i64 7 (i_:Int))),aX .i64 (aX .i64 p1 (i_:Int)) 1,true))) else (some ((sV .i64 s (i4 .i64 (fx .i64 (IntKind.wrap .i64 y8) 127) (gR .i64 7 (i_:Int))),aX .i64 (aX .i64 p1 (i_:Int)) 1,decide ((IntKind.wrap .i64 y8) > 0))))) else ((fun z0 z1 z2 z3 z4=>k_ z2) p0 p1 (sV .i64 s (i4 .i64 (fx .i64 (IntKind.wrap .i64 y8) 127) (gR .i64 7 (i_:Int)))) p2 (aX .i64 (i_:Int) 1)))
theorem Wk (u:Nat) (p0:List Int) (p1 p2 s:Int) (k:Nat) (hn:(p2:Int)≤9223372036854775807) (hk:Int.toNat (p2) < k):fv u k p0 p1 s p2 0=Pu.qz (Iv u p0 p1 p2) (Iw u p0 p1 p2) (Int.toNat (p2)) 0 s:=Pu.sN (fun (k:Nat) (s i:Int)=>fv u k p0 p1 s p2 i) hn (fun _ _ _=>rfl) s hk
def re (u:Nat) (r1:Int×Int×Bool) (x2:Bool):Option (Int×Int×Bool) :=
  bif x2 then (some ((0,0,false))) else (some ((r1.1,r1.2.1,true)))
def nJ (u:Nat) (p0:List Int) (p1:Int):Option (Int×Int×Bool) :=
  (pA u p0 p1 6).bind fun r1=>bif !r1.2.2 then (re u r1 true) else (re u r1 (decide (r1.1 > 1000000000000)))
def se (u:Nat) (x11:Int) (x12:List Int):Option ((List Int)×Int×Bool) :=
  some ((x12,x11,true))
def fG (u jC:Nat) (p0:List Int) (x4:Int) (x5:List Int) (p2 x6:Int):Option ((List Int)×Int×Bool):=match jC with
  | 0=>none
  | jC+1=>bif decide (x6 < p2) then ((nJ u p0 x4).bind fun r10=>bif !r10.2.2 then (some (([],0,false))) else ((dW (decide ((x5.length+(([r10.1]:List Int)).length)*8≤140737488355328))).bind fun _=>(fun z0 z1 z2 z3 z4=>fG u jC z0 z1 z2 z3 z4) p0 r10.2.1 (x5++(([r10.1]:List Int))) p2 (aX .i64 x6 1))) else (se u x4 x5)
def nU (u:Nat) (p0:List Int) (p1 p2:Int):Option ((List Int)×Int×Bool) :=
  fG u u p0 p1 (([]:List Int)) p2 0
def G5 (u:Nat) (p0:List Int) (p2:Int) (s:Int×(List Int)):Option ((List Int)×Int×Bool):=(se u s.1 s.2)
def G6 (u:Nat) (p0:List Int) (p2:Int) (i_:Nat) (s:Int×(List Int)) (k_:(Int×(List Int))→Option ((List Int)×Int×Bool)):Option ((List Int)×Int×Bool):=(nJ u p0 s.1).bind fun r10=>bif !r10.2.2 then (some (([],0,false))) else ((dW (decide ((s.2.length+(([r10.1]:List Int)).length)*8≤140737488355328))).bind fun _=>(fun z0 z1 z2 z3 z4=>k_ (z1,z2)) p0 r10.2.1 (s.2++(([r10.1]:List Int))) p2 (aX .i64 (i_:Int) 1))
theorem Vb (u:Nat) (p0:List Int) (p2:Int) (s:Int×(List Int)) (k:Nat) (hn:(p2:Int)≤9223372036854775807) (hk:Int.toNat (p2) < k):fG u k p0 s.1 s.2 p2 0=Pu.qz (G5 u p0 p2) (G6 u p0 p2) (Int.toNat (p2)) 0 s:=Pu.sN (fun (k:Nat) (s:Int×(List Int)) (i:Int)=>fG u k p0 s.1 s.2 p2 i) hn (fun _ _ _=>rfl) s hk
def wb (u:Nat) (x19 y2:Int) (y3 y4:Int) (x20:List bM):Option (af×Int×Bool) :=
  (mF u ((af.mk y2 y3 y4 x20))).bind fun r21=>bif !r21 then (some (((af.mk 0 0 0 ([])),0,false))) else (some (((af.mk y2 y3 y4 x20),x19,true)))
def oI (u:Nat) (Md:(List Int)→Int→Int→Int→Int→Int→Int→(List bM)→Option (af×Int×Bool)) (p0:List Int) (x9:Int) (r15:Int×Int×Bool) (r16:(List Int)×Bool) (r5 x10:Int) (x17:Bool) (y2 y3 y4:Int) (x11:List bM):Option (af×Int×Bool) :=
  bif x17 then (some (((af.mk 0 0 0 ([])),0,false))) else ((kX u r16.1).bind fun r18=>(dW (decide ((x11.length+([r18]).length)*16≤140737488355328))).bind fun _=>Md p0 r15.2.1 r5 (aX .i64 x10 1) y2 y3 y4 (x11++([r18])))
def fm (u hZ:Nat) (p0:List Int) (x9 r5:Int) (x10 y2:Int) (y3 y4:Int) (x11:List bM):Option (af×Int×Bool):=match hZ with
  | 0=>none
  | hZ+1=>bif decide (x10 < r5) then ((pA u p0 x9 8).bind fun r15=>(nG u r15.1).bind fun r16=>bif !r15.2.2 then (oI u (fun z0 z1 z2 z3 z4 z5 z6 z7=>fm u hZ z0 z1 z2 z3 z4 z5 z6 z7) p0 x9 r15 r16 r5 x10 true y2 y3 y4 x11) else (oI u (fun z0 z1 z2 z3 z4 z5 z6 z7=>fm u hZ z0 z1 z2 z3 z4 z5 z6 z7) p0 x9 r15 r16 r5 x10 (!r16.2) y2 y3 y4 x11)) else (wb u x9 y2 y3 y4 x11)
def yE (u:Nat) (p0:List Int) (p1:Int):Option (af×Int×Bool) :=
  (nU u p0 p1 3).bind fun r1=>bif !r1.2.2 then (some (((af.mk 0 0 0 ([])),0,false))) else ((ci r1.1 0).bind fun y2=>(ci r1.1 1).bind fun y3=>(ci r1.1 2).bind fun y4=>(pf u y3 y4).bind fun r5=>fm u u p0 r1.2.1 r5 0 y2 y3 y4 ([]))
def KK (u:Nat) (p0:List Int) (r5 y2:Int) (y3 y4:Int) (s:Int×(List bM)):Option (af×Int×Bool):=(wb u s.1 y2 y3 y4 s.2)
def KL (u:Nat) (p0:List Int) (r5 y2:Int) (y3 y4:Int) (i_:Nat) (s:Int×(List bM)) (k_:(Int×(List bM))→Option (af×Int×Bool)):Option (af×Int×Bool):=(pA u p0 s.1 8).bind fun r15=>(nG u r15.1).bind fun r16=>bif !r15.2.2 then (oI u (fun z0 z1 z2 z3 z4 z5 z6 z7=>k_ (z1,z7)) p0 s.1 r15 r16 r5 (i_:Int) true y2 y3 y4 s.2) else (oI u (fun z0 z1 z2 z3 z4 z5 z6 z7=>k_ (z1,z7)) p0 s.1 r15 r16 r5 (i_:Int) (!r16.2) y2 y3 y4 s.2)
theorem WO (u:Nat) (p0:List Int) (r5 y2:Int) (y3 y4:Int) (s:Int×(List bM)) (k:Nat) (hn:(r5:Int)≤9223372036854775807) (hk:Int.toNat (r5) < k):fm u k p0 s.1 r5 0 y2 y3 y4 s.2=Pu.qz (KK u p0 r5 y2 y3 y4) (KL u p0 r5 y2 y3 y4) (Int.toNat (r5)) 0 s:=Pu.sN (fun (k:Nat) (s:Int×(List bM)) (i:Int)=>fm u k p0 s.1 r5 i y2 y3 y4 s.2) hn (fun _ _ _=>rfl) s hk
def ud (u:Nat) (p0:List Int) (r1:Int×Int×Bool) (x2:Bool):Option ((List Int)×Int×Bool) :=
  bif x2 then (some (([],0,false))) else ((ut u p0 r1.2.1 r1.1).bind fun r3=>bif !r3.2 then (some (([],0,false))) else (some ((r3.1,aX .i64 r1.2.1 r1.1,true))))
def wc (u:Nat) (p0:List Int) (p1 p2:Int):Option ((List Int)×Int×Bool) :=
  (nJ u p0 p1).bind fun r1=>bif !r1.2.2 then (ud u p0 r1 true) else (ud u p0 r1 (decide (r1.1 > p2)))
def kY (u:Nat) (x13:Bool) (p1 x14:Int) (x15 x16 x17:Int) (x18:List bM) (x19 x20 x21:Int) (x22:List Int):Option (ei×Bool) :=
  some (((ei.mk p1 x14 ((af.mk x15 x16 x17 x18)) x19 x20 x21 x22),x13))
def fH (u:Nat) (p0:List Int) (p1 p2:Int):Option (ei×Bool) :=
  bif p1 == 1 then ((yE u p0 p2).bind fun r1=>kY u r1.2.2 p1 0 r1.1.aP r1.1.aS r1.1.aY r1.1.aD 0 0 0 ([])) else (bif p1 == 2 then ((nU u p0 p2 5).bind fun r2=>bif !r2.2.2 then (some (((ei.mk 0 0 ((af.mk 0 0 0 ([]))) 0 0 0 ([])),false))) else ((ci r2.1 0).bind fun y3=>(ci r2.1 1).bind fun y4=>(ci r2.1 2).bind fun y5=>(ci r2.1 3).bind fun y6=>(ci r2.1 4).bind fun y7=>kY u true p1 y3 0 0 0 ([]) (sV .i64 y4 (i4 .i64 y5 20)) (sV .i64 y6 (i4 .i64 y7 20)) 0 ([]))) else (bif p1 == 3 then ((nU u p0 p2 2).bind fun r8=>bif !r8.2.2 then (some (((ei.mk 0 0 ((af.mk 0 0 0 ([]))) 0 0 0 ([])),false))) else ((ci r8.1 0).bind fun y9=>(ci r8.1 1).bind fun y10=>(wc u p0 r8.2.1 6).bind fun r11=>kY u r11.2.2 p1 y9 0 0 0 ([]) 0 0 y10 r11.1)) else (bif p1 == 4 then ((nJ u p0 p2).bind fun r12=>kY u r12.2.2 p1 r12.1 0 0 0 ([]) 0 0 0 ([])) else (kY u false p1 0 0 0 0 ([]) 0 0 0 ([])))))
def ju (u:Nat) (p0:ei) (p1 p2 p3:Bool):Option Bool :=
  bif p1 then (bif p2 then (bif p3 then (some true) else (bif p0.fI == 0 then (some (((p0.fB.length:Int)) == 0)) else (some false))) else (bif p0.bw == 0 then (bif p0.bL == 0 then (bif p3 then (some true) else (bif p0.fI == 0 then (some (((p0.fB.length:Int)) == 0)) else (some false))) else (some false)) else (some false))) else ((iG u p0.av).bind fun r1=>bif r1 then (bif p2 then (bif p3 then (some true) else (bif p0.fI == 0 then (some (((p0.fB.length:Int)) == 0)) else (some false))) else (bif p0.bw == 0 then (bif p0.bL == 0 then (bif p3 then (some true) else (bif p0.fI == 0 then (some (((p0.fB.length:Int)) == 0)) else (some false))) else (some false)) else (some false))) else (some false))
def xA (u:Nat) (p0:ei):Option Bool :=
  bif p0.bz == 1 then ((mF u p0.av).bind fun r1=>bif r1 then (bif p0.av.aP != 0 then (bif p0.aP == 0 then ((ju u p0 true false false).bind fun r2=>some r2) else (some false)) else (some false)) else (some false)) else (bif p0.bz == 2 then ((uv u p0.aP).bind fun r3=>bif r3 then ((dr u p0.bw).bind fun r4=>bif r4 then ((dr u p0.bL).bind fun r5=>bif r5 then ((ju u p0 false true false).bind fun r6=>some r6) else (some false)) else (some false)) else (some false)) else (bif p0.bz == 3 then ((bC u p0.aP 1 1000000).bind fun r7=>bif r7 then ((pv u p0.fI).bind fun r8=>bif r8 then ((bC u ((p0.fB.length:Int)) 1 6).bind fun r9=>bif r9 then ((ju u p0 false false true).bind fun r10=>some r10) else (some false)) else (some false)) else (some false)) else (bif p0.bz == 4 then ((uv u p0.aP).bind fun r11=>bif r11 then ((ju u p0 false false false).bind fun r12=>some r12) else (some false)) else (some false))))
def qD (u:Nat) (x7:List Int) (x8:Int):Option ((List Int)) :=
  (dW (decide ((x7.length+(([IntKind.wrap .u8 x8]:List Int)).length)*1≤140737488355328))).bind fun _=>some (x7++(([IntKind.wrap .u8 x8]:List Int)))
def iJ (u iU:Nat) (x3:List Int) (x4:Int):Option ((List Int)):=match iU with
  | 0=>none
  | iU+1=>bif decide (x4≥128) then ((dW (decide ((x3.length+(([sV .u8 (IntKind.wrap .u8 x4) 128]:List Int)).length)*1≤140737488355328))).bind fun _=>(fun z0 z1=>iJ u iU z0 z1) (x3++(([sV .u8 (IntKind.wrap .u8 x4) 128]:List Int))) (nY .i64 x4 7)) else (qD u x3 x4)
def oJ (u:Nat) (p0:List Int) (p1:Int):Option ((List Int)) :=
  iJ u u p0 p1
def eJ (u:Nat) (p0:List Int) (p1:Int):Option ((List Int)) :=
  (gj u p0).bind fun r1=>(bC u p1 0 1000000000000).bind fun r2=>bif !r2 then (some r1) else ((oJ u r1 p1).bind fun r3=>some r3)
def AY (u:Nat) (x14:List Int):Option ((List Int)) :=
  some x14
def oK (u l9:Nat) (x8:List Int) (p1:af) (x9:Int):Option ((List Int)):=match l9 with
  | 0=>none
  | l9+1=>bif decide (x9 < ((p1.aD.length:Int))) then ((ci p1.aD x9).bind fun y12=>(oJ u x8 y12.fS).bind fun r13=>(fun z0 z1 z2=>oK u l9 z0 z1 z2) r13 p1 (aX .i64 x9 1)) else (AY u x8)
def yF (u:Nat) (p0:List Int) (p1:af):Option ((List Int)) :=
  (mF u p1).bind fun r1=>bif !r1 then ((gj u p0).bind fun r2=>some r2) else ((eJ u p0 p1.aP).bind fun r3=>(eJ u r3 p1.aS).bind fun r4=>(eJ u r4 p1.aY).bind fun r5=>oK u u r5 p1 0)
def C0 (u:Nat) (p1:af) (s:(List Int)):Option ((List Int)):=(AY u s)
def xB (u:Nat) (p1:af) (y12:bM) (i_:Nat) (s:(List Int)) (k_:((List Int))→Option ((List Int))):Option ((List Int)):=(oJ u s y12.fS).bind fun r13=>(fun z0 z1 z2=>k_ z0) r13 p1 (aX .i64 (i_:Int) 1)
theorem KM (u:Nat) (p1:af) (s:(List Int)) (k:Nat) (hn:p1.aD.length≤9223372036854775807) (hk:p1.aD.length < k):oK u k s p1 0=Pu.bt (C0 u p1) (xB u p1) p1.aD 0 s:=Pu.bP (fun (k:Nat) (s:(List Int)) (i:Int)=>oK u k s p1 i) hn (fun _ _ _=>rfl) s hk
def yG (u:Nat) (p0:List Int) (p1:Int):Option ((List Int)) :=
  (eJ u p0 (fx .i64 p1 1048575)).bind fun r1=>(eJ u r1 (nY .i64 p1 20)).bind fun r2=>some r2
def Af (u:Nat) (p0 p1:List Int):Option ((List Int)) :=
  (eJ u p0 ((p1.length:Int))).bind fun r1=>(dW (decide ((r1.length+p1.length)*1≤140737488355328))).bind fun _=>some (r1++p1)
def kd (u:Nat) (x11:List Int):Option ((List Int)) :=
  (pg u x11).bind fun r12=>(eJ u x11 r12).bind fun r13=>some r13
def uX (u:Nat) (p0:ei):Option ((List Int)) :=
  (xA u p0).bind fun r1=>bif !r1 then (some ([])) else ((eJ u ([]) p0.bz).bind fun r2=>bif p0.bz == 1 then ((yF u r2 p0.av).bind fun r3=>kd u r3) else (bif p0.bz == 2 then ((eJ u r2 p0.aP).bind fun r4=>(yG u r4 p0.bw).bind fun r5=>(yG u r5 p0.bL).bind fun r6=>kd u r6) else (bif p0.bz == 3 then ((eJ u r2 p0.aP).bind fun r7=>(eJ u r7 p0.fI).bind fun r8=>(Af u r8 p0.fB).bind fun r9=>kd u r9) else (bif p0.bz == 4 then ((eJ u r2 p0.aP).bind fun r10=>kd u r10) else (kd u r2)))))
def rf (u:Nat) (x7:Bool) (r3:ei×Bool):Option (ei×Bool) :=
  bif x7 then (some (((ei.mk 0 0 ((af.mk 0 0 0 ([]))) 0 0 0 ([])),false))) else (some ((r3.1,true)))
def wd (u:Nat) (p0:List Int) (r1:Int×Int×Bool) (x2:Bool):Option (ei×Bool) :=
  bif x2 then (some (((ei.mk 0 0 ((af.mk 0 0 0 ([]))) 0 0 0 ([])),false))) else ((fH u p0 r1.1 r1.2.1).bind fun r3=>bif !r3.2 then (rf u true r3) else ((xA u r3.1).bind fun r4=>bif !r4 then (rf u true r3) else ((uX u r3.1).bind fun r5=>(oG u r5 p0).bind fun r6=>rf u (!r6) r3)))
def yH (u:Nat) (p0:List Int):Option (ei×Bool) :=
  (nJ u p0 0).bind fun r1=>bif !r1.2.2 then (wd u p0 r1 true) else (wd u p0 r1 (decide (((p0.length:Int)) > 400)))
def Ag (u:Nat) (p0:Kid) (q0:Int):Option Bool :=
  some (p0.fb == q0)
def dh (u:Nat)  : Option Int :=
  some (-1)
def bO (u bH:Nat) (p0:List Kid) (p1_0 x2:Int):Option Int:=match bH with
  | 0=>none
  | bH+1=>bif decide (x2 < ((p0.length:Int))) then ((ci p0 x2).bind fun y4=>(Ag u y4 p1_0).bind fun r5=>bif r5 then (some x2) else ((fun z0 z1 z2=>bO u bH z0 z1 z2) p0 p1_0 (aX .i64 x2 1))) else (dh u)
def cH (u:Nat) (p0:List Kid) (p1_0:Int):Option Int :=
  bO u u p0 p1_0 0
def kl (u:Nat) (p0:List Kid) (p1_0:Int) (s:Unit):Option Int:=(dh u)
def km (u:Nat) (p0:List Kid) (p1_0:Int) (y4:Kid) (i_:Nat) (s:Unit) (k_:Unit→Option Int):Option Int:=(Ag u y4 p1_0).bind fun r5=>bif r5 then (some (i_:Int)) else ((fun z0 z1 z2=>k_ ()) p0 p1_0 (aX .i64 (i_:Int) 1))
theorem kn (u:Nat) (p0:List Kid) (p1_0:Int) (s:Unit) (k:Nat) (hn:p0.length≤9223372036854775807) (hk:p0.length < k):bO u k p0 p1_0 0=Pu.bt (kl u p0 p1_0) (km u p0 p1_0) p0 0 s:=Pu.bP (fun (k:Nat) (s:Unit) (i:Int)=>bO u k p0 p1_0 i) hn (fun _ _ _=>rfl) s hk
def ux (u:Nat) (p0:List Kid) (p1:Int):Option Int :=
  (cH u p0 p1).bind fun r1=>some r1
def BR (u:Nat) (p0:Kid) (q0:Int):Option Bool :=
  some (decide (p0.fb > q0))
def dm (u:Nat)  : Option Int :=
  some (-1)
def bS (u bK:Nat) (p0:List Kid) (p1_0 x2:Int):Option Int:=match bK with
  | 0=>none
  | bK+1=>bif decide (x2 < ((p0.length:Int))) then ((ci p0 x2).bind fun y4=>(BR u y4 p1_0).bind fun r5=>bif r5 then (some x2) else ((fun z0 z1 z2=>bS u bK z0 z1 z2) p0 p1_0 (aX .i64 x2 1))) else (dm u)
def ch (u:Nat) (p0:List Kid) (p1_0:Int):Option Int :=
  bS u u p0 p1_0 0
def kZ (u:Nat) (p0:List Kid) (p1_0:Int) (s:Unit):Option Int:=(dm u)
def k5 (u:Nat) (p0:List Kid) (p1_0:Int) (y4:Kid) (i_:Nat) (s:Unit) (k_:Unit→Option Int):Option Int:=(BR u y4 p1_0).bind fun r5=>bif r5 then (some (i_:Int)) else ((fun z0 z1 z2=>k_ ()) p0 p1_0 (aX .i64 (i_:Int) 1))
theorem k6 (u:Nat) (p0:List Kid) (p1_0:Int) (s:Unit) (k:Nat) (hn:p0.length≤9223372036854775807) (hk:p0.length < k):bS u k p0 p1_0 0=Pu.bt (kZ u p0 p1_0) (k5 u p0 p1_0) p0 0 s:=Pu.bP (fun (k:Nat) (s:Unit) (i:Int)=>bS u k p0 p1_0 i) hn (fun _ _ _=>rfl) s hk
def eF (u:Nat) (p0:List Kid) (p1:Int) (p2:List Kid):Option (List Kid) :=
  bif decide (0≤p1) && decide (p1≤p0.length) && decide (p2.length=1) && decide ((p0.length+p2.length)*40≤140737488355328) then some (p0.take p1.toNat++p2++p0.drop p1.toNat) else none
def we (u:Nat) (p2 p3:Int) (x10:List Kid) (x11:Int):Option ((List Kid)) :=
  (ci x10 x11).bind fun y12=>some (((x10.set (Int.toNat x11) ((Kid.mk y12.fb p2 y12.bL y12.qM y12.c8))).set (Int.toNat x11) ((Kid.mk y12.fb p2 y12.bL 0 y12.c8))).set (Int.toNat x11) ((Kid.mk y12.fb p2 (sV .i64 y12.bL p3) 0 y12.c8)))
def wg (u:Nat) (p2 p3 p1:Int) (r1:List Kid) (x8:Int):Option ((List Kid)) :=
  (eF u r1 x8 ([(Kid.mk p1 0 0 0 0)])).bind fun r9=>we u p2 p3 r9 x8
def wh (u:Nat) (p0:List Kid) (p2 p3:Int) (r1:List Kid) (x5:Bool) (p1:Int):Option ((List Kid)) :=
  bif x5 then (some r1) else ((ux u p0 p1).bind fun r6=>bif decide (r6 < 0) then ((ch u p0 p1).bind fun r7=>bif decide (r7 < 0) then (wg u p2 p3 p1 r1 ((p0.length:Int))) else (wg u p2 p3 p1 r1 r7)) else (we u p2 p3 r1 r6))
def C3 (u:Nat) (p0:List Kid) (p1 p2 p3:Int):Option ((List Kid)) :=
  (cG u p0).bind fun r1=>(xy u p1).bind fun r2=>bif !r2 then (wh u p0 p2 p3 r1 true p1) else ((dr u p2).bind fun r3=>bif !r3 then (wh u p0 p2 p3 r1 true p1) else ((dr u p3).bind fun r4=>wh u p0 p2 p3 r1 (!r4) p1))
def rh (u:Nat) (p0:aA):Option Int :=
  some p0.a7.aT
def oL (u:Nat) (p0:List Kid) (p2 r1:Int) (x7:Bool):Option Int :=
  bif x7 then (some 0) else ((ci p0 r1).bind fun y8=>(ci p0 r1).bind fun y9=>some (Aj .i64 (fx .i64 y8.bw p2) y9.c8))
def ri (u:Nat) (p0:List Kid) (p1 p2:Int):Option Int :=
  (ux u p0 p1).bind fun r1=>bif decide (r1 < 0) then (oL u p0 p2 r1 true) else ((dr u p2).bind fun r2=>bif !r2 then (oL u p0 p2 r1 true) else ((ci p0 r1).bind fun y3=>(dr u y3.bw).bind fun r4=>bif !r4 then (oL u p0 p2 r1 true) else ((ci p0 r1).bind fun y5=>(dr u y5.c8).bind fun r6=>oL u p0 p2 r1 (!r6))))
def ue (u:Nat) (x9:List Int):Option ((List Int)) :=
  some x9
def k7 (u:Nat) (J8:Int→(List Int)→Int→Option ((List Int))) (p0:Int) (x8:List Int) (x4:Int):Option ((List Int)) :=
  J8 p0 x8 (aX .i64 x4 1)
def jb (u gr:Nat) (p0:Int) (x3:List Int) (x4:Int):Option ((List Int)):=match gr with
  | 0=>none
  | gr+1=>bif decide (x4 < 40) then ((fk u p0 x4).bind fun r7=>bif r7 then ((dW (decide ((x3.length+(([x4]:List Int)).length)*8≤140737488355328))).bind fun _=>k7 u (fun z0 z1 z2=>jb u gr z0 z1 z2) p0 (x3++(([x4]:List Int))) x4) else (k7 u (fun z0 z1 z2=>jb u gr z0 z1 z2) p0 x3 x4)) else (ue u x3)
def wi (u:Nat) (p0:Int):Option ((List Int)) :=
  jb u u p0 (([]:List Int)) 0
def BS (u:Nat) (p0:Int) (s:(List Int)):Option ((List Int)):=(ue u s)
def BT (u:Nat) (p0:Int) (i_:Nat) (s:(List Int)) (k_:((List Int))→Option ((List Int))):Option ((List Int)):=(fk u p0 (i_:Int)).bind fun r7=>bif r7 then ((dW (decide ((s.length+(([(i_:Int)]:List Int)).length)*8≤140737488355328))).bind fun _=>k7 u (fun z0 z1 z2=>k_ z1) p0 (s++(([(i_:Int)]:List Int))) (i_:Int)) else (k7 u (fun z0 z1 z2=>k_ z1) p0 s (i_:Int))
theorem Ix (u:Nat) (p0:Int) (s:(List Int)) (k:Nat) (hn:(40:Int)≤9223372036854775807) (hk:Int.toNat (40) < k):jb u k p0 s 0=Pu.qz (BS u p0) (BT u p0) (Int.toNat (40)) 0 s:=Pu.sN (fun (k:Nat) (s:(List Int)) (i:Int)=>jb u k p0 s i) hn (fun _ _ _=>rfl) s hk
def uf (u:Nat) (p2:Int) (x3:Bool) (p0:af) (p1:aW):Option ((List Int)×Bool) :=
  bif x3 then (some (([],false))) else ((iI u p1 p0 p2).bind fun r4=>(gj u r4).bind fun r5=>some ((r5,true)))
def pB (u:Nat) (p0:af) (p1:aW) (p2:Int):Option ((List Int)×Bool) :=
  (pw u p0 p1).bind fun r1=>bif !r1 then (uf u p2 true p0 p1) else ((fk u p1.aT p2).bind fun r2=>uf u p2 (!r2) p0 p1)
def nK (u:Nat) (p0 p1:Int) (p2:List Int):Option ei :=
  (gj u p2).bind fun r1=>some ((ei.mk 3 p0 ((af.mk 0 0 0 ([]))) 0 0 p1 r1))
def jO (u:Nat) (p0 p1:Int) (p2:ei):Option au :=
  (uX u p2).bind fun r1=>some ((au.mk p0 p1 r1))
def sf (u:Nat) (x9:List Kid):Option ((List Kid)) :=
  some x9
def oM (u:Nat) (p2:Int) (r1:List Kid) (r2:Int) (x6:Bool):Option ((List Kid)) :=
  bif x6 then ((ci r1 r2).bind fun y7=>(ci r1 r2).bind fun y8=>sf u (r1.set (Int.toNat r2) ((Kid.mk y8.fb y8.bw y8.bL y8.qM (sV .i64 y7.c8 p2))))) else (sf u r1)
def nV (u:Nat) (p0:List Kid) (p1 p2:Int):Option ((List Kid)) :=
  (cG u p0).bind fun r1=>(ux u p0 p1).bind fun r2=>bif decide (r2≥0) then ((dr u p2).bind fun r3=>bif r3 then ((ci p0 r2).bind fun y4=>(dr u y4.c8).bind fun r5=>oM u p2 r1 r2 r5) else (oM u p2 r1 r2 false)) else (oM u p2 r1 r2 false)
def qE (u:Nat) (p2 r3:Int) (p0 r1:aA) (x16:List au):Option Act :=
  (nV u p0.aN p2 r3).bind fun r17=>some ((Act.mk ((aA.mk r1.fK r1.bf r1.be r1.av r1.a7 r1.aJ r17 r1.a8)) x16))
def kw (u:Nat) (Gm:Int→Int→Int→((List Int))→Int→aA→aA→(List au)→Option Act) (p1 p2 r3:Int) (r4:(List Int)) (x7:Int) (p0 r1:aA) (x15:List au):Option Act :=
  Gm p1 p2 r3 r4 (aX .i64 x7 1) p0 r1 x15
def gk (u eM:Nat) (p1 p2 r3:Int) (r4:(List Int)) (x7:Int) (p0 r1:aA) (x8:List au):Option Act:=match eM with
  | 0=>none
  | eM+1=>bif decide (x7 < ((r4.length:Int))) then ((ci r4 x7).bind fun y11=>(pB u p0.av p0.a7 y11).bind fun r12=>bif r12.2 then ((nK u p0.av.aP y11 r12.1).bind fun r13=>(jO u p1 p2 r13).bind fun r14=>(dW (decide ((x8.length+([r14]).length)*40≤140737488355328))).bind fun _=>kw u (fun z0 z1 z2 z3 z4 z5 z6 z7=>gk u eM z0 z1 z2 z3 z4 z5 z6 z7) p1 p2 r3 r4 x7 p0 r1 (x8++([r14]))) else (kw u (fun z0 z1 z2 z3 z4 z5 z6 z7=>gk u eM z0 z1 z2 z3 z4 z5 z6 z7) p1 p2 r3 r4 x7 p0 r1 x8)) else (qE u p2 r3 p0 r1 x8)
def rj (u:Nat) (p0:aA) (p1 p2:Int):Option Act :=
  (gG u p0).bind fun r1=>(rh u p0).bind fun r2=>(ri u p0.aN p2 r2).bind fun r3=>(wi u r3).bind fun r4=>gk u u p1 p2 r3 r4 0 p0 r1 ([])
def zS (u:Nat) (p1 p2 r3:Int) (r4:(List Int)) (p0 r1:aA) (s:(List au)):Option Act:=(qE u p2 r3 p0 r1 s)
def zT (u:Nat) (p1 p2 r3:Int) (r4:(List Int)) (p0 r1:aA) (y11:Int) (i_:Nat) (s:(List au)) (k_:((List au))→Option Act):Option Act:=(pB u p0.av p0.a7 y11).bind fun r12=>bif r12.2 then ((nK u p0.av.aP y11 r12.1).bind fun r13=>(jO u p1 p2 r13).bind fun r14=>(dW (decide ((s.length+([r14]).length)*40≤140737488355328))).bind fun _=>kw u (fun z0 z1 z2 z3 z4 z5 z6 z7=>k_ z7) p1 p2 r3 r4 (i_:Int) p0 r1 (s++([r14]))) else (kw u (fun z0 z1 z2 z3 z4 z5 z6 z7=>k_ z7) p1 p2 r3 r4 (i_:Int) p0 r1 s)
theorem Ga (u:Nat) (p1 p2 r3:Int) (r4:(List Int)) (p0 r1:aA) (s:(List au)) (k:Nat) (hn:r4.length≤9223372036854775807) (hk:r4.length < k):gk u k p1 p2 r3 r4 0 p0 r1 s=Pu.bt (zS u p1 p2 r3 r4 p0 r1) (zT u p1 p2 r3 r4 p0 r1) r4 0 s:=Pu.bP (fun (k:Nat) (s:(List au)) (i:Int)=>gk u k p1 p2 r3 r4 i p0 r1 s) hn (fun _ _ _=>rfl) s hk
def mI (u:Nat) (p1 p2:Int) (x4:Bool) (x5 x6:Int) (x7 x8 x9:Int) (x10:List bM) (x11:Int) (x12:List Int) (x13:Int) (x14:List Kid) (x15:Int) (x16:List au) (x17 x18:Int) (x19 x20 x21:Int) (x22:List bM):Option Act :=
  (jO u p1 p2 ((ei.mk x17 x18 ((af.mk x19 x20 x21 x22)) 0 0 0 ([])))).bind fun r23=>some ((Act.mk ((aA.mk x4 x5 x6 ((af.mk x7 x8 x9 x10)) ((aW.mk x11 x12)) x13 x14 x15)) ([r23])))
def pP (u:Nat) (p0:aA) (p1 p2:Int) (p3:ei):Option Act :=
  (gG u p0).bind fun r1=>bif p2 == p1 then (some ((Act.mk r1 ([])))) else ((C3 u p0.aN p2 p3.bw p3.bL).bind fun r2=>bif p0.aJ == 0 then (mI u p1 p2 r1.fK r1.bf r1.be r1.av.aP r1.av.aS r1.av.aY r1.av.aD r1.a7.aT r1.a7.bh r1.aJ r2 r1.a8 ([]) 4 0 0 0 0 ([])) else (bif p3.aP != p0.av.aP then (mI u p1 p2 r1.fK r1.bf r1.be r1.av.aP r1.av.aS r1.av.aY r1.av.aD r1.a7.aT r1.a7.bh r1.aJ r2 r1.a8 ([]) 1 0 p0.av.aP p0.av.aS p0.av.aY p0.av.aD) else ((rj u ((aA.mk r1.fK r1.bf r1.be r1.av r1.a7 r1.aJ r2 r1.a8)) p1 p2).bind fun r3=>bif decide (((r3.sU.length:Int)) > 0) then (some r3) else (mI u p1 p2 r3.fN.fK r3.fN.bf r3.fN.be r3.fN.av.aP r3.fN.av.aS r3.fN.av.aY r3.fN.av.aD r3.fN.a7.aT r3.fN.a7.bh r3.fN.aJ r3.fN.aN r3.fN.a8 r3.sU 4 p0.av.aP 0 0 0 ([])))))
def tk (u:Nat) (p0:af):Option aW :=
  (mF u p0).bind fun r1=>bif !r1 then (some ((aW.mk 0 ([])))) else ((dW (decide (0≤p0.aY) && (p0.aY == 0 || p0.aY == p0.aY))).bind fun _=>(dW (decide (Int.toNat p0.aY*1≤140737488355328))).bind fun _=>some ((aW.mk 0 (List.replicate (Int.toNat p0.aY) (0:Int)))))
def zr (u:Nat)  : Option Int :=
  some (-1)
def k8 (u kF:Nat) (p0:List Int) (p2 x3:Int) (p1:bM):Option Int:=match kF with
  | 0=>none
  | kF+1=>bif decide ((aX .i64 x3 p2)≤((p0.length:Int))) then ((dW (dU x3 (aX .i64 x3 p2) p0.length)).bind fun _=>(kX u ((p0.take (Int.toNat (aX .i64 x3 p2))).drop (Int.toNat x3))).bind fun r6=>bif [r6.fW,r6.fS] == [p1.fW,p1.fS] then (some x3) else ((fun z0 z1 z2 z3=>k8 u kF z0 z1 z2 z3) p0 p2 (aX .i64 x3 1) p1)) else (zr u)
def wj (u:Nat) (p0:List Int) (p1:bM) (p2:Int):Option Int :=
  (bC u p2 1 6).bind fun r1=>bif !r1 then (some (-1)) else (k8 u u p0 p2 0 p1)
def sg (u:Nat) (p0:List Int) (p1:af) (p2:Int):Option Int :=
  (ja u p1.aS p1.aY p2).bind fun r1=>(bC u p2 0 (cu .i64 ((p1.aD.length:Int)) 1)).bind fun r2=>bif !r2 then (some (-1)) else ((ci p1.aD p2).bind fun y3=>(wj u p0 y3 r1.2).bind fun r4=>some r4)
def nL (u:Nat) (p0:aW) (p1:af) (p2:Int):Option (Int×Int) :=
  (ja u p1.aS p1.aY p2).bind fun r1=>(dW (dU r1.1 (aX .i64 r1.1 r1.2) p0.bh.length)).bind fun _=>some (r1.1,aX .i64 r1.1 r1.2)
def k9 (u:Nat) (p0:aW) (p1:af) (p2:Int) (p3:List Int):Option aW :=
  (nL u p0 p1 p2).bind fun r1=>(dW (Vz r1.1 r1.2 p0.bh.length p3.length)).bind fun _=>(dW (decide (0≤p2))).bind fun _=>some ((aW.mk (sV .i64 p0.aT (i4 .i64 1 p2)) (zZ p0.bh p3 (Int.toNat r1.1))))
def wl (u:Nat) (x18:Int) (x19:List Int):Option aW :=
  some ((aW.mk x18 x19))
def kx (u:Nat) (Gl:(List Int)→af→Int→Int→(List Int)→Option aW) (p1:List Int) (p0:af) (x6 x16:Int) (x17:List Int):Option aW :=
  Gl p1 p0 (aX .i64 x6 1) x16 x17
def gl (u eL:Nat) (p1:List Int) (p0:af) (x6 x7:Int) (x8:List Int):Option aW:=match eL with
  | 0=>none
  | eL+1=>bif decide (x6 < ((p0.aD.length:Int))) then ((ja u p0.aS p0.aY x6).bind fun r12=>(sg u p1 p0 x6).bind fun r13=>bif decide (r13≥0) then ((dW (dU r13 (aX .i64 r13 r12.2) p1.length)).bind fun _=>(k9 u ((aW.mk x7 x8)) p0 x6 ((p1.take (Int.toNat (aX .i64 r13 r12.2))).drop (Int.toNat r13))).bind fun r15=>kx u (fun z0 z1 z2 z3 z4=>gl u eL z0 z1 z2 z3 z4) p1 p0 x6 r15.aT r15.bh) else (kx u (fun z0 z1 z2 z3 z4=>gl u eL z0 z1 z2 z3 z4) p1 p0 x6 x7 x8)) else (wl u x7 x8)
def rk (u:Nat) (p0:af) (p1:List Int):Option aW :=
  (tk u p0).bind fun r1=>(mF u p0).bind fun r2=>bif !r2 then (some r1) else (gl u u p1 p0 0 r1.aT r1.bh)
def zU (u:Nat) (p1:List Int) (p0:af) (s:Int×(List Int)):Option aW:=(wl u s.1 s.2)
def sJ (u:Nat) (p1:List Int) (p0:af) (i_:Nat) (s:Int×(List Int)) (k_:(Int×(List Int))→Option aW):Option aW:=(ja u p0.aS p0.aY (i_:Int)).bind fun r12=>(sg u p1 p0 (i_:Int)).bind fun r13=>bif decide (r13≥0) then ((dW (dU r13 (aX .i64 r13 r12.2) p1.length)).bind fun _=>(k9 u ((aW.mk s.1 s.2)) p0 (i_:Int) ((p1.take (Int.toNat (aX .i64 r13 r12.2))).drop (Int.toNat r13))).bind fun r15=>kx u (fun z0 z1 z2 z3 z4=>k_ (z3,z4)) p1 p0 (i_:Int) r15.aT r15.bh) else (kx u (fun z0 z1 z2 z3 z4=>k_ (z3,z4)) p1 p0 (i_:Int) s.1 s.2)
theorem Gb (u:Nat) (p1:List Int) (p0:af) (s:Int×(List Int)) (k:Nat) (hn:(((p0.aD.length:Int)):Int)≤9223372036854775807) (hk:Int.toNat (((p0.aD.length:Int))) < k):gl u k p1 p0 0 s.1 s.2=Pu.qz (zU u p1 p0) (sJ u p1 p0) (Int.toNat (((p0.aD.length:Int)))) 0 s:=Pu.sN (fun (k:Nat) (s:Int×(List Int)) (i:Int)=>gl u k p1 p0 i s.1 s.2) hn (fun _ _ _=>rfl) s hk
def AZ (u:Nat) (p0:af) (p1:List Int):Option Bool :=
  bif ((p1.length:Int)) == p0.aY then ((uU u p1 p0.aS).bind fun r1=>(da u r1 p0.aD).bind fun r2=>some r2) else (some false)
def rm (u:Nat) (p0:aG) (p1:af):Option Bool :=
  (pz u p0).bind fun r1=>bif r1.1 == p1.aP then ((AZ u p1 r1.2).bind fun r2=>some r2) else (some false)
def la (u:Nat) (r1:aA) (x9 x10 x11:Int) (x12:List bM) (x13:Int) (x14:List Int) (x15 x16:Int):Option aA :=
  some ((aA.mk r1.fK r1.bf r1.be ((af.mk x9 x10 x11 x12)) ((aW.mk x13 x14)) x15 r1.aN x16))
def ug (u:Nat) (x4:Bool) (p1:aG) (p2:af) (r1:aA):Option aA :=
  bif x4 then ((pz u p1).bind fun r5=>(sd u p2).bind fun r6=>(rk u p2 r5.2).bind fun r7=>(rm u p1 p2).bind fun r8=>bif r8 then (la u r1 r6.aP r6.aS r6.aY r6.aD r7.aT r7.bh 5 r1.a8) else (la u r1 r6.aP r6.aS r6.aY r6.aD r7.aT r7.bh 1 r1.a8)) else (la u r1 r1.av.aP r1.av.aS r1.av.aY r1.av.aD r1.a7.aT r1.a7.bh r1.aJ r1.a8)
def wm (u:Nat) (p0:aA) (p1:aG) (p2:af):Option aA :=
  (gG u p0).bind fun r1=>bif p0.aJ != 0 then ((nH u p2 p0.av).bind fun r2=>bif !r2 then (la u r1 r1.av.aP r1.av.aS r1.av.aY r1.av.aD r1.a7.aT r1.a7.bh r1.aJ (aX .i64 r1.a8 1)) else (la u r1 r1.av.aP r1.av.aS r1.av.aY r1.av.aD r1.a7.aT r1.a7.bh r1.aJ r1.a8)) else ((mF u p2).bind fun r3=>bif r3 then (ug u (p2.aP != 0) p1 p2 r1) else (ug u false p1 p2 r1))
def lT (u:Nat) (p2:Int) (p3:List Int) (x7:Bool) (r1:aW) (p0:af):Option (aW×Bool) :=
  bif x7 then (some ((r1,false))) else ((k9 u r1 p0 p2 p3).bind fun r8=>some ((r8,true)))
def tl (u:Nat) (p0:af) (p1:aW) (p2:Int) (p3:List Int):Option (aW×Bool) :=
  (oH u p1).bind fun r1=>(pw u p0 p1).bind fun r2=>bif !r2 then (lT u p2 p3 true r1 p0) else ((bC u p2 0 (cu .i64 ((p0.aD.length:Int)) 1)).bind fun r3=>bif !r3 then (lT u p2 p3 true r1 p0) else ((fk u p1.aT p2).bind fun r4=>bif r4 then (lT u p2 p3 true r1 p0) else ((kX u p3).bind fun r5=>(ci p0.aD p2).bind fun y6=>lT u p2 p3 (!([r5.fW,r5.fS] == [y6.fW,y6.fS])) r1 p0)))
def zt (u:Nat) (r1:aA) (x23:List Kid) (x24:List au):Option Act :=
  some ((Act.mk ((aA.mk r1.fK r1.bf r1.be r1.av r1.a7 r1.aJ x23 r1.a8)) x24))
def nm (u:Nat) (J7:Int→Int→((List Int)×Bool)→aA→Int→aA→(List Kid)→(List au)→Option Act) (p1 p2:Int) (r2:(List Int)×Bool) (p0:aA) (x6:Int) (r1:aA) (x21:List Kid) (x22:List au):Option Act :=
  J7 p1 p2 r2 p0 (aX .i64 x6 1) r1 x21 x22
def jc (u gq:Nat) (p1 p2:Int) (r2:(List Int)×Bool) (p0:aA) (x6:Int) (r1:aA) (x7:List Kid) (x8:List au):Option Act:=match gq with
  | 0=>none
  | gq+1=>bif decide (x6 < ((p0.aN.length:Int))) then ((ci p0.aN x6).bind fun y12=>(rh u p0).bind fun r13=>(ri u x7 y12.fb r13).bind fun r14=>(fk u r14 p2).bind fun r15=>bif r15 then ((nK u p0.av.aP p2 r2.1).bind fun r16=>(jO u p1 y12.fb r16).bind fun r17=>(dW (decide ((x8.length+([r17]).length)*40≤140737488355328))).bind fun _=>(dW (decide (0≤p2))).bind fun _=>(nV u x7 y12.fb (i4 .i64 1 p2)).bind fun r20=>nm u (fun z0 z1 z2 z3 z4 z5 z6 z7=>jc u gq z0 z1 z2 z3 z4 z5 z6 z7) p1 p2 r2 p0 x6 r1 r20 (x8++([r17]))) else (nm u (fun z0 z1 z2 z3 z4 z5 z6 z7=>jc u gq z0 z1 z2 z3 z4 z5 z6 z7) p1 p2 r2 p0 x6 r1 x7 x8)) else (zt u r1 x7 x8)
def wn (u:Nat) (p0:aA) (p1 p2:Int):Option Act :=
  (gG u p0).bind fun r1=>(pB u p0.av p0.a7 p2).bind fun r2=>bif !r2.2 then (some ((Act.mk r1 ([])))) else (jc u u p1 p2 r2 p0 0 r1 r1.aN ([]))
def Iy (u:Nat) (p1 p2:Int) (r2:(List Int)×Bool) (p0 r1:aA) (s:(List Kid)×(List au)):Option Act:=(zt u r1 s.1 s.2)
def BU (u:Nat) (p1 p2:Int) (r2:(List Int)×Bool) (p0 r1:aA) (y12:Kid) (i_:Nat) (s:(List Kid)×(List au)) (k_:((List Kid)×(List au))→Option Act):Option Act:=(rh u p0).bind fun r13=>(ri u s.1 y12.fb r13).bind fun r14=>(fk u r14 p2).bind fun r15=>bif r15 then ((nK u p0.av.aP p2 r2.1).bind fun r16=>(jO u p1 y12.fb r16).bind fun r17=>(dW (decide ((s.2.length+([r17]).length)*40≤140737488355328))).bind fun _=>(dW (decide (0≤p2))).bind fun _=>(nV u s.1 y12.fb (i4 .i64 1 p2)).bind fun r20=>nm u (fun z0 z1 z2 z3 z4 z5 z6 z7=>k_ (z6,z7)) p1 p2 r2 p0 (i_:Int) r1 r20 (s.2++([r17]))) else (nm u (fun z0 z1 z2 z3 z4 z5 z6 z7=>k_ (z6,z7)) p1 p2 r2 p0 (i_:Int) r1 s.1 s.2)
theorem Iz (u:Nat) (p1 p2:Int) (r2:(List Int)×Bool) (p0 r1:aA) (s:(List Kid)×(List au)) (k:Nat) (hn:p0.aN.length≤9223372036854775807) (hk:p0.aN.length < k):jc u k p1 p2 r2 p0 0 r1 s.1 s.2=Pu.bt (Iy u p1 p2 r2 p0 r1) (BU u p1 p2 r2 p0 r1) p0.aN 0 s:=Pu.bP (fun (k:Nat) (s:(List Kid)×(List au)) (i:Int)=>jc u k p1 p2 r2 p0 i r1 s.1 s.2) hn (fun _ _ _=>rfl) s hk
def si (u:Nat) (p1:Int) (x2:Bool) (p0:aA) (p2:ei) (r1:aA):Option Act :=
  bif x2 then (some ((Act.mk ((aA.mk r1.fK r1.bf r1.be r1.av r1.a7 r1.aJ r1.aN (aX .i64 r1.a8 1))) ([])))) else ((fk u p0.a7.aT p2.fI).bind fun r3=>bif r3 then (some ((Act.mk r1 ([])))) else ((tl u p0.av p0.a7 p2.fI p2.fB).bind fun r4=>bif !r4.2 then (some ((Act.mk ((aA.mk r1.fK r1.bf r1.be r1.av r1.a7 r1.aJ r1.aN (aX .i64 r1.a8 1))) ([])))) else ((wn u ((aA.mk r1.fK r1.bf r1.be r1.av r4.1 r1.aJ r1.aN r1.a8)) p1 p2.fI).bind fun r5=>some r5)))
def tn (u:Nat) (p0:aA) (p1:Int) (p2:ei):Option Act :=
  (gG u p0).bind fun r1=>bif p0.aJ == 0 then (si u p1 true p0 p2 r1) else (si u p1 (p2.aP != p0.av.aP) p0 p2 r1)
def sj (u:Nat) (r1:aA) (x4:Int):Option Act :=
  some ((Act.mk ((aA.mk r1.fK r1.bf 0 r1.av r1.a7 r1.aJ r1.aN x4)) ([])))
def tp (u:Nat) (p0:aA) (p1:Int) (p2:aG) (p3:ei):Option Act :=
  (gG u p0).bind fun r1=>bif p3.bz == 1 then ((wm u ((aA.mk r1.fK r1.bf 0 r1.av r1.a7 r1.aJ r1.aN r1.a8)) p2 p3.av).bind fun r2=>some ((Act.mk r2 ([])))) else (bif p3.bz == 3 then ((tn u ((aA.mk r1.fK r1.bf 0 r1.av r1.a7 r1.aJ r1.aN r1.a8)) p1 p3).bind fun r3=>some r3) else (bif p3.bz == 2 then (sj u r1 (aX .i64 r1.a8 1)) else (sj u r1 r1.a8)))
def wo (u:Nat) (p1:Int) (x4:Bool) (p2:aA) (p3:aG) (p4:au) (r1:aA) (r2:ei×Bool):Option Act :=
  bif x4 then (some ((Act.mk ((aA.mk r1.fK r1.bf r1.be r1.av r1.a7 r1.aJ r1.aN (aX .i64 r1.a8 1))) ([])))) else (bif r2.1.bz == 2 then ((pP u p2 p1 p4.du r2.1).bind fun r5=>some r5) else (bif p4.du == p2.bf then ((tp u p2 p1 p3 r2.1).bind fun r6=>some r6) else (some ((Act.mk ((aA.mk r1.fK r1.bf r1.be r1.av r1.a7 r1.aJ r1.aN (aX .i64 r1.a8 1))) ([]))))))
def C4 (u:Nat) (p0:co) (p1:Int) (p2:aA) (p3:aG) (p4:au):Option Act :=
  (gG u p2).bind fun r1=>bif !p2.fK then (some ((Act.mk r1 ([])))) else ((yH u p4.fB).bind fun r2=>bif !r2.2 then (wo u p1 true p2 p3 p4 r1 r2) else ((ee u p0 p4.du).bind fun r3=>bif !r3 then (wo u p1 true p2 p3 p4 r1 r2) else (wo u p1 (p4.du == p1) p2 p3 p4 r1 r2)))
def gH (u:Nat)  : Option Bool :=
  some true
def cQ (u cE:Nat) (p0 p1:List Kid) (x2:Int):Option Bool:=match cE with
  | 0=>none
  | cE+1=>bif decide (x2 < ((p0.length:Int))) then ((ci p0 x2).bind fun y4=>(ci p1 x2).bind fun y5=>bif !([y4.fb,y4.bw,y4.bL,y4.qM,y4.c8] == [y5.fb,y5.bw,y5.bL,y5.qM,y5.c8]) then (some false) else ((fun z0 z1 z2=>cQ u cE z0 z1 z2) p0 p1 (aX .i64 x2 1))) else (gH u)
def dI (u:Nat) (p0 p1:List Kid):Option Bool :=
  bif ((p0.length:Int)) != ((p1.length:Int)) then (some false) else (cQ u u p0 p1 0)
def sm (u:Nat) (p0 p1:List Kid) (s:Unit):Option Bool:=(gH u)
def kz (u:Nat) (p0 p1:List Kid) (y4:Kid) (i_:Nat) (s:Unit) (k_:Unit→Option Bool):Option Bool:=(ci p1 (i_:Int)).bind fun y5=>bif !([y4.fb,y4.bw,y4.bL,y4.qM,y4.c8] == [y5.fb,y5.bw,y5.bL,y5.qM,y5.c8]) then (some false) else ((fun z0 z1 z2=>k_ ()) p0 p1 (aX .i64 (i_:Int) 1))
theorem sn (u:Nat) (p0 p1:List Kid) (s:Unit) (k:Nat) (hn:p0.length≤9223372036854775807) (hk:p0.length < k):cQ u k p0 p1 0=Pu.bt (sm u p0 p1) (kz u p0 p1) p0 0 s:=Pu.bP (fun (k:Nat) (s:Unit) (i:Int)=>cQ u k p0 p1 i) hn (fun _ _ _=>rfl) s hk
def qm (u:Nat) (p0 p1:aA):Option Bool :=
  bif p0.fK == p1.fK then (bif p0.bf == p1.bf then (bif p0.be == p1.be then ((nH u p0.av p1.av).bind fun r1=>bif r1 then (bif p0.a7.aT == p1.a7.aT then ((oG u p0.a7.bh p1.a7.bh).bind fun r2=>bif r2 then (bif p0.aJ == p1.aJ then ((dI u p0.aN p1.aN).bind fun r3=>bif r3 then (some (p0.a8 == p1.a8)) else (some false)) else (some false)) else (some false)) else (some false)) else (some false)) else (some false)) else (some false)) else (some false)
def Ah (u:Nat) (p0:co) (p1:Int) (p2:aA) (p3:aG) (p4:au):Option Bool :=
  (C4 u p0 p1 p2 p3 p4).bind fun r1=>bif ((r1.sU.length:Int)) == 0 then ((qm u ((aA.mk r1.fN.fK r1.fN.bf r1.fN.be r1.fN.av r1.fN.a7 r1.fN.aJ r1.fN.aN p2.a8)) p2).bind fun r2=>some r2) else (some false)
def lv (u:Nat) (p0:World) (p1:Int):Option Bool :=
  (ci p0.eo p1).bind fun y1=>(ci p0.fN y1.GU).bind fun y2=>(ci p0.fD y1.GU).bind fun y3=>(Ah u p0.fT y1.GU y2 y3 y1).bind fun r4=>some r4
def rn (u:Nat) (p0:World) (p1:Int):Option Bool :=
  (bC u p1 0 (cu .i64 ((p0.eo.length:Int)) 1)).bind fun r1=>bif r1 then ((wa u p0).bind fun r2=>bif r2 then ((lv u p0 p1).bind fun r3=>some r3) else (some false)) else (some false)
def yI (u:Nat) (p0 p1:vg):Option Bool :=
  bif p0.aS != p1.aS then (some false) else (bif p0.gA != p1.gA then (some false) else (bif p0.ep != p1.ep then (some false) else (bif p0.ij != p1.ij then (some false) else (some true))))
def A0 (u:Nat)  : Option Bool :=
  some true
def oN (u mc:Nat) (p0 p1:List Int) (x2:Int):Option Bool:=match mc with
  | 0=>none
  | mc+1=>bif decide (x2 < ((p0.length:Int))) then ((ci p0 x2).bind fun y4=>(ci p1 x2).bind fun y5=>bif y4 != y5 then (some false) else ((fun z0 z1 z2=>oN u mc z0 z1 z2) p0 p1 (aX .i64 x2 1))) else (A0 u)
def yJ (u:Nat) (p0 p1:List Int):Option Bool :=
  bif ((p0.length:Int)) != ((p1.length:Int)) then (some false) else (oN u u p0 p1 0)
def KN (u:Nat) (p0 p1:List Int) (s:Unit):Option Bool:=(A0 u)
def C5 (u:Nat) (p0 p1:List Int) (y4:Int) (i_:Nat) (s:Unit) (k_:Unit→Option Bool):Option Bool:=(ci p1 (i_:Int)).bind fun y5=>bif y4 != y5 then (some false) else ((fun z0 z1 z2=>k_ ()) p0 p1 (aX .i64 (i_:Int) 1))
theorem KO (u:Nat) (p0 p1:List Int) (s:Unit) (k:Nat) (hn:p0.length≤9223372036854775807) (hk:p0.length < k):oN u k p0 p1 0=Pu.bt (KN u p0 p1) (C5 u p0 p1) p0 0 s:=Pu.bP (fun (k:Nat) (s:Unit) (i:Int)=>oN u k p0 p1 i) hn (fun _ _ _=>rfl) s hk
def yK (u:Nat) (p0 p1:co):Option Bool :=
  (yJ u p0.cy p1.cy).bind fun r1=>bif !r1 then (some false) else (some true)
def zu (u:Nat)  : Option Bool :=
  some true
def np (u kH:Nat) (p0 p1:List Int) (x2:Int):Option Bool:=match kH with
  | 0=>none
  | kH+1=>bif decide (x2 < ((p0.length:Int))) then ((ci p0 x2).bind fun y4=>(ci p1 x2).bind fun y5=>bif y4 != y5 then (some false) else ((fun z0 z1 z2=>np u kH z0 z1 z2) p0 p1 (aX .i64 x2 1))) else (zu u)
def iK (u:Nat) (p0 p1:List Int):Option Bool :=
  bif ((p0.length:Int)) != ((p1.length:Int)) then (some false) else (np u u p0 p1 0)
def IA (u:Nat) (p0 p1:List Int) (s:Unit):Option Bool:=(zu u)
def BV (u:Nat) (p0 p1:List Int) (y4:Int) (i_:Nat) (s:Unit) (k_:Unit→Option Bool):Option Bool:=(ci p1 (i_:Int)).bind fun y5=>bif y4 != y5 then (some false) else ((fun z0 z1 z2=>k_ ()) p0 p1 (aX .i64 (i_:Int) 1))
theorem IB (u:Nat) (p0 p1:List Int) (s:Unit) (k:Nat) (hn:p0.length≤9223372036854775807) (hk:p0.length < k):np u k p0 p1 0=Pu.bt (IA u p0 p1) (BV u p0 p1) p0 0 s:=Pu.bP (fun (k:Nat) (s:Unit) (i:Int)=>np u k p0 p1 i) hn (fun _ _ _=>rfl) s hk
def so (u:Nat) (p0 p1:ba):Option Bool :=
  (iK u p0.fB p1.fB).bind fun r1=>bif !r1 then (some false) else (some true)
def xC (u:Nat)  : Option Bool :=
  some true
def lU (u jD:Nat) (p0 p1:List ba) (x2:Int):Option Bool:=match jD with
  | 0=>none
  | jD+1=>bif decide (x2 < ((p0.length:Int))) then ((ci p0 x2).bind fun y4=>(ci p1 x2).bind fun y5=>(so u y4 y5).bind fun r6=>bif !r6 then (some false) else ((fun z0 z1 z2=>lU u jD z0 z1 z2) p0 p1 (aX .i64 x2 1))) else (xC u)
def tq (u:Nat) (p0 p1:List ba):Option Bool :=
  bif ((p0.length:Int)) != ((p1.length:Int)) then (some false) else (lU u u p0 p1 0)
def G7 (u:Nat) (p0 p1:List ba) (s:Unit):Option Bool:=(xC u)
def A2 (u:Nat) (p0 p1:List ba) (y4:ba) (i_:Nat) (s:Unit) (k_:Unit→Option Bool):Option Bool:=(ci p1 (i_:Int)).bind fun y5=>(so u y4 y5).bind fun r6=>bif !r6 then (some false) else ((fun z0 z1 z2=>k_ ()) p0 p1 (aX .i64 (i_:Int) 1))
theorem G8 (u:Nat) (p0 p1:List ba) (s:Unit) (k:Nat) (hn:p0.length≤9223372036854775807) (hk:p0.length < k):lU u k p0 p1 0=Pu.bt (G7 u p0 p1) (A2 u p0 p1) p0 0 s:=Pu.bP (fun (k:Nat) (s:Unit) (i:Int)=>lU u k p0 p1 i) hn (fun _ _ _=>rfl) s hk
def xD (u:Nat) (p0 p1:bM):Option Bool :=
  bif p0.fW != p1.fW then (some false) else (bif p0.fS != p1.fS then (some false) else (some true))
def A3 (u:Nat)  : Option Bool :=
  some true
def oO (u mg:Nat) (p0 p1:List bM) (x2:Int):Option Bool:=match mg with
  | 0=>none
  | mg+1=>bif decide (x2 < ((p0.length:Int))) then ((ci p0 x2).bind fun y4=>(ci p1 x2).bind fun y5=>(xD u y4 y5).bind fun r6=>bif !r6 then (some false) else ((fun z0 z1 z2=>oO u mg z0 z1 z2) p0 p1 (aX .i64 x2 1))) else (A3 u)
def yL (u:Nat) (p0 p1:List bM):Option Bool :=
  bif ((p0.length:Int)) != ((p1.length:Int)) then (some false) else (oO u u p0 p1 0)
def KP (u:Nat) (p0 p1:List bM) (s:Unit):Option Bool:=(A3 u)
def C6 (u:Nat) (p0 p1:List bM) (y4:bM) (i_:Nat) (s:Unit) (k_:Unit→Option Bool):Option Bool:=(ci p1 (i_:Int)).bind fun y5=>(xD u y4 y5).bind fun r6=>bif !r6 then (some false) else ((fun z0 z1 z2=>k_ ()) p0 p1 (aX .i64 (i_:Int) 1))
theorem KQ (u:Nat) (p0 p1:List bM) (s:Unit) (k:Nat) (hn:p0.length≤9223372036854775807) (hk:p0.length < k):oO u k p0 p1 0=Pu.bt (KP u p0 p1) (C6 u p0 p1) p0 0 s:=Pu.bP (fun (k:Nat) (s:Unit) (i:Int)=>oO u k p0 p1 i) hn (fun _ _ _=>rfl) s hk
def pQ (u:Nat) (p0 p1:af):Option Bool :=
  bif p0.aP != p1.aP then (some false) else (bif p0.aS != p1.aS then (some false) else (bif p0.aY != p1.aY then (some false) else ((yL u p0.aD p1.aD).bind fun r1=>bif !r1 then (some false) else (some true))))
def wq (u:Nat) (p0 p1:aW):Option Bool :=
  bif p0.aT != p1.aT then (some false) else ((iK u p0.bh p1.bh).bind fun r1=>bif !r1 then (some false) else (some true))
def xE (u:Nat) (p0 p1:Kid):Option Bool :=
  bif p0.fb != p1.fb then (some false) else (bif p0.bw != p1.bw then (some false) else (bif p0.bL != p1.bL then (some false) else (bif p0.qM != p1.qM then (some false) else (bif p0.c8 != p1.c8 then (some false) else (some true)))))
def A4 (u:Nat)  : Option Bool :=
  some true
def oP (u md:Nat) (p0 p1:List Kid) (x2:Int):Option Bool:=match md with
  | 0=>none
  | md+1=>bif decide (x2 < ((p0.length:Int))) then ((ci p0 x2).bind fun y4=>(ci p1 x2).bind fun y5=>(xE u y4 y5).bind fun r6=>bif !r6 then (some false) else ((fun z0 z1 z2=>oP u md z0 z1 z2) p0 p1 (aX .i64 x2 1))) else (A4 u)
def yM (u:Nat) (p0 p1:List Kid):Option Bool :=
  bif ((p0.length:Int)) != ((p1.length:Int)) then (some false) else (oP u u p0 p1 0)
def KR (u:Nat) (p0 p1:List Kid) (s:Unit):Option Bool:=(A4 u)
def C7 (u:Nat) (p0 p1:List Kid) (y4:Kid) (i_:Nat) (s:Unit) (k_:Unit→Option Bool):Option Bool:=(ci p1 (i_:Int)).bind fun y5=>(xE u y4 y5).bind fun r6=>bif !r6 then (some false) else ((fun z0 z1 z2=>k_ ()) p0 p1 (aX .i64 (i_:Int) 1))
theorem KT (u:Nat) (p0 p1:List Kid) (s:Unit) (k:Nat) (hn:p0.length≤9223372036854775807) (hk:p0.length < k):oP u k p0 p1 0=Pu.bt (KR u p0 p1) (C7 u p0 p1) p0 0 s:=Pu.bP (fun (k:Nat) (s:Unit) (i:Int)=>oP u k p0 p1 i) hn (fun _ _ _=>rfl) s hk
def uY (u:Nat) (p0 p1:aA):Option Bool :=
  bif !(p0.fK == p1.fK) then (some false) else (bif p0.bf != p1.bf then (some false) else (bif p0.be != p1.be then (some false) else ((pQ u p0.av p1.av).bind fun r1=>bif !r1 then (some false) else ((wq u p0.a7 p1.a7).bind fun r2=>bif !r2 then (some false) else (bif p0.aJ != p1.aJ then (some false) else ((yM u p0.aN p1.aN).bind fun r3=>bif !r3 then (some false) else (bif p0.a8 != p1.a8 then (some false) else (some true))))))))
def zw (u:Nat)  : Option Bool :=
  some true
def nq (u kJ:Nat) (p0 p1:List aA) (x2:Int):Option Bool:=match kJ with
  | 0=>none
  | kJ+1=>bif decide (x2 < ((p0.length:Int))) then ((ci p0 x2).bind fun y4=>(ci p1 x2).bind fun y5=>(uY u y4 y5).bind fun r6=>bif !r6 then (some false) else ((fun z0 z1 z2=>nq u kJ z0 z1 z2) p0 p1 (aX .i64 x2 1))) else (zw u)
def ws (u:Nat) (p0 p1:List aA):Option Bool :=
  bif ((p0.length:Int)) != ((p1.length:Int)) then (some false) else (nq u u p0 p1 0)
def IC (u:Nat) (p0 p1:List aA) (s:Unit):Option Bool:=(zw u)
def BW (u:Nat) (p0 p1:List aA) (y4:aA) (i_:Nat) (s:Unit) (k_:Unit→Option Bool):Option Bool:=(ci p1 (i_:Int)).bind fun y5=>(uY u y4 y5).bind fun r6=>bif !r6 then (some false) else ((fun z0 z1 z2=>k_ ()) p0 p1 (aX .i64 (i_:Int) 1))
theorem ID (u:Nat) (p0 p1:List aA) (s:Unit) (k:Nat) (hn:p0.length≤9223372036854775807) (hk:p0.length < k):nq u k p0 p1 0=Pu.bt (IC u p0 p1) (BW u p0 p1) p0 0 s:=Pu.bP (fun (k:Nat) (s:Unit) (i:Int)=>nq u k p0 p1 i) hn (fun _ _ _=>rfl) s hk
def qn (u:Nat) (p0 p1:c7):Option Bool :=
  bif p0.aP != p1.aP then (some false) else (bif p0.cL != p1.cL then (some false) else (bif p0.aY != p1.aY then (some false) else (some true)))
def xF (u:Nat) (p0 p1:cd):Option Bool :=
  bif p0.dY != p1.dY then (some false) else (bif p0.Cf != p1.Cf then (some false) else ((iK u p0.fB p1.fB).bind fun r1=>bif !r1 then (some false) else ((qn u p0.fR p1.fR).bind fun r2=>bif !r2 then (some false) else (some true))))
def A5 (u:Nat)  : Option Bool :=
  some true
def oQ (u mf:Nat) (p0 p1:List cd) (x2:Int):Option Bool:=match mf with
  | 0=>none
  | mf+1=>bif decide (x2 < ((p0.length:Int))) then ((ci p0 x2).bind fun y4=>(ci p1 x2).bind fun y5=>(xF u y4 y5).bind fun r6=>bif !r6 then (some false) else ((fun z0 z1 z2=>oQ u mf z0 z1 z2) p0 p1 (aX .i64 x2 1))) else (A5 u)
def yN (u:Nat) (p0 p1:List cd):Option Bool :=
  bif ((p0.length:Int)) != ((p1.length:Int)) then (some false) else (oQ u u p0 p1 0)
def KU (u:Nat) (p0 p1:List cd) (s:Unit):Option Bool:=(A5 u)
def C8 (u:Nat) (p0 p1:List cd) (y4:cd) (i_:Nat) (s:Unit) (k_:Unit→Option Bool):Option Bool:=(ci p1 (i_:Int)).bind fun y5=>(xF u y4 y5).bind fun r6=>bif !r6 then (some false) else ((fun z0 z1 z2=>k_ ()) p0 p1 (aX .i64 (i_:Int) 1))
theorem KV (u:Nat) (p0 p1:List cd) (s:Unit) (k:Nat) (hn:p0.length≤9223372036854775807) (hk:p0.length < k):oQ u k p0 p1 0=Pu.bt (KU u p0 p1) (C8 u p0 p1) p0 0 s:=Pu.bP (fun (k:Nat) (s:Unit) (i:Int)=>oQ u k p0 p1 i) hn (fun _ _ _=>rfl) s hk
def uZ (u:Nat) (p0 p1:aG):Option Bool :=
  (iK u p0.fA p1.fA).bind fun r1=>bif !r1 then (some false) else ((iK u p0.fB p1.fB).bind fun r2=>bif !r2 then (some false) else ((qn u p0.fR p1.fR).bind fun r3=>bif !r3 then (some false) else ((yN u p0.fP p1.fP).bind fun r4=>bif !r4 then (some false) else (some true))))
def zx (u:Nat)  : Option Bool :=
  some true
def nr (u kI:Nat) (p0 p1:List aG) (x2:Int):Option Bool:=match kI with
  | 0=>none
  | kI+1=>bif decide (x2 < ((p0.length:Int))) then ((ci p0 x2).bind fun y4=>(ci p1 x2).bind fun y5=>(uZ u y4 y5).bind fun r6=>bif !r6 then (some false) else ((fun z0 z1 z2=>nr u kI z0 z1 z2) p0 p1 (aX .i64 x2 1))) else (zx u)
def wt (u:Nat) (p0 p1:List aG):Option Bool :=
  bif ((p0.length:Int)) != ((p1.length:Int)) then (some false) else (nr u u p0 p1 0)
def IE (u:Nat) (p0 p1:List aG) (s:Unit):Option Bool:=(zx u)
def BX (u:Nat) (p0 p1:List aG) (y4:aG) (i_:Nat) (s:Unit) (k_:Unit→Option Bool):Option Bool:=(ci p1 (i_:Int)).bind fun y5=>(uZ u y4 y5).bind fun r6=>bif !r6 then (some false) else ((fun z0 z1 z2=>k_ ()) p0 p1 (aX .i64 (i_:Int) 1))
theorem IF (u:Nat) (p0 p1:List aG) (s:Unit) (k:Nat) (hn:p0.length≤9223372036854775807) (hk:p0.length < k):nr u k p0 p1 0=Pu.bt (IE u p0 p1) (BX u p0 p1) p0 0 s:=Pu.bP (fun (k:Nat) (s:Unit) (i:Int)=>nr u k p0 p1 i) hn (fun _ _ _=>rfl) s hk
def qo (u:Nat) (p0 p1:au):Option Bool :=
  bif p0.du != p1.du then (some false) else (bif p0.GU != p1.GU then (some false) else ((iK u p0.fB p1.fB).bind fun r1=>bif !r1 then (some false) else (some true)))
def wu (u:Nat)  : Option Bool :=
  some true
def kA (u iV:Nat) (p0 p1:List au) (x2:Int):Option Bool:=match iV with
  | 0=>none
  | iV+1=>bif decide (x2 < ((p0.length:Int))) then ((ci p0 x2).bind fun y4=>(ci p1 x2).bind fun y5=>(qo u y4 y5).bind fun r6=>bif !r6 then (some false) else ((fun z0 z1 z2=>kA u iV z0 z1 z2) p0 p1 (aX .i64 x2 1))) else (wu u)
def ro (u:Nat) (p0 p1:List au):Option Bool :=
  bif ((p0.length:Int)) != ((p1.length:Int)) then (some false) else (kA u u p0 p1 0)
def Gd (u:Nat) (p0 p1:List au) (s:Unit):Option Bool:=(wu u)
def zV (u:Nat) (p0 p1:List au) (y4:au) (i_:Nat) (s:Unit) (k_:Unit→Option Bool):Option Bool:=(ci p1 (i_:Int)).bind fun y5=>(qo u y4 y5).bind fun r6=>bif !r6 then (some false) else ((fun z0 z1 z2=>k_ ()) p0 p1 (aX .i64 (i_:Int) 1))
theorem Ge (u:Nat) (p0 p1:List au) (s:Unit) (k:Nat) (hn:p0.length≤9223372036854775807) (hk:p0.length < k):kA u k p0 p1 0=Pu.bt (Gd u p0 p1) (zV u p0 p1) p0 0 s:=Pu.bP (fun (k:Nat) (s:Unit) (i:Int)=>kA u k p0 p1 i) hn (fun _ _ _=>rfl) s hk
def u1 (u:Nat) (p0 p1:dC):Option Bool :=
  bif p0.du != p1.du then (some false) else (bif p0.GU != p1.GU then (some false) else (bif p0.fI != p1.fI then (some false) else (some true)))
def zy (u:Nat)  : Option Bool :=
  some true
def nt (u kK:Nat) (p0 p1:List dC) (x2:Int):Option Bool:=match kK with
  | 0=>none
  | kK+1=>bif decide (x2 < ((p0.length:Int))) then ((ci p0 x2).bind fun y4=>(ci p1 x2).bind fun y5=>(u1 u y4 y5).bind fun r6=>bif !r6 then (some false) else ((fun z0 z1 z2=>nt u kK z0 z1 z2) p0 p1 (aX .i64 x2 1))) else (zy u)
def wv (u:Nat) (p0 p1:List dC):Option Bool :=
  bif ((p0.length:Int)) != ((p1.length:Int)) then (some false) else (nt u u p0 p1 0)
def IG (u:Nat) (p0 p1:List dC) (s:Unit):Option Bool:=(zy u)
def BY (u:Nat) (p0 p1:List dC) (y4:dC) (i_:Nat) (s:Unit) (k_:Unit→Option Bool):Option Bool:=(ci p1 (i_:Int)).bind fun y5=>(u1 u y4 y5).bind fun r6=>bif !r6 then (some false) else ((fun z0 z1 z2=>k_ ()) p0 p1 (aX .i64 (i_:Int) 1))
theorem IH (u:Nat) (p0 p1:List dC) (s:Unit) (k:Nat) (hn:p0.length≤9223372036854775807) (hk:p0.length < k):nt u k p0 p1 0=Pu.bt (IG u p0 p1) (BY u p0 p1) p0 0 s:=Pu.bP (fun (k:Nat) (s:Unit) (i:Int)=>nt u k p0 p1 i) hn (fun _ _ _=>rfl) s hk
def ww (u:Nat) (p0 p1:World):Option Bool :=
  (yI u p0.fC p1.fC).bind fun r1=>bif !r1 then (some false) else ((yK u p0.fT p1.fT).bind fun r2=>bif !r2 then (some false) else ((iK u p0.jh p1.jh).bind fun r3=>bif !r3 then (some false) else ((tq u p0.fZ p1.fZ).bind fun r4=>bif !r4 then (some false) else ((ws u p0.fN p1.fN).bind fun r5=>bif !r5 then (some false) else ((wt u p0.fD p1.fD).bind fun r6=>bif !r6 then (some false) else ((ro u p0.eo p1.eo).bind fun r7=>bif !r7 then (some false) else ((wv u p0.pX p1.pX).bind fun r8=>bif !r8 then (some false) else (bif p0.qL != p1.qL then (some false) else (some true)))))))))
def jl (u:Nat) (p0:World) (p1:Int):Option Bool :=
  (vk u p0 1048576).bind fun r1=>bif decide (r1 < 0) then (some true) else ((po u p0).bind fun r2=>(q6 u r2 p1).bind fun r3=>(po u p0).bind fun r4=>(rn u r4 p1).bind fun r5=>bif !(r5 == r3) then (some false) else ((po u p0).bind fun r6=>(ww u r4 r6).bind fun r7=>bif !r7 then (some false) else (some true)))
end Go.Tm
