/- Go functions as pure functions. -/
import Derived.Test.YtdcoelkflgpfgaaGreatCFnWorldsF3
set_option maxRecDepth 100000
set_option maxHeartbeats 20000000
set_option linter.unusedVariables false
set_option linter.unusedSimpArgs false
open Int renaming toNat->sY
open List renaming replicate->zQG
open Nat renaming beq->zWg,le_refl->zWK
open Go.IntKind renaming wrap->ld
open Option renaming some->ac
open Option renaming none->cl
open Bool renaming true->gi
open Bool renaming false->go
namespace Go.Tm
abbrev B':=aJ .u8
abbrev C':=aJ .i64
abbrev A':=Option
noncomputable section
theorem u0:∃ u:Nat,1099511627776<=u:=⟨_,zWK _⟩
def u:Nat:=Classical.choose u0
abbrev UB:Prop:=1099511627776<=u
structure aL where
  fB:gs
  fI:Int
  fH:Int
  deriving DecidableEq
def bq(x:aL):Or:=[.sl 1 (x.fB.map B'),.int .i64 x.fI,.int .i64 x.fH]
def aL.wf(x:aL):Prop:=(Ve (mn .u8)) x.fB/\(mn .i64) x.fI/\(mn .i64) x.fH/\True
structure bD where
  bl:gs
  deriving DecidableEq
def jF(x:bD):Or:=[.sl 1 (x.bl.map C')]
def bD.wf(x:bD):Prop:=(Ve (mn .i64)) x.bl/\True
structure aX where
  fB:gs
  deriving DecidableEq
def b6(x:aX):Or:=[.sl 1 (x.fB.map B')]
def aX.wf(x:aX):Prop:=(Ve (mn .u8)) x.fB/\True
structure fq where
  au:Int
  aP:Int
  aK:Int
  aN:Int
  deriving DecidableEq
def k8(x:fq):Or:=[.int .i64 x.au,.int .i64 x.aP,.int .i64 x.aK,.int .i64 x.aN]
def fq.wf(x:fq):Prop:=(mn .i64) x.au/\(mn .i64) x.aP/\(mn .i64) x.aK/\(mn .i64) x.aN/\True
structure dR where
  fW:Int
  fS:Int
  deriving DecidableEq
def bR(x:dR):Or:=[.int .i64 x.fW,.int .i64 x.fS]
def dR.wf(x:dR):Prop:=(mn .i64) x.fW/\(mn .i64) x.fS/\True
structure af where
  aR:Int
  au:Int
  aT:Int
  aI:List dR
  deriving DecidableEq
def aE(x:af):Or:=[.int .i64 x.aR,.int .i64 x.au,.int .i64 x.aT,.sl 2 (x.aI.map bR)]
def af.wf(x:af):Prop:=(mn .i64) x.aR/\(mn .i64) x.au/\(mn .i64) x.aT/\(Ve dR.wf) x.aI/\True
structure aW where
  bc:Int
  bE:gs
  deriving DecidableEq
def d9(x:aW):Or:=[.int .i64 x.bc,.sl 1 (x.bE.map B')]
def aW.wf(x:aW):Prop:=(mn .i64) x.bc/\(Ve (mn .u8)) x.bE/\True
structure bV where
  jW:Int
  cW:Int
  cO:Int
  pg:Int
  kM:Int
  deriving DecidableEq
def bA(x:bV):Or:=[.int .i64 x.jW,.int .i64 x.cW,.int .i64 x.cO,.int .i64 x.pg,.int .i64 x.kM]
def bV.wf(x:bV):Prop:=(mn .i64) x.jW/\(mn .i64) x.cW/\(mn .i64) x.cO/\(mn .i64) x.pg/\(mn .i64) x.kM/\True
structure aD where
  fJ:Bool
  bG:Int
  bn:Int
  aH:af
  bi:aW
  aG:Int
  aZ:List bV
  be:Int
  deriving DecidableEq
def aF(x:aD):Or:=[.bool x.fJ,.int .i64 x.bG,.int .i64 x.bn,.int .i64 x.aH.aR,.int .i64 x.aH.au,.int .i64 x.aH.aT,.sl 2 (x.aH.aI.map bR),.int .i64 x.bi.bc,.sl 1 (x.bi.bE.map B'),.int .i64 x.aG,.sl 5 (x.aZ.map bA),.int .i64 x.be]
def aD.wf(x:aD):Prop:=(λ_=>True) x.fJ/\(mn .i64) x.bG/\(mn .i64) x.bn/\af.wf x.aH/\aW.wf x.bi/\(mn .i64) x.aG/\(Ve bV.wf) x.aZ/\(mn .i64) x.be/\True
structure ed where
  aR:Int
  bW:Int
  aT:Int
  deriving DecidableEq
def L7(x:ed):Or:=[.int .i64 x.aR,.int .i64 x.bW,.int .i64 x.aT]
def ed.wf(x:ed):Prop:=(mn .i64) x.aR/\(mn .i64) x.bW/\(mn .i64) x.aT/\True
structure dv where
  fm:Int
  HV:Int
  fB:gs
  fR:ed
  deriving DecidableEq
def br(x:dv):Or:=[.int .i64 x.fm,.int .i64 x.HV,.sl 1 (x.fB.map B'),.int .i64 x.fR.aR,.int .i64 x.fR.bW,.int .i64 x.fR.aT]
def dv.wf(x:dv):Prop:=(mn .i64) x.fm/\(mn .i64) x.HV/\(Ve (mn .u8)) x.fB/\ed.wf x.fR/\True
structure ar where
  fA:gs
  fB:gs
  fR:ed
  fP:List dv
  deriving DecidableEq
def aC(x:ar):Or:=[.sl 1 (x.fA.map B'),.sl 1 (x.fB.map B'),.int .i64 x.fR.aR,.int .i64 x.fR.bW,.int .i64 x.fR.aT,.sl 6 (x.fP.map br)]
def ar.wf(x:ar):Prop:=(Ve (mn .u8)) x.fA/\(Ve (mn .u8)) x.fB/\ed.wf x.fR/\(Ve dv.wf) x.fP/\True
structure ak where
  dy:Int
  s4:Int
  fB:gs
  deriving DecidableEq
def ay(x:ak):Or:=[.int .i64 x.dy,.int .i64 x.s4,.sl 1 (x.fB.map B')]
def ak.wf(x:ak):Prop:=(mn .i64) x.dy/\(mn .i64) x.s4/\(Ve (mn .u8)) x.fB/\True
structure eJ where
  dy:Int
  s4:Int
  fI:Int
  deriving DecidableEq
def dO(x:eJ):Or:=[.int .i64 x.dy,.int .i64 x.s4,.int .i64 x.fI]
def eJ.wf(x:eJ):Prop:=(mn .i64) x.dy/\(mn .i64) x.s4/\(mn .i64) x.fI/\True
structure World where
  fC:fq
  fT:bD
  bI:gs
  bt:List aX
  fN:List aD
  fD:List ar
  bj:List ak
  cY:List eJ
  bk:Int
  deriving DecidableEq
def a9(x:World):Or:=[.int .i64 x.fC.au,.int .i64 x.fC.aP,.int .i64 x.fC.aK,.int .i64 x.fC.aN,.sl 1 (x.fT.bl.map C'),.sl 1 (x.bI.map B'),.sl 1 (x.bt.map b6),.sl 12 (x.fN.map aF),.sl 6 (x.fD.map aC),.sl 3 (x.bj.map ay),.sl 3 (x.cY.map dO),.int .i64 x.bk]
def jA(t:T)(x:World):Or:=[.int .i64 x.fC.au,.int .i64 x.fC.aP,.int .i64 x.fC.aK,.int .i64 x.fC.aN,.sl 1 (x.fT.bl.map C'),.sl 1 (x.bI.map B'),t,.sl 12 (x.fN.map aF),.sl 6 (x.fD.map aC),.sl 3 (x.bj.map ay),.sl 3 (x.cY.map dO),.int .i64 x.bk]
def World.wf(x:World):Prop:=fq.wf x.fC/\bD.wf x.fT/\(Ve (mn .u8)) x.bI/\(Ve aX.wf) x.bt/\(Ve aD.wf) x.fN/\(Ve ar.wf) x.fD/\(Ve ak.wf) x.bj/\(Ve eJ.wf) x.cY/\(mn .i64) x.bk/\True
structure du where
  bH:Int
  fN:Int
  fS:Int
  fP:ak
  deriving DecidableEq
def eU(x:du):Or:=[.int .i64 x.bH,.int .i64 x.fN,.int .i64 x.fS,.int .i64 x.fP.dy,.int .i64 x.fP.s4,.sl 1 (x.fP.fB.map B')]
def du.wf(x:du):Prop:=(mn .i64) x.bH/\(mn .i64) x.fN/\(mn .i64) x.fS/\ak.wf x.fP/\True
structure jc where
  bH:Int
  aR:Int
  aH:af
  cW:Int
  cO:Int
  fI:Int
  fB:gs
  deriving DecidableEq
def pI(x:jc):Or:=[.int .i64 x.bH,.int .i64 x.aR,.int .i64 x.aH.aR,.int .i64 x.aH.au,.int .i64 x.aH.aT,.sl 2 (x.aH.aI.map bR),.int .i64 x.cW,.int .i64 x.cO,.int .i64 x.fI,.sl 1 (x.fB.map B')]
def jc.wf(x:jc):Prop:=(mn .i64) x.bH/\(mn .i64) x.aR/\af.wf x.aH/\(mn .i64) x.cW/\(mn .i64) x.cO/\(mn .i64) x.fI/\(Ve (mn .u8)) x.fB/\True
structure PY where
  fN:aD
  fD:ar
  m9:List ak
  deriving DecidableEq
def qfo(x:PY):Or:=[.bool x.fN.fJ,.int .i64 x.fN.bG,.int .i64 x.fN.bn,.int .i64 x.fN.aH.aR,.int .i64 x.fN.aH.au,.int .i64 x.fN.aH.aT,.sl 2 (x.fN.aH.aI.map bR),.int .i64 x.fN.bi.bc,.sl 1 (x.fN.bi.bE.map B'),.int .i64 x.fN.aG,.sl 5 (x.fN.aZ.map bA),.int .i64 x.fN.be,.sl 1 (x.fD.fA.map B'),.sl 1 (x.fD.fB.map B'),.int .i64 x.fD.fR.aR,.int .i64 x.fD.fR.bW,.int .i64 x.fD.fR.aT,.sl 6 (x.fD.fP.map br),.sl 3 (x.m9.map ay)]
def PY.wf(x:PY):Prop:=aD.wf x.fN/\ar.wf x.fD/\(Ve ak.wf) x.m9/\True
structure Act where
  fN:aD
  m9:List ak
  deriving DecidableEq
def KH(x:Act):Or:=[.bool x.fN.fJ,.int .i64 x.fN.bG,.int .i64 x.fN.bn,.int .i64 x.fN.aH.aR,.int .i64 x.fN.aH.au,.int .i64 x.fN.aH.aT,.sl 2 (x.fN.aH.aI.map bR),.int .i64 x.fN.bi.bc,.sl 1 (x.fN.bi.bE.map B'),.int .i64 x.fN.aG,.sl 5 (x.fN.aZ.map bA),.int .i64 x.fN.be,.sl 3 (x.m9.map ay)]
def Act.wf(x:Act):Prop:=aD.wf x.fN/\(Ve ak.wf) x.m9/\True
def Ny(a:gs):A' Bool:=
 ac (decide ((a.length:Int) > 1048576))
def B2(a:gs)(b:Int):A' aL:=
 ac (aL.mk a 0 b)
def xq(Ul:gs->Int->Int->A' aL)(a:gs)(b c:Int)(d:Bool):A' aL:=
 bif d then (cM a c).bind λe=>Ul a (iK .i64 (aS .i64 (aS .i64 (jD .i64 b 137) (ld .i64 e)) 11) 1073741823) (aS .i64 c 1) else B2 a b
def lK(pH:Nat)(b:gs)(c a:Int):A' aL:=match pH with
  | 0=>cl
  | pH+1=>bif decide (a < (b.length:Int)) then xq (lK pH) b c a (decide (a < 4000)) else xq (lK pH) b c a go
def uL(a:gs):A' aL:=
 lK u a (aS .i64 162416 (a.length:Int)) 0
def uM(b:Int)(a:aL)(c:Int):A' (Int×aL):=
 ac (b,(aL.mk a.fB c (aS .i64 (jD .i64 a.fH 6364136223846793005) 1442695040888963407)))
def nz(a:aL):A' (Int×aL):=
 bif decide (a.fI < (a.fB.length:Int)) then (cM a.fB a.fI).bind λb=>uM (iK .i64 (aS .i64 (iK .i64 (Zd .i64 (ng .i64 (aS .i64 (jD .i64 a.fH 6364136223846793005) 1442695040888963407) 33) (ng .i64 (aS .i64 (jD .i64 a.fH 6364136223846793005) 1442695040888963407) 47)) 255) (ld .i64 b)) 255) a (aS .i64 a.fI 1) else uM (iK .i64 (Zd .i64 (ng .i64 (aS .i64 (jD .i64 a.fH 6364136223846793005) 1442695040888963407) 33) (ng .i64 (aS .i64 (jD .i64 a.fH 6364136223846793005) 1442695040888963407) 47)) 255) a a.fI
def bd(b:aL)(a:Int):A' (Int×aL):=
 bif decide (a<=0) then ac (0,b) else bif decide (a<=256) then (nz b).bind λc=>(dW (!(a == 0))).bind λ_=>ac (rU .i64 c.1 a,c.2) else (nz b).bind λd=>(nz d.2).bind λe=>(nz e.2).bind λf=>(dW (!(a == 0))).bind λ_=>ac (rU .i64 (aS .i64 (aS .i64 (jD .i64 d.1 65536) (jD .i64 e.1 256)) f.1) a,f.2)
def ir(b:aL)(c:Int):A' (Bool×aL):=
 (bd b c).bind λa=>ac (a.1 == 0,a.2)
def yj(a b:gs)(c d:Int):A' (bD×aL):=
 ac ((bD.mk a),(aL.mk b c d))
def s5(PX:Int->gs->gs->Int->Int->A' (bD×aL))(f a:Int)(e b:gs)(c d:Int):A' (bD×aL):=
 (dW (decide ((e.length+([a]:gs).length)*8<=140737488355328))).bind λ_=>PX (aS .i64 f 1) (e++([a]:gs)) b c d
def iC(mW:Nat)(d:Int)(e g:gs)(i f:Int):A' (bD×aL):=match mW with
  | 0=>cl
  | mW+1=>(bd (aL.mk g i f) 7).bind λa=>bif decide (d < (aS .i64 1 a.1)) then (ir a.2 2).bind λb=>bif b.1 then (bd b.2 d).bind λc=>s5 (iC mW) d c.1 e c.2.fB c.2.fI c.2.fH else s5 (iC mW) d (ew .i64 d 1) e b.2.fB b.2.fI b.2.fH else yj e a.2.fB a.2.fI a.2.fH
def vP(a:aL):A' (bD×aL):=
 iC u 1 ([-1]:gs) a.fB a.fI a.fH
def fo(c:aL)(a:gs):A' (Int×aL):=
 (bd c (a.length:Int)).bind λb=>(cM a b.1).bind λd=>ac (d,b.2)
def yk(a b:gs)(c d:Int):A' (gs×aL):=
 ac (a,(aL.mk b c d))
def iD(uI:Nat)(d:gs)(e:Int)(f:gs)(b c:Int):A' (gs×aL):=match uI with
  | 0=>cl
  | uI+1=>bif decide (e > 0) then (fo (aL.mk f b c) ([97,98,99,0,255]:gs)).bind λa=>(dW (decide ((d.length+([ld .u8 a.1]:gs).length)*1<=140737488355328))).bind λ_=>iD uI (d++([ld .u8 a.1]:gs)) (ew .i64 e 1) a.2.fB a.2.fI a.2.fH else yk d f b c
def js(b:aL)(c:Int):A' (gs×aL):=
 (bd b (aS .i64 c 1)).bind λa=>iD u ([]:gs) a.1 a.2.fB a.2.fI a.2.fH
def pJ(b:aL):A' (gs×aL):=
 (js b 16).bind λa=>ac (a.1,a.2)
def c7(a b:gs)(c d:Int):A' (gs×aL):=
 ac (a,(aL.mk b c d))
def rX(k:aL)(a:gs):A' (gs×aL):=
 (dW (decide ((([]:gs).length+a.length)*1<=140737488355328))).bind λ_=>(bd k 6).bind λb=>bif b.1 == 0 then bif decide (((([]:gs)++a).length:Int) > 0) then (bd b.2 ((([]:gs)++a).length:Int)).bind λi=>(bd i.2 256).bind λg=>(cM (([]:gs)++a) i.1).bind λm=>c7 ((([]:gs)++a).set (sY i.1) (ld .u8 g.1)) g.2.fB g.2.fI g.2.fH else c7 (([]:gs)++a) b.2.fB b.2.fI b.2.fH else bif b.1 == 1 then (bd b.2 (aS .i64 ((([]:gs)++a).length:Int) 1)).bind λe=>(dW (cR 0 e.1 (([]:gs)++a).length)).bind λ_=>c7 (((([]:gs)++a).take (sY e.1)).drop (sY 0)) e.2.fB e.2.fI e.2.fH else bif b.1 == 2 then (fo b.2 ([0,1,128,255]:gs)).bind λf=>(dW (decide (((([]:gs)++a).length+([ld .u8 f.1]:gs).length)*1<=140737488355328))).bind λ_=>c7 ((([]:gs)++a)++([ld .u8 f.1]:gs)) f.2.fB f.2.fI f.2.fH else bif b.1 == 3 then bif decide (((([]:gs)++a).length:Int) > 0) then (bd b.2 ((([]:gs)++a).length:Int)).bind λd=>(cM (([]:gs)++a) d.1).bind λj=>(bd d.2 8).bind λc=>(dW (decide (0<=c.1))).bind λ_=>(cM (([]:gs)++a) d.1).bind λl=>c7 ((([]:gs)++a).set (sY d.1) (Zd .u8 j (mm .u8 1 c.1))) c.2.fB c.2.fI c.2.fH else c7 (([]:gs)++a) b.2.fB b.2.fI b.2.fH else c7 (([]:gs)++a) b.2.fB b.2.fI b.2.fH
def uN(g:aL)(a:gs):A' (gs×aL):=
 (bd g 5).bind λb=>bif b.1 == 0 then (js b.2 16).bind λf=>ac (f.1,f.2) else bif b.1 == 1 then (dW (decide ((([]:gs).length+a.length)*1<=140737488355328))).bind λ_=>ac (([]:gs)++a,b.2) else bif b.1 == 2 then (bd b.2 (aS .i64 (a.length:Int) 1)).bind λc=>(dW (cR c.1 (a.length:Int) a.length)).bind λ_=>(dW (decide ((([120]:gs).length+((a.take (sY (a.length:Int))).drop (sY c.1)).length)*1<=140737488355328))).bind λ_=>(dW (cR 0 c.1 a.length)).bind λ_=>(dW (decide (((([120]:gs)++((a.take (sY (a.length:Int))).drop (sY c.1))).length+((a.take (sY c.1)).drop (sY 0)).length)*1<=140737488355328))).bind λ_=>ac ((([120]:gs)++((a.take (sY (a.length:Int))).drop (sY c.1)))++((a.take (sY c.1)).drop (sY 0)),c.2) else bif b.1 == 3 then ac (([]:gs),b.2) else (js b.2 3).bind λe=>(rX e.2 a).bind λd=>(dW (decide ((e.1.length+d.1.length)*1<=140737488355328))).bind λ_=>ac (e.1++d.1,d.2)
def vQ(e:aL):A' (fq×aL):=
 (bd e 5).bind λa=>(fo a.2 ([1,2,3,8,40]:gs)).bind λb=>(bd b.2 3).bind λc=>(bd c.2 3).bind λd=>ac ((fq.mk (aS .i64 2 a.1) b.1 (aS .i64 1 c.1) (aS .i64 2 d.1)),d.2)
def bK(a b c:Int):A' Bool:=
 bif decide (a>=b) then ac (decide (a<=c)) else ac go
def zu(a:fq):A' Bool:=
 (bK a.au 2 6).bind λb=>bif b then (bK a.aP 1 40).bind λc=>bif c then (bK a.aK 1 5).bind λd=>bif d then (bK a.aN 2 8).bind λe=>ac e else ac go else ac go else ac go
def Er  : A' Bool:=
 ac gi
def lX(wY:Nat)(a:Int)(b:bD):A' Bool:=match wY with
  | 0=>cl
  | wY+1=>bif decide (a < (b.bl.length:Int)) then (cM b.bl a).bind λc=>(bK c 0 (ew .i64 a 1)).bind λd=>bif !d then ac go else lX wY (aS .i64 a 1) b else Er
def zR(a:Bool)(b:bD):A' Bool:=
 bif a then ac go else lX u 1 b
def pK(a:bD):A' Bool:=
 (bK (a.bl.length:Int) 1 7).bind λb=>bif !b then zR gi a else (cM a.bl 0).bind λc=>zR (c != (-1)) a
def GL(a:bD)(s:Unit):A' Bool:=Er
def Bp(e:bD)(a:Int)(b:Nat)(s:Unit)(c:Unit->A' Bool):A' Bool:=(bK a 0 (ew .i64 (b:Int) 1)).bind λd=>bif !d then ac go else c ()
theorem qei(a:bD)(s:Unit)(k:Nat)(hn:a.bl.length<=9223372036854775807)(hk:a.bl.length < k):lX k 0 a=Pu.bT (GL a) (Bp a) a.bl 0 s:=Pu.cn (λk s i=>lX k i a) hn (λ_ _ _=>rfl) s hk
def nA(a b:Int):A' Bool:=
 (bK a 2 6).bind λc=>bif c then (bK b 0 (jD .i64 a 40)).bind λd=>ac d else ac go
def CO(a:List aX)(b:Int):A' Bool:=
 ac ((a.length:Int) == b)
def pi(uH:Nat)(a:List aX)(c b:Int):A' Bool:=match uH with
  | 0=>cl
  | uH+1=>bif decide (b < (a.length:Int)) then (cM a b).bind λd=>bif decide ((d.fB.length:Int) > 240) then ac go else pi uH a c (aS .i64 b 1) else CO a c
def vR(a:List aX)(b:Int):A' Bool:=
 pi u a b 0
def Nz(a:List aX)(b:Int)(s:Unit):A' Bool:=CO a b
def Fu(c:List aX)(d:Int)(a:aX)(e:Nat)(s:Unit)(b:Unit->A' Bool):A' Bool:=bif decide ((a.fB.length:Int) > 240) then ac go else b ()
theorem NA(a:List aX)(b:Int)(s:Unit)(k:Nat)(hn:a.length<=9223372036854775807)(hk:a.length < k):pi k a b 0=Pu.bT (Nz a b) (Fu a b) a 0 s:=Pu.cn (λk s i=>pi k a b i) hn (λ_ _ _=>rfl) s hk
def pL(a:List aX):A' (List aX):=
 ac a
def gy(nm:Nat)(a b:List aX)(c:Int):A' (List aX):=match nm with
  | 0=>cl
  | nm+1=>bif decide (c < (a.length:Int)) then (cM a c).bind λd=>(dW (decide ((([]:gs).length+d.fB.length)*1<=140737488355328))).bind λ_=>(dW (decide ((b.length+([(aX.mk (([]:gs)++d.fB))]).length)*24<=140737488355328))).bind λ_=>gy nm a (b++([(aX.mk (([]:gs)++d.fB))])) (aS .i64 c 1) else pL b
def jd(a:List aX):A' (List aX):=
 gy u a ([]:List aX) 0
def K7(a:List aX)(s:List aX):A' (List aX):=pL s
def Dn(c:List aX)(a:aX)(d:Nat)(s:List aX)(b:List aX->A' (List aX)):A' (List aX):=(dW (decide ((([]:gs).length+a.fB.length)*1<=140737488355328))).bind λ_=>(dW (decide ((s.length+([(aX.mk (([]:gs)++a.fB))]).length)*24<=140737488355328))).bind λ_=>b (s++([(aX.mk (([]:gs)++a.fB))]))
theorem K8(a:List aX)(s:List aX)(k:Nat)(hn:a.length<=9223372036854775807)(hk:a.length < k):gy k a s 0=Pu.bT (K7 a) (Dn a) a 0 s:=Pu.cn (λk s i=>gy k a s i) hn (λ_ _ _=>rfl) s hk
def zS(a:Int):A' aD:=
 ac (aD.mk gi a 0 (af.mk 0 0 0 []) (aW.mk 0 []) 0 [] 0)
def vS(a:Int)(b:Bool)(c:bD):A' aD:=
 bif b then ac (aD.mk go 0 0 (af.mk 0 0 0 []) (aW.mk 0 []) 0 [] 0) else (cM c.bl a).bind λd=>(zS d).bind λe=>ac e
def qe(a:bD)(b:Int):A' aD:=
 (pK a).bind λc=>bif !c then vS b gi a else (bK b 1 (ew .i64 (a.bl.length:Int) 1)).bind λd=>vS b (!d) a
def yn(b a:Int)(c:Bool):A' Int:=
 bif c then ac 0 else (dW (!(a == 0))).bind λ_=>ac (Xf .i64 (ew .i64 (aS .i64 b a) 1) a)
def zT(a b:Int):A' Int:=
 (bK a 0 1000000000000).bind λc=>bif !c then yn a b gi else (bK b 1 1000000000000).bind λd=>yn a b (!d)
def pM(a b:Int):A' Int:=
 (nA a b).bind λc=>bif !c then ac 0 else (zT b a).bind λd=>ac d
def Bq(a b:Int):A' Int:=
 bif decide (b < a) then ac b else ac a
def iu(a c b:Int):A' (Int×Int):=
 (pM a c).bind λd=>(bK b 0 (ew .i64 d 1)).bind λe=>bif !e then ac (0,0) else (Bq a (ew .i64 c (jD .i64 b a))).bind λf=>ac (jD .i64 b a,f)
def np(b:gs)(c d:Int):A' (gs×Bool):=
 (iu c (b.length:Int) d).bind λa=>bif a.2 == 0 then ac (([]:gs),go) else (dW (cR a.1 (aS .i64 a.1 a.2) b.length)).bind λ_=>(dW (decide ((([]:gs).length+((b.take (sY (aS .i64 a.1 a.2))).drop (sY a.1)).length)*1<=140737488355328))).bind λ_=>ac (([]:gs)++((b.take (sY (aS .i64 a.1 a.2))).drop (sY a.1)),gi)
def uO(a b:Int):A' Int:=
 ac (aS .i64 a (jD .i64 251 b))
def qH(wZ:Nat)(b:gs)(c e d:Int):A' Int:=match wZ with
  | 0=>cl
  | wZ+1=>bif decide (d < (b.length:Int)) then (cM b d).bind λa=>qH wZ b (rU .i64 (aS .i64 c (ld .i64 a)) 251) (rU .i64 (aS .i64 e (rU .i64 (aS .i64 c (ld .i64 a)) 251)) 251) (aS .i64 d 1) else uO c e
def rY(a:gs):A' Int:=
 qH u a 0 0 0
def GM(a:gs)(s:Int×Int):A' Int:=uO s.1 s.2
def Br(c:gs)(a:Int)(d:Nat)(s:Int×Int)(b:(Int×Int)->A' Int):A' Int:=b (rU .i64 (aS .i64 s.1 (ld .i64 a)) 251,rU .i64 (aS .i64 s.2 (rU .i64 (aS .i64 s.1 (ld .i64 a)) 251)) 251)
theorem PZ(a:gs)(s:Int×Int)(k:Nat)(hn:a.length<=9223372036854775807)(hk:a.length < k):qH k a s.1 s.2 0=Pu.bT (GM a) (Br a) a 0 s:=Pu.cn (λk s i=>qH k a s.1 s.2 i) hn (λ_ _ _=>rfl) s hk
def xr(a:gs)(b:Int):A' dR:=
 (rY a).bind λc=>ac (dR.mk c b)
def tB(yZ:Nat)(a:gs)(c b:Int):A' dR:=match yZ with
  | 0=>cl
  | yZ+1=>bif decide (b < (a.length:Int)) then (cM a b).bind λd=>tB yZ a (aS .i64 (jD .i64 256 c) (ld .i64 d)) (aS .i64 b 1) else xr a c
def jB(a:gs):A' dR:=
 bif decide ((a.length:Int) > 6) then ac (dR.mk 0 0) else tB u a 1 0
def IE(a:gs)(s:Int):A' dR:=xr a s
def CP(c:gs)(a:Int)(d:Nat)(s:Int)(b:Int->A' dR):A' dR:=b (aS .i64 (jD .i64 256 s) (ld .i64 a))
theorem SH(a:gs)(s:Int)(k:Nat)(hn:a.length<=9223372036854775807)(hk:a.length < k):tB k a s 0=Pu.bT (IE a) (CP a) a 0 s:=Pu.cn (λ(k:Nat) (s i:Int)=>tB k a s i) hn (λ_ _ _=>rfl) s hk
def zU(a:List dR):A' (List dR):=
 ac a
def lY(rQ:Nat)(a:gs)(b:Int)(c:List dR)(d:Int):A' (List dR):=match rQ with
  | 0=>cl
  | rQ+1=>(pM b (a.length:Int)).bind λf=>bif decide (d < f) then (np a b d).bind λg=>(jB g.1).bind λe=>(dW (decide ((c.length+[e].length)*16<=140737488355328))).bind λ_=>lY rQ a b (c++[e]) (aS .i64 d 1) else zU c
def rZ(a:gs)(b:Int):A' (List dR):=
 lY u a b ([]:List dR) 0
def xt(c:Int)(a:gs)(b:Int)(d:Bool):A' af:=
 bif d then ac (af.mk 0 0 0 []) else (rZ a b).bind λe=>ac (af.mk c b (a.length:Int) e)
def uP(a:Int)(b:gs)(c:Int):A' af:=
 (bK a 1 1000000).bind λd=>bif !d then xt a b c gi else (nA c (b.length:Int)).bind λe=>xt a b c (!e)
def ki(a:World):A' af:=
 (uP 1 a.bI a.fC.au).bind λb=>ac b
def CQ(a:gs):A' (gs×Bool):=
 ac (a,gi)
def pj(uD:Nat)(a:Int)(b:gs):A' (gs×Bool):=match uD with
  | 0=>cl
  | uD+1=>bif decide (a > 1) then bif decide (a < 256) then ac (([]:gs),go) else (dW (decide ((([ld .u8 (iK .i64 a 255)]:gs).length+b.length)*1<=140737488355328))).bind λ_=>pj uD (ng .i64 a 8) (([ld .u8 (iK .i64 a 255)]:gs)++b) else CQ b
def sB(a:Int):A' (gs×Bool):=
 (bK a 1 562949953421311).bind λb=>bif !b then ac (([]:gs),go) else pj u a ([]:gs)
def Gl  : A' Bool:=
 ac gi
def nB(Uk:Int->af->A' Bool)(b:Int)(a:Bool)(c:af):A' Bool:=
 bif a then ac go else Uk (aS .i64 b 1) c
def lL(m8:Nat)(b:Int)(a:af):A' Bool:=match m8 with
  | 0=>cl
  | m8+1=>bif decide (b < (a.aI.length:Int)) then (cM a.aI b).bind λg=>(sB g.fS).bind λe=>(iu a.au a.aT b).bind λf=>bif !e.2 then nB (lL m8) b gi a else bif (e.1.length:Int) != f.2 then nB (lL m8) b gi a else (jB e.1).bind λc=>(cM a.aI b).bind λd=>nB (lL m8) b (!([c.fW,c.fS] == [d.fW,d.fS])) a else Gl
def xu(a:Bool)(b:af):A' Bool:=
 bif a then ac go else lL u 0 b
def kj(a:af):A' Bool:=
 bif a.aR == 0 then bif a.au == 0 then bif a.aT == 0 then ac ((a.aI.length:Int) == 0) else ac go else ac go else (bK a.aR 1 1000000).bind λb=>bif !b then xu gi a else (nA a.au a.aT).bind λc=>bif !c then xu gi a else (pM a.au a.aT).bind λd=>xu ((a.aI.length:Int) != d) a
def IF(a:af)(s:Unit):A' Bool:=Gl
def CR(a:af)(k:dR)(b:Nat)(s:Unit)(e:Unit->A' Bool):A' Bool:=(sB k.fS).bind λf=>(iu a.au a.aT (b:Int)).bind λg=>bif !f.2 then nB (λi j=>e ()) (b:Int) gi a else bif (f.1.length:Int) != g.2 then nB (λi j=>e ()) (b:Int) gi a else (jB f.1).bind λc=>(cM a.aI (b:Int)).bind λd=>nB (λi j=>e ()) (b:Int) (!([c.fW,c.fS] == [d.fW,d.fS])) a
theorem SI(a:af)(s:Unit)(k:Nat)(hn:a.aI.length<=9223372036854775807)(hk:a.aI.length < k):lL k 0 a=Pu.bT (IF a) (CR a) a.aI 0 s:=Pu.cn (λk s i=>lL k i a) hn (λ_ _ _=>rfl) s hk
def za  : A' Bool:=
 ac gi
def lm(qd:Nat)(b c:List dR)(a:Int):A' Bool:=match qd with
  | 0=>cl
  | qd+1=>bif decide (a < (b.length:Int)) then (cM b a).bind λd=>(cM c a).bind λe=>bif !([d.fW,d.fS] == [e.fW,e.fS]) then ac go else lm qd b c (aS .i64 a 1) else za
def pk(a b:List dR):A' Bool:=
 bif (a.length:Int) != (b.length:Int) then ac go else lm u a b 0
def Jp(a b:List dR)(s:Unit):A' Bool:=za
def Ck(f c:List dR)(a:dR)(d:Nat)(s:Unit)(e:Unit->A' Bool):A' Bool:=(cM c (d:Int)).bind λb=>bif !([a.fW,a.fS] == [b.fW,b.fS]) then ac go else e ()
theorem Jq(a b:List dR)(s:Unit)(k:Nat)(hn:a.length<=9223372036854775807)(hk:a.length < k):lm k a b 0=Pu.bT (Jp a b) (Ck a b) a 0 s:=Pu.cn (λk s i=>lm k a b i) hn (λ_ _ _=>rfl) s hk
def Bt(a:af)(b:gs):A' Bool:=
 bif (b.length:Int) == a.aT then (rZ b a.au).bind λc=>(pk c a.aI).bind λd=>ac d else ac go
def pN(a:af):A' af:=
 (dW (decide ((([]:List dR).length+a.aI.length)*16<=140737488355328))).bind λ_=>ac (af.mk a.aR a.au a.aT (([]:List dR)++a.aI))
def xv(a:af):A' aW:=
 (kj a).bind λb=>bif !b then ac (aW.mk 0 []) else (dW (decide (0<=a.aT) && (a.aT == 0 || a.aT == a.aT))).bind λ_=>(dW (decide (sY a.aT*1<=140737488355328))).bind λ_=>ac (aW.mk 0 (zQG (sY a.aT) (0:Int)))
def Ef(a:Int):A' Bool:=
 (bK a 0 63000).bind λb=>ac b
def s6(a:Int):A' (Int×Int):=
 (Ef a).bind λb=>bif !b then ac (0,0) else ac (rU .i64 a 251,Xf .i64 a 251)
def Bu(b a:Int):A' Int:=
 (bK a 1 1000000000000).bind λc=>bif !c then ac 0 else (dW (!(a == 0))).bind λ_=>(dW (!(a == 0))).bind λ_=>ac (rU .i64 (aS .i64 (rU .i64 b a) a) a)
def vT(a e:Int)(b f:Int)(g:Bool):A' Int:=
 bif g then ac a else (s6 a).bind λc=>(Bu (ew .i64 c.2 (jD .i64 (rU .i64 e 251) b)) 251).bind λi=>(Bu (aS .i64 (ew .i64 c.1 b) f) 251).bind λd=>(Bu (aS .i64 i d) 251).bind λj=>ac (aS .i64 d (jD .i64 251 j))
def Eg(a b:Int)(c d:Int):A' Int:=
 (Ef a).bind λe=>bif !e then vT a b c d gi else (bK b 1 1000000000000).bind λf=>bif !f then vT a b c d gi else (bK c 0 255).bind λg=>bif !g then vT a b c d gi else (bK d 0 255).bind λi=>vT a b c d (!i)
def yo(a:gs):A' gs:=
 ac a
def jt(uE:Nat)(c:gs)(d:Int)(e:gs)(i a:Int):A' gs:=match uE with
  | 0=>cl
  | uE+1=>bif decide (a < (c.length:Int)) then (cM c (ew .i64 a d)).bind λf=>(cM c a).bind λg=>(Eg i d (ld .i64 f) (ld .i64 g)).bind λb=>(dW (decide ((e.length+([b]:gs).length)*8<=140737488355328))).bind λ_=>jt uE c d (e++([b]:gs)) b (aS .i64 a 1) else yo e
def yp(b:gs)(a:Int)(d:Bool):A' gs:=
 bif d then ac ([]:gs) else (dW (cR 0 a b.length)).bind λ_=>(rY ((b.take (sY a)).drop (sY 0))).bind λc=>(dW (decide ((([]:gs).length+([c]:gs).length)*8<=140737488355328))).bind λ_=>jt u b a (([]:gs)++([c]:gs)) c a
def zV(b:gs)(a:Int):A' gs:=
 bif decide (a < 1) then yp b a gi else yp b a (decide (a > (b.length:Int)))
def NB(a:gs)(b:Int)(s:gs×Int):A' gs:=yo s.1
def NC(d:gs)(e:Int)(f:Nat)(s:gs×Int)(g:(gs×Int)->A' gs):A' gs:=(cM d (ew .i64 (f:Int) e)).bind λb=>(cM d (f:Int)).bind λc=>(Eg s.2 e (ld .i64 b) (ld .i64 c)).bind λa=>(dW (decide ((s.1.length+([a]:gs).length)*8<=140737488355328))).bind λ_=>g (s.1++([a]:gs),a)
theorem qdD(a:gs)(b:Int)(s:gs×Int)(k:Nat)(hn:((a.length:Int):Int)<=9223372036854775807)(hk:sY (a.length:Int) < k):jt k a b s.1 s.2 0=Pu.rr (NB a b) (NC a b) (sY (a.length:Int)) 0 s:=Pu.ue (λk s i=>jt k a b s.1 s.2 i) hn (λ_ _ _=>rfl) s hk
def yq  : A' Int:=
 ac (-1)
def pm(PS:gs->Int->gs->Int->dR->A' Int)(b:gs)(c:Int)(d:gs)(a:Int)(e:Bool)(f:dR):A' Int:=
 bif e then ac a else PS b c d (aS .i64 a 1) f
def gQ(mT:Nat)(c:gs)(d:Int)(e:gs)(a:Int)(b:dR):A' Int:=match mT with
  | 0=>cl
  | mT+1=>bif decide (a < (e.length:Int)) then (cM e a).bind λg=>bif g == b.fW then (dW (cR a (aS .i64 a d) c.length)).bind λ_=>(jB ((c.take (sY (aS .i64 a d))).drop (sY a))).bind λf=>pm (gQ mT) c d e a ([f.fW,f.fS] == [b.fW,b.fS]) b else pm (gQ mT) c d e a go b else yq
def zW(b:gs)(c:dR)(a:Int):A' Int:=
 (bK a 1 6).bind λd=>bif !d then ac (-1) else (zV b a).bind λe=>gQ u b a e 0 c
def ND(a:gs)(b:Int)(c:gs)(d:dR)(s:Unit):A' Int:=yq
def NE(c:gs)(d:Int)(e:gs)(b:dR)(i:Int)(a:Nat)(s:Unit)(f:Unit->A' Int):A' Int:=bif i == b.fW then (dW (cR (a:Int) (aS .i64 (a:Int) d) c.length)).bind λ_=>(jB ((c.take (sY (aS .i64 (a:Int) d))).drop (sY (a:Int)))).bind λg=>pm (λj k l m n=>f ()) c d e (a:Int) ([g.fW,g.fS] == [b.fW,b.fS]) b else pm (λj k l m n=>f ()) c d e (a:Int) go b
theorem qdE(b:gs)(c:Int)(a:gs)(d:dR)(s:Unit)(k:Nat)(hn:a.length<=9223372036854775807)(hk:a.length < k):gQ k b c a 0 d=Pu.bT (ND b c a d) (NE b c a d) a 0 s:=Pu.cn (λk s i=>gQ k b c a i d) hn (λ_ _ _=>rfl) s hk
def yr(a:gs)(b:Int)(c:Int×Int)(d:Bool)(e:af):A' Int:=
 bif d then ac (-1) else (cM e.aI b).bind λf=>(zW a f c.2).bind λg=>ac g
def vU(d:gs)(a:af)(b:Int):A' Int:=
 (iu a.au a.aT b).bind λc=>bif c.2 == 0 then yr d b c gi a else yr d b c (decide (b>=(a.aI.length:Int))) a
def dh(a:Int):A' Bool:=
 (bK a 0 1099511627775).bind λb=>ac b
def gH(b a:Int):A' Bool:=
 (dh b).bind λc=>bif c then (bK a 0 39).bind λd=>bif d then (dW (decide (0<=a))).bind λ_=>ac (iK .i64 (ng .i64 b a) 1 == 1) else ac go else ac go
def qI(a b:Int)(c:Bool):A' Int:=
 bif c then ac a else (dW (decide (0<=b))).bind λ_=>ac (DM .i64 a (mm .i64 1 b))
def ke(a b:Int):A' Int:=
 (dh a).bind λc=>bif !c then qI a b gi else (bK b 0 39).bind λd=>qI a b (!d)
def B3(c:Int)(d:aW)(a:gs):A' (Bool×aW):=
 (ke d.bc c).bind λb=>ac (gi,(aW.mk b a))
def tD(c:Nat)(g:Int)(d:gs)(e:Int×Int)(b:Int)(i:aW)(a:gs):A' (Bool×aW):=match c with
  | 0=>cl
  | c+1=>bif decide (b < (d.length:Int)) then (cM d b).bind λf=>(cM a (aS .i64 e.1 b)).bind λj=>tD c g d e (aS .i64 b 1) i (a.set (sY (aS .i64 e.1 b)) f) else B3 g i a
def tE(b:Int)(d:gs)(e:Bool)(c:af)(a:aW):A' (Bool×aW):=
 bif e then ac (go,a) else (iu c.au c.aT b).bind λf=>tD u b d f 0 a a.bE
def zb(b:af)(d:aW)(a:Int)(c:gs):A' (Bool×aW):=
 (bK a 0 (ew .i64 (b.aI.length:Int) 1)).bind λg=>bif !g then tE a c gi b d else (gH d.bc a).bind λi=>bif i then tE a c gi b d else (jB c).bind λe=>(cM b.aI a).bind λf=>bif !([e.fW,e.fS] == [f.fW,f.fS]) then tE a c gi b d else tE a c (decide ((c.length:Int) > 6)) b d
def CS(a:Int)(c:gs)(d:Int×Int)(b:aW)(s:gs):A' (Bool×aW):=B3 a b s
def CT(f:Int)(g:gs)(b:Int×Int)(i:aW)(a:Int)(c:Nat)(s:gs)(d:gs->A' (Bool×aW)):A' (Bool×aW):=(cM s (aS .i64 b.1 (c:Int))).bind λe=>d (s.set (sY (aS .i64 b.1 (c:Int))) a)
theorem SJ(b:Int)(a:gs)(c:Int×Int)(d:aW)(s:gs)(k:Nat)(hn:a.length<=9223372036854775807)(hk:a.length < k):tD k b a c 0 d s=Pu.bT (CS b a c d) (CT b a c d) a 0 s:=Pu.cn (λk s i=>tD k b a c i d s) hn (λ_ _ _=>rfl) s hk
def zX(a:Int)(b:gs):A' aW:=
 ac (aW.mk a b)
def my(Ly:gs->Int->af->Int->gs->A' aW)(c:gs)(d:Int)(e:af)(a:Int)(b:gs):A' aW:=
 Ly c (aS .i64 d 1) e a b
def iY(kQ:Nat)(d:gs)(c:Int)(b:af)(g:Int)(i:gs):A' aW:=match kQ with
  | 0=>cl
  | kQ+1=>bif decide (c < (b.aI.length:Int)) then (vU d b c).bind λa=>(iu b.au b.aT c).bind λe=>bif decide (a>=0) then (dW (cR a (aS .i64 a e.2) d.length)).bind λ_=>(zb b (aW.mk g i) c ((d.take (sY (aS .i64 a e.2))).drop (sY a))).bind λf=>my (iY kQ) d c b f.2.bc f.2.bE else my (iY kQ) d c b g i else zX g i
def lZ(a:af)(c:gs):A' aW:=
 (xv a).bind λb=>(kj a).bind λd=>bif !d then ac b else iY u c 0 a b.bc b.bE
def Do(a:gs)(b:af)(s:Int×gs):A' aW:=zX s.1 s.2
def w7(c:gs)(b:af)(d:Nat)(s:Int×gs)(j:(Int×gs)->A' aW):A' aW:=(vU c b (d:Int)).bind λa=>(iu b.au b.aT (d:Int)).bind λe=>bif decide (a>=0) then (dW (cR a (aS .i64 a e.2) c.length)).bind λ_=>(zb b (aW.mk s.1 s.2) (d:Int) ((c.take (sY (aS .i64 a e.2))).drop (sY a))).bind λf=>my (λk l m g i=>j (g,i)) c (d:Int) b f.2.bc f.2.bE else my (λk l m g i=>j (g,i)) c (d:Int) b s.1 s.2
theorem K9(b:gs)(a:af)(s:Int×gs)(k:Nat)(hn:((a.aI.length:Int):Int)<=9223372036854775807)(hk:sY (a.aI.length:Int) < k):iY k b 0 a s.1 s.2=Pu.rr (Do b a) (w7 b a) (sY (a.aI.length:Int)) 0 s:=Pu.ue (λk s i=>iY k b i a s.1 s.2) hn (λ_ _ _=>rfl) s hk
def qJ(b:gs)(c:Bool)(a:af):A' aD:=
 bif c then ac (aD.mk go 0 0 (af.mk 0 0 0 []) (aW.mk 0 []) 0 [] 0) else (pN a).bind λd=>(lZ a b).bind λe=>ac (aD.mk gi (-1) 0 d e 6 [] 0)
def tF(a:af)(b:gs):A' aD:=
 bif a.aR == 0 then qJ b gi a else (kj a).bind λc=>bif !c then qJ b gi a else (Bt a b).bind λd=>qJ b (!d) a
def ju(b:Int)(a:gs)(c:Bool):A' ar:=
 bif c then ac (ar.mk [] [] (ed.mk 0 0 0) []) else (dW (decide ((([]:gs).length+a.length)*1<=140737488355328))).bind λ_=>ac (ar.mk (([]:gs)++a) [] (ed.mk b 0 (a.length:Int)) [])
def ic(a:Int)(b:gs):A' ar:=
 (bK a 0 1000000).bind λc=>bif !c then ju a b gi else ju a b (decide ((b.length:Int) > 240))
def qK(c:fq)(d:bD)(e:gs)(f:List aX)(a:List aD)(b:List ar):A' World:=
 ac (World.mk c (bD.mk (([]:gs)++d.bl)) (([]:gs)++e) f a b [] [] 0)
def iM(Nw:gs->List aX->Int->fq->bD->List aX->List aD->List ar->A' World)(t:gs)(s:List aX)(a:Int)(v:fq)(w:bD)(x:List aX)(b:List aD)(c:List ar)(d:Bool)(e f:Int)(g i j:Int)(k:List dR)(l:Int)(m:gs)(n:Int)(o:List bV)(p:Int):A' World:=
 (dW (decide ((b.length+([(aD.mk d e f (af.mk g i j k) (aW.mk l m) n o p)]).length)*144<=140737488355328))).bind λ_=>(cM s a).bind λr=>(ic 0 r.fB).bind λq=>(dW (decide ((c.length+[q].length)*96<=140737488355328))).bind λ_=>Nw t s (aS .i64 a 1) v w x (b++([(aD.mk d e f (af.mk g i j k) (aW.mk l m) n o p)])) (c++[q])
def dG(lF:Nat)(g:gs)(l:List aX)(c:Int)(i:fq)(f:bD)(j:List aX)(d:List aD)(e:List ar):A' World:=match lF with
  | 0=>cl
  | lF+1=>bif decide (c < (f.bl.length:Int)) then (qe f c).bind λa=>bif c == 0 then (ki (World.mk i (bD.mk (([]:gs)++f.bl)) (([]:gs)++g) j d e [] [] 0)).bind λk=>(tF k g).bind λb=>iM (dG lF) g l c i f j d e b.fJ b.bG b.bn b.aH.aR b.aH.au b.aH.aT b.aH.aI b.bi.bc b.bi.bE b.aG b.aZ b.be else iM (dG lF) g l c i f j d e a.fJ a.bG a.bn a.aH.aR a.aH.au a.aH.aT a.aH.aI a.bi.bc a.bi.bE a.aG a.aZ a.be else qK i f g j d e
def jG(a:gs)(b:List aX)(d:Bool)(e:fq)(c:bD):A' World:=
 bif d then ac (World.mk (fq.mk 0 0 0 0) (bD.mk []) [] [] [] [] [] [] 0) else (dW (decide ((([]:gs).length+c.bl.length)*8<=140737488355328))).bind λ_=>(dW (decide ((([]:gs).length+a.length)*1<=140737488355328))).bind λ_=>(jd b).bind λf=>dG u a b 0 e c f [] []
def je(a:fq)(b:bD)(c:gs)(d:List aX):A' World:=
 (zu a).bind λe=>bif !e then jG c d gi a b else (pK b).bind λf=>bif !f then jG c d gi a b else (nA a.au (c.length:Int)).bind λg=>bif !g then jG c d gi a b else (vR d (b.bl.length:Int)).bind λi=>jG c d (!i) a b
def L8(a:gs)(e:List aX)(b:fq)(c:bD)(d:List aX)(s:(List aD)×(List ar)):A' World:=qK b c a d s.1 s.2
def L9(c:gs)(l:List aX)(f:fq)(d:bD)(g:List aX)(e:Nat)(s:(List aD)×(List ar))(m:((List aD)×(List ar))->A' World):A' World:=(qe d (e:Int)).bind λa=>bif (e:Int) == 0 then (ki (World.mk f (bD.mk (([]:gs)++d.bl)) (([]:gs)++c) g s.1 s.2 [] [] 0)).bind λi=>(tF i c).bind λb=>iM (λn o p q r t j k=>m (j,k)) c l (e:Int) f d g s.1 s.2 b.fJ b.bG b.bn b.aH.aR b.aH.au b.aH.aT b.aH.aI b.bi.bc b.bi.bE b.aG b.aZ b.be else iM (λn o p q r t j k=>m (j,k)) c l (e:Int) f d g s.1 s.2 a.fJ a.bG a.bn a.aH.aR a.aH.au a.aH.aT a.aH.aI a.bi.bc a.bi.bE a.aG a.aZ a.be
theorem qca(b:gs)(c:List aX)(d:fq)(a:bD)(e:List aX)(s:(List aD)×(List ar))(k:Nat)(hn:((a.bl.length:Int):Int)<=9223372036854775807)(hk:sY (a.bl.length:Int) < k):dG k b c 0 d a e s.1 s.2=Pu.rr (L8 b c d a e) (L9 b c d a e) (sY (a.bl.length:Int)) 0 s:=Pu.ue (λk s i=>dG k b c i d a e s.1 s.2) hn (λ_ _ _=>rfl) s hk
def zY(g:gs×aL)(b:List aX)(i:bD×aL)(c:gs)(d e:Int):A' (World×aL):=
 (vQ (aL.mk c d e)).bind λa=>(je a.1 i.1 g.1 b).bind λf=>ac (f,a.2)
def kl(w5:Nat)(e:gs×aL)(f:List aX)(i:Int)(g:bD×aL)(b:gs)(c d:Int):A' (World×aL):=match w5 with
  | 0=>cl
  | w5+1=>bif decide (i < (g.1.bl.length:Int)) then (uN (aL.mk b c d) e.1).bind λa=>(dW (decide ((f.length+([(aX.mk a.1)]).length)*24<=140737488355328))).bind λ_=>kl w5 e (f++([(aX.mk a.1)])) (aS .i64 i 1) g a.2.fB a.2.fI a.2.fH else zY e f g b c d
def zw(c:aL):A' (World×aL):=
 (vP c).bind λb=>(pJ b.2).bind λa=>kl u a ([]:List aX) 0 b a.2.fB a.2.fI a.2.fH
def P0(a:gs×aL)(b:bD×aL)(s:(List aX)×gs×Int×Int):A' (World×aL):=zY a s.1 b s.2.1 s.2.2.1 s.2.2.2
def P1(b:gs×aL)(d:bD×aL)(e:Nat)(s:(List aX)×gs×Int×Int)(c:((List aX)×gs×Int×Int)->A' (World×aL)):A' (World×aL):=(uN (aL.mk s.2.1 s.2.2.1 s.2.2.2) b.1).bind λa=>(dW (decide ((s.1.length+([(aX.mk a.1)]).length)*24<=140737488355328))).bind λ_=>c (s.1++([(aX.mk a.1)]),a.2.fB,a.2.fI,a.2.fH)
theorem qej(b:gs×aL)(a:bD×aL)(s:(List aX)×gs×Int×Int)(k:Nat)(hn:((a.1.bl.length:Int):Int)<=9223372036854775807)(hk:sY (a.1.bl.length:Int) < k):kl k b s.1 0 a s.2.1 s.2.2.1 s.2.2.2=Pu.rr (P0 b a) (P1 b a) (sY (a.1.bl.length:Int)) 0 s:=Pu.ue (λk s i=>kl k b s.1 i a s.2.1 s.2.2.1 s.2.2.2) hn (λ_ _ _=>rfl) s hk
def qL(e f:Int)(g a:Int)(b:gs)(c d:Int):A' (fq×aL):=
 ac ((fq.mk e f g a),(aL.mk b c d))
def zx(g:aL):A' (fq×aL):=
 (vQ g).bind λa=>(bd a.2 12).bind λb=>bif b.1 == 0 then (fo b.2 ([1,6,7]:gs)).bind λc=>qL c.1 a.1.aP a.1.aK a.1.aN c.2.fB c.2.fI c.2.fH else bif b.1 == 1 then (fo b.2 ([0,40,41]:gs)).bind λd=>qL a.1.au d.1 a.1.aK a.1.aN d.2.fB d.2.fI d.2.fH else bif b.1 == 2 then (fo b.2 ([0,5,6]:gs)).bind λe=>qL a.1.au a.1.aP e.1 a.1.aN e.2.fB e.2.fI e.2.fH else bif b.1 == 3 then (fo b.2 ([1,8,9]:gs)).bind λf=>qL a.1.au a.1.aP a.1.aK f.1 f.2.fB f.2.fI f.2.fH else qL a.1.au a.1.aP a.1.aK a.1.aN b.2.fB b.2.fI b.2.fH
def zZ(a b:gs)(c d:Int):A' (bD×aL):=
 ac ((bD.mk a),(aL.mk b c d))
def zy(e:aL):A' (bD×aL):=
 (vP e).bind λb=>(bd b.2 8).bind λa=>bif a.1 == 0 then (bd a.2 (b.1.bl.length:Int)).bind λd=>(fo d.2 ([-1,0,6,-2]:gs)).bind λc=>(cM b.1.bl d.1).bind λf=>zZ (b.1.bl.set (sY d.1) c.1) c.2.fB c.2.fI c.2.fH else bif a.1 == 1 then zZ ([]:gs) a.2.fB a.2.fI a.2.fH else zZ b.1.bl a.2.fB a.2.fI a.2.fH
def pO(c d:Int)(e f:Int)(a:gs)(b:World×aL):A' (fq×bD×gs×(List aX)):=
 ac ((fq.mk c d e f),(bD.mk a),b.1.bI,b.1.bt)
def l5(f g:Int)(i j:Int)(k:gs)(b c:Int)(d:World×aL):A' (fq×bD×gs×(List aX)):=
 (ir (aL.mk k b c) 6).bind λa=>bif a.1 then (zy a.2).bind λe=>pO f g i j e.1.bl d else pO f g i j d.1.fT.bl d
def pP(d:gs):A' (fq×bD×gs×(List aX)):=
 (uL d).bind λe=>(zw e).bind λa=>(ir a.2 4).bind λc=>bif c.1 then (zx c.2).bind λb=>l5 b.1.au b.1.aP b.1.aK b.1.aN b.2.fB b.2.fI b.2.fH a else l5 a.1.fC.au a.1.fC.aP a.1.fC.aK a.1.fC.aN c.2.fB c.2.fI c.2.fH a
def cy(a b c:Int):A' Bool:=
 bif decide (a>=b) then ac (decide (a<=c)) else ac go
def zA(a:fq):A' Bool:=
 (cy a.au 2 6).bind λb=>bif b then (cy a.aP 1 40).bind λc=>bif c then (cy a.aK 1 5).bind λd=>bif d then (cy a.aN 2 8).bind λe=>ac e else ac go else ac go else ac go
def Aa(a:bD):A' Bool:=
 (cy (a.bl.length:Int) 1 7).bind λb=>ac b
def gR(RQ:bD->Int->A' Bool)(a:bD)(b:Int)(c:Bool):A' Bool:=
 bif c then ac go else RQ a (aS .i64 b 1)
def iv(iR:Nat)(b:bD)(a:Int):A' Bool:=match iR with
  | 0=>cl
  | iR+1=>bif decide (a < (b.bl.length:Int)) then (cM b.bl a).bind λc=>bif a == 0 then bif c != (-1) then gR (iv iR) b a gi else bif decide (a > 0) then (cy c 0 (ew .i64 a 1)).bind λd=>gR (iv iR) b a (!d) else gR (iv iR) b a go else bif decide (a > 0) then (cy c 0 (ew .i64 a 1)).bind λe=>gR (iv iR) b a (!e) else gR (iv iR) b a go else Aa b
def se(a:bD):A' Bool:=
 iv u a 0
def GN(a:bD)(s:Unit):A' Bool:=Aa a
def GO(b:bD)(f:Int)(a:Nat)(s:Unit)(c:Unit->A' Bool):A' Bool:=bif (a:Int) == 0 then bif f != (-1) then gR (λd e=>c ()) b (a:Int) gi else bif decide ((a:Int) > 0) then (cy f 0 (ew .i64 (a:Int) 1)).bind λg=>gR (λd e=>c ()) b (a:Int) (!g) else gR (λd e=>c ()) b (a:Int) go else bif decide ((a:Int) > 0) then (cy f 0 (ew .i64 (a:Int) 1)).bind λi=>gR (λd e=>c ()) b (a:Int) (!i) else gR (λd e=>c ()) b (a:Int) go
theorem P2(a:bD)(s:Unit)(k:Nat)(hn:a.bl.length<=9223372036854775807)(hk:a.bl.length < k):iv k a 0=Pu.bT (GN a) (GO a) a.bl 0 s:=Pu.cn (λk s i=>iv k a i) hn (λ_ _ _=>rfl) s hk
def pQ(a b:Int):A' Bool:=
 (cy a 2 6).bind λc=>bif c then (cy b 0 (jD .i64 40 a)).bind λd=>ac d else ac go
def vV(a:aX):A' Bool:=
 ac (decide ((a.fB.length:Int) > 240))
def dI  : A' Int:=
 ac (-1)
def bN(cI:Nat)(b:List aX)(a:Int):A' Int:=match cI with
  | 0=>cl
  | cI+1=>bif decide (a < (b.length:Int)) then (cM b a).bind λc=>(vV c).bind λd=>bif d then ac a else bN cI b (aS .i64 a 1) else dI
def cZ(a:List aX):A' Int:=
 bN u a 0
def jZ(a:List aX)(s:Unit):A' Int:=dI
def j8(e:List aX)(a:aX)(b:Nat)(s:Unit)(c:Unit->A' Int):A' Int:=(vV a).bind λd=>bif d then ac (b:Int) else c ()
theorem j9(a:List aX)(s:Unit)(k:Nat)(hn:a.length<=9223372036854775807)(hk:a.length < k):bN k a 0=Pu.bT (jZ a) (j8 a) a 0 s:=Pu.cn (λk s i=>bN k a i) hn (λ_ _ _=>rfl) s hk
def cN(a:List aX):A' Bool:=
 (cZ a).bind λb=>ac (decide (b>=0))
def qM(b:bD)(a:List aX):A' Bool:=
 bif (a.length:Int) == (b.bl.length:Int) then (cN a).bind λc=>ac (!c) else ac go
def gz(a:bD)(b:Int):A' Bool:=
 (cy b 0 (ew .i64 (a.bl.length:Int) 1)).bind λc=>ac c
def Ab(a:Int):A' aD:=
 ac (aD.mk gi a 0 (af.mk 0 0 0 []) (aW.mk 0 []) 0 [] 0)
def qN(a:Int)(b:Bool)(c:bD):A' aD:=
 bif b then ac (aD.mk go 0 0 (af.mk 0 0 0 []) (aW.mk 0 []) 0 [] 0) else (cM c.bl a).bind λd=>(Ab d).bind λe=>ac e
def tG(a:bD)(b:Int):A' aD:=
 (se a).bind λc=>bif !c then qN b gi a else bif b == 0 then qN b gi a else (gz a b).bind λd=>qN b (!d) a
def yu(b a:Int)(c:Bool):A' Int:=
 bif c then ac 0 else (dW (!(a == 0))).bind λ_=>ac (Xf .i64 (ew .i64 (aS .i64 b a) 1) a)
def Ac(a b:Int):A' Int:=
 (cy a 0 1000000000000).bind λc=>bif !c then yu a b gi else (cy b 1 1000000000000).bind λd=>yu a b (!d)
def uQ(a b:Int):A' Int:=
 (pQ a b).bind λc=>bif !c then ac 0 else (Ac b a).bind λd=>ac d
def kU(a c b:Int):A' (Int×Int):=
 (uQ a c).bind λd=>(cy b 0 (ew .i64 d 1)).bind λe=>bif !e then ac (0,0) else ac (jD .i64 b a,if (ew .i64 c (jD .i64 b a)) < a then ew .i64 c (jD .i64 b a) else a)
def fZ(a:gs):A' gs:=
 (dW (decide (0<=(a.length:Int)) && (0 == 0 || 0 == (a.length:Int)))).bind λ_=>(dW (decide (sY (a.length:Int)*1<=140737488355328))).bind λ_=>(dW (decide (((zQG (sY 0) (0:Int)).length+a.length)*1<=140737488355328))).bind λ_=>ac ((zQG (sY 0) (0:Int))++a)
def B4(b:gs)(a c:Int)(d:Bool):A' (gs×Bool):=
 bif d then ac ([],go) else (dW (cR a (aS .i64 a c) b.length)).bind λ_=>(fZ ((b.take (sY (aS .i64 a c))).drop (sY a))).bind λe=>ac (e,gi)
def Es(a:gs)(b c:Int):A' (gs×Bool):=
 (cy b 0 (a.length:Int)).bind λd=>bif !d then B4 a b c gi else (cy c 0 (ew .i64 (a.length:Int) b)).bind λe=>B4 a b c (!e)
def vW(b:gs)(d e:Int):A' (gs×Bool):=
 (kU d (b.length:Int) e).bind λa=>bif a.2 == 0 then ac ([],go) else (Es b a.1 a.2).bind λc=>ac (c.1,c.2)
def Eh(b a:Int):A' Int:=
 (cy a 1 1000000000000).bind λc=>bif !c then ac 0 else (dW (!(a == 0))).bind λ_=>(dW (!(a == 0))).bind λ_=>ac (rU .i64 (aS .i64 (rU .i64 b a) a) a)
def GP(a b:Int):A' Int:=
 (Eh a 251).bind λc=>(Eh b 251).bind λd=>ac (aS .i64 c (jD .i64 251 d))
def uR(a b:Int):A' Int:=
 (GP a b).bind λc=>ac c
def qO(wU:Nat)(b e:Int)(c:gs)(d:Int):A' Int:=match wU with
  | 0=>cl
  | wU+1=>bif decide (d < (c.length:Int)) then (cM c d).bind λa=>qO wU (rU .i64 (aS .i64 b (ld .i64 a)) 251) (rU .i64 (aS .i64 e (rU .i64 (aS .i64 b (ld .i64 a)) 251)) 251) c (aS .i64 d 1) else uR b e
def uS(a:gs):A' Int:=
 qO u 0 0 a 0
def GQ(a:gs)(s:Int×Int):A' Int:=uR s.1 s.2
def Bv(c:gs)(a:Int)(d:Nat)(s:Int×Int)(b:(Int×Int)->A' Int):A' Int:=b (rU .i64 (aS .i64 s.1 (ld .i64 a)) 251,rU .i64 (aS .i64 s.2 (rU .i64 (aS .i64 s.1 (ld .i64 a)) 251)) 251)
theorem P3(a:gs)(s:Int×Int)(k:Nat)(hn:a.length<=9223372036854775807)(hk:a.length < k):qO k s.1 s.2 a 0=Pu.bT (GQ a) (Bv a) a 0 s:=Pu.cn (λk s i=>qO k s.1 s.2 a i) hn (λ_ _ _=>rfl) s hk
def xy(a:gs)(b:Int):A' dR:=
 (uS a).bind λc=>ac (dR.mk c b)
def tH(yX:Nat)(a:gs)(c b:Int):A' dR:=match yX with
  | 0=>cl
  | yX+1=>bif decide (b < (a.length:Int)) then (cM a b).bind λd=>tH yX a (DM .i64 (mm .i64 c 8) (ld .i64 d)) (aS .i64 b 1) else xy a c
def qf(a:gs):A' dR:=
 bif decide ((a.length:Int) > 6) then ac (dR.mk 0 0) else tH u a 1 0
def IG(a:gs)(s:Int):A' dR:=xy a s
def CU(c:gs)(a:Int)(d:Nat)(s:Int)(b:Int->A' dR):A' dR:=b (DM .i64 (mm .i64 s 8) (ld .i64 a))
theorem SK(a:gs)(s:Int)(k:Nat)(hn:a.length<=9223372036854775807)(hk:a.length < k):tH k a s 0=Pu.bT (IG a) (CU a) a 0 s:=Pu.cn (λ(k:Nat) (s i:Int)=>tH k a s i) hn (λ_ _ _=>rfl) s hk
def Et(a:List dR):A' (List dR):=
 ac a
def qP(wT:Nat)(c:gs)(d:Int)(a:List dR)(e b:Int):A' (List dR):=match wT with
  | 0=>cl
  | wT+1=>bif decide (b < e) then (vW c d b).bind λg=>(qf g.1).bind λf=>(dW (decide ((a.length+[f].length)*16<=140737488355328))).bind λ_=>qP wT c d (a++[f]) e (aS .i64 b 1) else Et a
def zB(a:gs)(b:Int):A' (List dR):=
 (uQ b (a.length:Int)).bind λc=>qP u a b ([]:List dR) c 0
def P4(a:gs)(b c:Int)(s:List dR):A' (List dR):=Et s
def GR(b:gs)(c g:Int)(d:Nat)(s:List dR)(e:List dR->A' (List dR)):A' (List dR):=(vW b c (d:Int)).bind λf=>(qf f.1).bind λa=>(dW (decide ((s.length+[a].length)*16<=140737488355328))).bind λ_=>e (s++[a])
theorem P5(b:gs)(c a:Int)(s:List dR)(k:Nat)(hn:(a:Int)<=9223372036854775807)(hk:sY a < k):qP k b c s a 0=Pu.rr (P4 b c a) (GR b c a) (sY a) 0 s:=Pu.ue (λk s i=>qP k b c s a i) hn (λ_ _ _=>rfl) s hk
def B5(c:Int)(a:gs)(b:Int)(d:Bool):A' af:=
 bif d then ac (af.mk 0 0 0 []) else (zB a b).bind λe=>ac (af.mk c b (a.length:Int) e)
def zd(a:Int)(b:gs)(c:Int):A' af:=
 (cy a 1 1000000).bind λd=>bif !d then B5 a b c gi else (pQ c (b.length:Int)).bind λe=>B5 a b c (!e)
def l7(a:af):A' Bool:=
 bif a.aR == 0 then bif a.au == 0 then bif a.aT == 0 then ac ((a.aI.length:Int) == 0) else ac go else ac go else ac go
def CW(a:gs):A' (gs×Bool):=
 ac (a,gi)
def po(uB:Nat)(d c:Int)(b:gs)(a:Int):A' (gs×Bool):=match uB with
  | 0=>cl
  | uB+1=>bif decide (a < ((zQG (sY c) (0:Int)).length:Int)) then (dW (decide (0<=(jD .i64 8 (ew .i64 (ew .i64 c 1) a))))).bind λ_=>(cM b a).bind λe=>po uB d c (b.set (sY a) (ld .u8 (ng .i64 d (jD .i64 8 (ew .i64 (ew .i64 c 1) a))))) (aS .i64 a 1) else CW b
def pp(b a:Int)(c:Bool):A' (gs×Bool):=
 bif c then ac ([],go) else (dW (decide (0<=a) && (a == 0 || a == a))).bind λ_=>(dW (decide (sY a*1<=140737488355328))).bind λ_=>po u b a (zQG (sY a) (0:Int)) 0
def s7(a b:Int):A' (gs×Bool):=
 bif decide (a < 1) then pp a b gi else (dW (decide (0<=(jD .i64 8 b)))).bind λ_=>pp a b (ng .i64 a (jD .i64 8 b) != 1)
def s8(PP:Int->Int->A' (gs×Bool))(a b:Int)(c:Bool):A' (gs×Bool):=
 bif c then PP a (aS .i64 b 1) else s7 a b
def jv(mQ:Nat)(b a:Int):A' (gs×Bool):=match mQ with
  | 0=>cl
  | mQ+1=>bif decide (a < 6) then (dW (decide (0<=(jD .i64 8 a)))).bind λ_=>s8 (jv mQ) b a (decide (ng .i64 b (jD .i64 8 a) > 1)) else s8 (jv mQ) b a go
def vX(a:Int):A' (gs×Bool):=
 jv u a 0
def NF(a b:Int)(s:gs):A' (gs×Bool):=CW s
def Fv(c b:Int)(a:Nat)(s:gs)(d:gs->A' (gs×Bool)):A' (gs×Bool):=(dW (decide (0<=(jD .i64 8 (ew .i64 (ew .i64 b 1) (a:Int)))))).bind λ_=>(cM s (a:Int)).bind λe=>d (s.set (sY (a:Int)) (ld .u8 (ng .i64 c (jD .i64 8 (ew .i64 (ew .i64 b 1) (a:Int))))))
theorem NG(b a:Int)(s:gs)(k:Nat)(hn:(((zQG (sY a) (0:Int)).length:Int):Int)<=9223372036854775807)(hk:sY ((zQG (sY a) (0:Int)).length:Int) < k):po k b a s 0=Pu.rr (NF b a) (Fv b a) (sY ((zQG (sY a) (0:Int)).length:Int)) 0 s:=Pu.ue (λk s i=>po k b a s i) hn (λ_ _ _=>rfl) s hk
def Gm  : A' Bool:=
 ac gi
def nC(Uj:af->Int->A' Bool)(b:af)(c:Int)(a:Bool):A' Bool:=
 bif a then ac go else Uj b (aS .i64 c 1)
def lM(m7:Nat)(a:af)(c:Int):A' Bool:=match m7 with
  | 0=>cl
  | m7+1=>bif decide (c < (a.aI.length:Int)) then (cM a.aI c).bind λf=>(vX f.fS).bind λb=>(kU a.au a.aT c).bind λd=>bif !b.2 then nC (lM m7) a c gi else bif (b.1.length:Int) != d.2 then nC (lM m7) a c gi else (uS b.1).bind λe=>nC (lM m7) a c (e != f.fW) else Gm
def xz(a:Bool)(b:af):A' Bool:=
 bif a then ac go else lM u b 0
def uT(a:af):A' Bool:=
 (l7 a).bind λb=>bif b then ac gi else (cy a.aR 1 1000000).bind λc=>bif !c then xz gi a else (pQ a.au a.aT).bind λd=>bif !d then xz gi a else (uQ a.au a.aT).bind λe=>xz ((a.aI.length:Int) != e) a
def IH(a:af)(s:Unit):A' Bool:=Gm
def CX(b:af)(g:dR)(c:Nat)(s:Unit)(d:Unit->A' Bool):A' Bool:=(vX g.fS).bind λa=>(kU b.au b.aT (c:Int)).bind λe=>bif !a.2 then nC (λi j=>d ()) b (c:Int) gi else bif (a.1.length:Int) != e.2 then nC (λi j=>d ()) b (c:Int) gi else (uS a.1).bind λf=>nC (λi j=>d ()) b (c:Int) (f != g.fW)
theorem SL(a:af)(s:Unit)(k:Nat)(hn:a.aI.length<=9223372036854775807)(hk:a.aI.length < k):lM k a 0=Pu.bT (IH a) (CX a) a.aI 0 s:=Pu.cn (λk s i=>lM k a i) hn (λ_ _ _=>rfl) s hk
def jf  : A' Bool:=
 ac gi
def dS(fU:Nat)(b c:List dR)(a:Int):A' Bool:=match fU with
  | 0=>cl
  | fU+1=>bif decide (a < (b.length:Int)) then (cM b a).bind λd=>(cM c a).bind λe=>bif !([d.fW,d.fS] == [e.fW,e.fS]) then ac go else dS fU b c (aS .i64 a 1) else jf
def ey(a b:List dR):A' Bool:=
 bif (a.length:Int) != (b.length:Int) then ac go else dS u a b 0
def vY(a b:List dR)(s:Unit):A' Bool:=jf
def mz(f c:List dR)(a:dR)(d:Nat)(s:Unit)(e:Unit->A' Bool):A' Bool:=(cM c (d:Int)).bind λb=>bif !([a.fW,a.fS] == [b.fW,b.fS]) then ac go else e ()
theorem vZ(a b:List dR)(s:Unit)(k:Nat)(hn:a.length<=9223372036854775807)(hk:a.length < k):dS k a b 0=Pu.bT (vY a b) (mz a b) a 0 s:=Pu.cn (λk s i=>dS k a b i) hn (λ_ _ _=>rfl) s hk
def Eu(a:af)(b:gs):A' Bool:=
 bif (b.length:Int) == a.aT then (zB b a.au).bind λc=>(ey c a.aI).bind λd=>ac d else ac go
def fv(a:List dR):A' (List dR):=
 (dW (decide ((([]:List dR).length+a.length)*16<=140737488355328))).bind λ_=>ac (([]:List dR)++a)
def pR(a:af):A' af:=
 (fv a.aI).bind λb=>ac (af.mk a.aR a.au a.aT b)
def xA(a:af):A' aW:=
 (uT a).bind λb=>bif !b then ac (aW.mk 0 []) else (dW (decide (0<=a.aT) && (a.aT == 0 || a.aT == a.aT))).bind λ_=>(dW (decide (sY a.aT*1<=140737488355328))).bind λ_=>ac (aW.mk 0 (zQG (sY a.aT) (0:Int)))
def CY  : A' Int:=
 ac (-1)
def mX(uC:Nat)(b:gs)(c a:Int)(d:dR):A' Int:=match uC with
  | 0=>cl
  | uC+1=>bif decide ((aS .i64 a c)<=(b.length:Int)) then (dW (cR a (aS .i64 a c) b.length)).bind λ_=>(qf ((b.take (sY (aS .i64 a c))).drop (sY a))).bind λe=>bif [e.fW,e.fS] == [d.fW,d.fS] then ac a else mX uC b c (aS .i64 a 1) d else CY
def Ad(b:gs)(c:dR)(a:Int):A' Int:=
 (cy a 1 6).bind λd=>bif !d then ac (-1) else mX u b a 0 c
def v5(c:gs)(a:af)(b:Int):A' Int:=
 (kU a.au a.aT b).bind λd=>(cy b 0 (ew .i64 (a.aI.length:Int) 1)).bind λe=>bif !e then ac (-1) else (cM a.aI b).bind λf=>(Ad c f d.2).bind λg=>ac g
def pS(c:aW)(b:af)(d:Int):A' (Int×Int):=
 (kU b.au b.aT d).bind λa=>(dW (cR a.1 (aS .i64 a.1 a.2) c.bE.length)).bind λ_=>ac (a.1,aS .i64 a.1 a.2)
def pq(a:aW)(e:af)(b:Int)(d:gs):A' aW:=
 (pS a e b).bind λc=>(dW (qcy c.1 c.2 a.bE.length d.length)).bind λ_=>(dW (decide (0<=b))).bind λ_=>ac (aW.mk (DM .i64 a.bc (mm .i64 1 b)) (xV a.bE d (sY c.1)))
def Ae(a:Int)(b:gs):A' aW:=
 ac (aW.mk a b)
def mA(Lx:gs->af->Int->Int->gs->A' aW)(c:gs)(d:af)(e a:Int)(b:gs):A' aW:=
 Lx c d (aS .i64 e 1) a b
def iZ(kP:Nat)(d:gs)(b:af)(c g:Int)(i:gs):A' aW:=match kP with
  | 0=>cl
  | kP+1=>bif decide (c < (b.aI.length:Int)) then (kU b.au b.aT c).bind λe=>(v5 d b c).bind λa=>bif decide (a>=0) then (dW (cR a (aS .i64 a e.2) d.length)).bind λ_=>(pq (aW.mk g i) b c ((d.take (sY (aS .i64 a e.2))).drop (sY a))).bind λf=>mA (iZ kP) d b c f.bc f.bE else mA (iZ kP) d b c g i else Ae g i
def uU(a:af)(c:gs):A' aW:=
 (xA a).bind λb=>(uT a).bind λd=>bif !d then ac b else iZ u c a 0 b.bc b.bE
def Dq(a:gs)(b:af)(s:Int×gs):A' aW:=Ae s.1 s.2
def w8(c:gs)(b:af)(d:Nat)(s:Int×gs)(j:(Int×gs)->A' aW):A' aW:=(kU b.au b.aT (d:Int)).bind λe=>(v5 c b (d:Int)).bind λa=>bif decide (a>=0) then (dW (cR a (aS .i64 a e.2) c.length)).bind λ_=>(pq (aW.mk s.1 s.2) b (d:Int) ((c.take (sY (aS .i64 a e.2))).drop (sY a))).bind λf=>mA (λk l m g i=>j (g,i)) c b (d:Int) f.bc f.bE else mA (λk l m g i=>j (g,i)) c b (d:Int) s.1 s.2
theorem La(b:gs)(a:af)(s:Int×gs)(k:Nat)(hn:((a.aI.length:Int):Int)<=9223372036854775807)(hk:sY (a.aI.length:Int) < k):iZ k b a 0 s.1 s.2=Pu.rr (Dq b a) (w8 b a) (sY (a.aI.length:Int)) 0 s:=Pu.ue (λk s i=>iZ k b a i s.1 s.2) hn (λ_ _ _=>rfl) s hk
def qQ(b:gs)(c:Bool)(a:af):A' aD:=
 bif c then ac (aD.mk go 0 0 (af.mk 0 0 0 []) (aW.mk 0 []) 0 [] 0) else (pR a).bind λd=>(uU a b).bind λe=>ac (aD.mk gi (-1) 0 d e 6 [] 0)
def tI(a:af)(b:gs):A' aD:=
 bif a.aR == 0 then qQ b gi a else (uT a).bind λc=>bif !c then qQ b gi a else (Eu a b).bind λd=>qQ b (!d) a
def Bw(a:Int):A' Bool:=
 (cy a 0 1000000).bind λb=>ac b
def s9(b:Int)(a:gs)(c:Bool):A' ar:=
 bif c then ac (ar.mk [] [] (ed.mk 0 0 0) []) else (fZ a).bind λd=>ac (ar.mk d [] (ed.mk b 0 (a.length:Int)) [])
def v6(a:Int)(b:gs):A' ar:=
 (Bw a).bind λc=>bif !c then s9 a b gi else s9 a b (decide ((b.length:Int) > 240))
def km(a:gs):A' gs:=
 (dW (decide ((([]:gs).length+a.length)*8<=140737488355328))).bind λ_=>ac (([]:gs)++a)
def pr(a:ak):A' ak:=
 (fZ a.fB).bind λb=>ac (ak.mk a.dy a.s4 b)
def w9(a:List ak):A' (List ak):=
 ac a
def kN(o4:Nat)(a b:List ak)(c:Int):A' (List ak):=match o4 with
  | 0=>cl
  | o4+1=>bif decide (c < (b.length:Int)) then (cM b c).bind λe=>(pr e).bind λd=>(dW (decide ((a.length+[d].length)*40<=140737488355328))).bind λ_=>kN o4 (a++[d]) b (aS .i64 c 1) else w9 a
def qR(a:List ak):A' (List ak):=
 kN u ([]:List ak) a 0
def Jd(a:List ak)(s:List ak):A' (List ak):=w9 s
def Bm(d:List ak)(b:ak)(e:Nat)(s:List ak)(c:List ak->A' (List ak)):A' (List ak):=(pr b).bind λa=>(dW (decide ((s.length+[a].length)*40<=140737488355328))).bind λ_=>c (s++[a])
theorem Je(a:List ak)(s:List ak)(k:Nat)(hn:a.length<=9223372036854775807)(hk:a.length < k):kN k s a 0=Pu.bT (Jd a) (Bm a) a 0 s:=Pu.cn (λk s i=>kN k s a i) hn (λ_ _ _=>rfl) s hk
def fe(a:List eJ):A' (List eJ):=
 (dW (decide ((([]:List eJ).length+a.length)*24<=140737488355328))).bind λ_=>ac (([]:List eJ)++a)
def uV(a:aW):A' aW:=
 (fZ a.bE).bind λb=>ac (aW.mk a.bc b)
def ez(a:List bV):A' (List bV):=
 (dW (decide ((([]:List bV).length+a.length)*40<=140737488355328))).bind λ_=>ac (([]:List bV)++a)
def tJ(a:aD):A' aD:=
 (pR a.aH).bind λb=>(uV a.bi).bind λc=>(ez a.aZ).bind λd=>ac (aD.mk a.fJ a.bG a.bn b c a.aG d a.be)
def sC(a:dv):A' dv:=
 (fZ a.fB).bind λb=>ac (dv.mk a.fm a.HV b a.fR)
def v7(b c:gs)(d:ar)(a:List dv):A' ar:=
 ac (ar.mk b c d.fR a)
def jH(oS:Nat)(b:ar)(c:Int)(e f:gs)(d:List dv):A' ar:=match oS with
  | 0=>cl
  | oS+1=>bif decide (c < (b.fP.length:Int)) then (cM b.fP c).bind λg=>(sC g).bind λa=>(dW (decide ((d.length+[a].length)*64<=140737488355328))).bind λ_=>jH oS b (aS .i64 c 1) e f (d++[a]) else v7 e f b d
def lN(a:ar):A' ar:=
 (fZ a.fA).bind λb=>(fZ a.fB).bind λc=>jH u a 0 b c []
def Ma(a:ar)(b c:gs)(s:List dv):A' ar:=v7 b c a s
def Ew(d:ar)(e f:gs)(b:dv)(g:Nat)(s:List dv)(c:List dv->A' ar):A' ar:=(sC b).bind λa=>(dW (decide ((s.length+[a].length)*64<=140737488355328))).bind λ_=>c (s++[a])
theorem Mb(a:ar)(b c:gs)(s:List dv)(k:Nat)(hn:a.fP.length<=9223372036854775807)(hk:a.fP.length < k):jH k a 0 b c s=Pu.bT (Ma a b c) (Ew a b c) a.fP 0 s:=Pu.cn (λk s i=>jH k a i b c s) hn (λ_ _ _=>rfl) s hk
def Af(d:World)(e:gs)(f:gs)(a:List aX)(b:List aD)(c:List ar)(g:List ak)(i:List eJ):A' World:=
 ac (World.mk d.fC (bD.mk e) f a b c g i d.bk)
def mB(qz:Nat)(f:World)(a:Int)(i:gs)(j:gs)(c:List aX)(d:List aD)(b:List ar)(k:List ak)(l:List eJ):A' World:=match qz with
  | 0=>cl
  | qz+1=>bif decide (a < (f.fD.length:Int)) then (cM f.fD a).bind λg=>(lN g).bind λe=>(dW (decide ((b.length+[e].length)*96<=140737488355328))).bind λ_=>mB qz f (aS .i64 a 1) i j c d (b++[e]) k l else Af f i j c d b k l
def uf(c:World)(d:gs)(e:gs)(a:List aX)(b:List aD)(f:List ak)(g:List eJ):A' World:=
 mB u c 0 d e a b [] f g
def mC(qA:Nat)(e:World)(a:Int)(g:gs)(i:gs)(c:List aX)(b:List aD)(j:List ak)(k:List eJ):A' World:=match qA with
  | 0=>cl
  | qA+1=>bif decide (a < (e.fN.length:Int)) then (cM e.fN a).bind λf=>(tJ f).bind λd=>(dW (decide ((b.length+[d].length)*144<=140737488355328))).bind λ_=>mC qA e (aS .i64 a 1) g i c (b++[d]) j k else uf e g i c b j k
def ug(b:World)(c:gs)(d:gs)(a:List aX)(e:List ak)(f:List eJ):A' World:=
 mC u b 0 c d a [] e f
def mD(qB:Nat)(b:World)(c:Int)(f:gs)(g:gs)(d:List aX)(i:List ak)(j:List eJ):A' World:=match qB with
  | 0=>cl
  | qB+1=>bif decide (c < (b.bt.length:Int)) then (cM b.bt c).bind λe=>(fZ e.fB).bind λa=>(dW (decide ((d.length+([(aX.mk a)]).length)*24<=140737488355328))).bind λ_=>mD qB b (aS .i64 c 1) f g (d++([(aX.mk a)])) i j else ug b f g d i j
def uW(a:World):A' World:=
 (km a.fT.bl).bind λb=>(fZ a.bI).bind λc=>(qR a.bj).bind λd=>(fe a.cY).bind λe=>mD u a 0 b c [] d e
def Lb(c:World)(d:gs)(e:gs)(a:List aX)(b:List aD)(f:List ak)(g:List eJ)(s:List ar):A' World:=Af c d e a b s f g
def Ds(f:World)(g:gs)(i:gs)(c:List aX)(d:List aD)(j:List ak)(k:List eJ)(b:ar)(l:Nat)(s:List ar)(e:List ar->A' World):A' World:=(lN b).bind λa=>(dW (decide ((s.length+[a].length)*96<=140737488355328))).bind λ_=>e (s++[a])
theorem Lc(c:World)(d:gs)(e:gs)(a:List aX)(b:List aD)(f:List ak)(g:List eJ)(s:List ar)(k:Nat)(hn:c.fD.length<=9223372036854775807)(hk:c.fD.length < k):mB k c 0 d e a b s f g=Pu.bT (Lb c d e a b f g) (Ds c d e a b f g) c.fD 0 s:=Pu.cn (λk s i=>mB k c i d e a b s f g) hn (λ_ _ _=>rfl) s hk
def Dt(b:World)(c:gs)(d:gs)(a:List aX)(e:List ak)(f:List eJ)(s:List aD):A' World:=uf b c d a s e f
def Du(e:World)(f:gs)(g:gs)(c:List aX)(i:List ak)(j:List eJ)(b:aD)(k:Nat)(s:List aD)(d:List aD->A' World):A' World:=(tJ b).bind λa=>(dW (decide ((s.length+[a].length)*144<=140737488355328))).bind λ_=>d (s++[a])
theorem Ld(b:World)(c:gs)(d:gs)(a:List aX)(e:List ak)(f:List eJ)(s:List aD)(k:Nat)(hn:b.fN.length<=9223372036854775807)(hk:b.fN.length < k):mC k b 0 c d a s e f=Pu.bT (Dt b c d a e f) (Du b c d a e f) b.fN 0 s:=Pu.cn (λk s i=>mC k b i c d a s e f) hn (λ_ _ _=>rfl) s hk
def Dv(a:World)(b:gs)(c:gs)(d:List ak)(e:List eJ)(s:List aX):A' World:=ug a b c s d e
def Dw(d:World)(e:gs)(f:gs)(g:List ak)(i:List eJ)(b:aX)(j:Nat)(s:List aX)(c:List aX->A' World):A' World:=(fZ b.fB).bind λa=>(dW (decide ((s.length+([(aX.mk a)]).length)*24<=140737488355328))).bind λ_=>c (s++([(aX.mk a)]))
theorem Lf(a:World)(b:gs)(c:gs)(d:List ak)(e:List eJ)(s:List aX)(k:Nat)(hn:a.bt.length<=9223372036854775807)(hk:a.bt.length < k):mD k a 0 b c s d e=Pu.bT (Dv a b c d e) (Dw a b c d e) a.bt 0 s:=Pu.cn (λk s i=>mD k a i b c s d e) hn (λ_ _ _=>rfl) s hk
def v8(d:fq)(e:bD)(f:gs)(g:List aX)(a:List aD)(b:List ar):A' World:=
 (uW (World.mk d e f g a b [] [] 0)).bind λc=>ac c
def lq(Nu:gs->List aX->bD->Int->fq->List aD->List ar->A' World)(t:gs)(r:List aX)(s:Int)(v:bD)(w:fq)(a:List aD)(b:List ar)(c:Bool)(d e:Int)(f g i:Int)(j:List dR)(k:Int)(l:gs)(m:Int)(n:List bV)(o:Int):A' World:=
 (dW (decide ((a.length+([(aD.mk c d e (af.mk f g i j) (aW.mk k l) m n o)]).length)*144<=140737488355328))).bind λ_=>(cM r s).bind λq=>(v6 0 q.fB).bind λp=>(dW (decide ((b.length+[p].length)*96<=140737488355328))).bind λ_=>Nu t r v (aS .i64 s 1) w (a++([(aD.mk c d e (af.mk f g i j) (aW.mk k l) m n o)])) (b++[p])
def ft(lD:Nat)(e:gs)(j:List aX)(f:bD)(g:Int)(i:fq)(c:List aD)(d:List ar):A' World:=match lD with
  | 0=>cl
  | lD+1=>bif decide (g < (f.bl.length:Int)) then (tG f g).bind λa=>bif g == 0 then (zd 1 e i.au).bind λk=>(tI k e).bind λb=>lq (ft lD) e j g f i c d b.fJ b.bG b.bn b.aH.aR b.aH.au b.aH.aT b.aH.aI b.bi.bc b.bi.bE b.aG b.aZ b.be else lq (ft lD) e j g f i c d a.fJ a.bG a.bn a.aH.aR a.aH.au a.aH.aT a.aH.aI a.bi.bc a.bi.bE a.aG a.aZ a.be else v8 i f e j c d
def lr(a:gs)(b:List aX)(c:Bool)(d:fq)(e:bD):A' World:=
 bif c then ac (World.mk (fq.mk 0 0 0 0) (bD.mk []) [] [] [] [] [] [] 0) else ft u a b e 0 d [] []
def nD(a:fq)(b:bD)(c:gs)(d:List aX):A' World:=
 (zA a).bind λe=>bif !e then lr c d gi a b else (se b).bind λf=>bif !f then lr c d gi a b else (pQ a.au (c.length:Int)).bind λg=>bif !g then lr c d gi a b else (qM b d).bind λi=>lr c d (!i) a b
def Mc(a:gs)(b:List aX)(c:bD)(d:fq)(s:(List aD)×(List ar)):A' World:=v8 d c a b s.1 s.2
def Md(c:gs)(k:List aX)(e:bD)(f:fq)(d:Nat)(s:(List aD)×(List ar))(l:((List aD)×(List ar))->A' World):A' World:=(tG e (d:Int)).bind λa=>bif (d:Int) == 0 then (zd 1 c f.au).bind λg=>(tI g c).bind λb=>lq (λm n o p q i j=>l (i,j)) c k (d:Int) e f s.1 s.2 b.fJ b.bG b.bn b.aH.aR b.aH.au b.aH.aT b.aH.aI b.bi.bc b.bi.bE b.aG b.aZ b.be else lq (λm n o p q i j=>l (i,j)) c k (d:Int) e f s.1 s.2 a.fJ a.bG a.bn a.aH.aR a.aH.au a.aH.aT a.aH.aI a.bi.bc a.bi.bE a.aG a.aZ a.be
theorem qcb(b:gs)(c:List aX)(a:bD)(d:fq)(s:(List aD)×(List ar))(k:Nat)(hn:((a.bl.length:Int):Int)<=9223372036854775807)(hk:sY (a.bl.length:Int) < k):ft k b c a 0 d s.1 s.2=Pu.rr (Mc b c a d) (Md b c a d) (sY (a.bl.length:Int)) 0 s:=Pu.ue (λk s i=>ft k b c a i d s.1 s.2) hn (λ_ _ _=>rfl) s hk
def sf(a:aW):A' aW:=
 (dW (decide ((([]:gs).length+a.bE.length)*1<=140737488355328))).bind λ_=>ac (aW.mk a.bc (([]:gs)++a.bE))
def ff(a:aD):A' aD:=
 (pN a.aH).bind λb=>(sf a.bi).bind λc=>(dW (decide ((([]:List bV).length+a.aZ.length)*40<=140737488355328))).bind λ_=>ac (aD.mk a.fJ a.bG a.bn b c a.aG (([]:List bV)++a.aZ) a.be)
def jh(a:dv):A' dv:=
 (dW (decide ((([]:gs).length+a.fB.length)*1<=140737488355328))).bind λ_=>ac (dv.mk a.fm a.HV (([]:gs)++a.fB) a.fR)
def Ag(a:ar)(b:List dv):A' ar:=
 ac (ar.mk (([]:gs)++a.fA) (([]:gs)++a.fB) a.fR b)
def l8(rT:Nat)(c:Int)(b:ar)(d:List dv):A' ar:=match rT with
  | 0=>cl
  | rT+1=>bif decide (c < (b.fP.length:Int)) then (cM b.fP c).bind λe=>(jh e).bind λa=>(dW (decide ((d.length+[a].length)*64<=140737488355328))).bind λ_=>l8 rT (aS .i64 c 1) b (d++[a]) else Ag b d
def f0(a:ar):A' ar:=
 (dW (decide ((([]:gs).length+a.fA.length)*1<=140737488355328))).bind λ_=>(dW (decide ((([]:gs).length+a.fB.length)*1<=140737488355328))).bind λ_=>l8 u 0 a ([]:List dv)
def P6(a:ar)(s:List dv):A' ar:=Ag a s
def GS(d:ar)(b:dv)(e:Nat)(s:List dv)(c:List dv->A' ar):A' ar:=(jh b).bind λa=>(dW (decide ((s.length+[a].length)*64<=140737488355328))).bind λ_=>c (s++[a])
theorem P7(a:ar)(s:List dv)(k:Nat)(hn:a.fP.length<=9223372036854775807)(hk:a.fP.length < k):l8 k 0 a s=Pu.bT (P6 a) (GS a) a.fP 0 s:=Pu.cn (λk s i=>l8 k i a s) hn (λ_ _ _=>rfl) s hk
def nq(a:List ak):A' (List ak):=
 ac a
def fw(jr:Nat)(a c:List ak)(b:Int):A' (List ak):=match jr with
  | 0=>cl
  | jr+1=>bif decide (b < (a.length:Int)) then (cM a b).bind λe=>(cM a b).bind λf=>(cM a b).bind λd=>(dW (decide ((([]:gs).length+d.fB.length)*1<=140737488355328))).bind λ_=>(dW (decide ((c.length+([(ak.mk e.dy f.s4 (([]:gs)++d.fB))]).length)*40<=140737488355328))).bind λ_=>fw jr a (c++([(ak.mk e.dy f.s4 (([]:gs)++d.fB))])) (aS .i64 b 1) else nq c
def iV(a:List ak):A' (List ak):=
 fw u a ([]:List ak) 0
def Gn(a:List ak)(s:List ak):A' (List ak):=nq s
def xB(b:List ak)(c:ak)(d:Nat)(s:List ak)(f:List ak->A' (List ak)):A' (List ak):=(cM b (d:Int)).bind λe=>(cM b (d:Int)).bind λa=>(dW (decide ((([]:gs).length+a.fB.length)*1<=140737488355328))).bind λ_=>(dW (decide ((s.length+([(ak.mk c.dy e.s4 (([]:gs)++a.fB))]).length)*40<=140737488355328))).bind λ_=>f (s++([(ak.mk c.dy e.s4 (([]:gs)++a.fB))]))
theorem Gp(a:List ak)(s:List ak)(k:Nat)(hn:a.length<=9223372036854775807)(hk:a.length < k):fw k a s 0=Pu.bT (Gn a) (xB a) a 0 s:=Pu.cn (λk s i=>fw k a s i) hn (λ_ _ _=>rfl) s hk
def ta(a:World)(e:List aX)(b:List aD)(c:List ar):A' World:=
 (iV a.bj).bind λd=>(dW (decide ((([]:List eJ).length+a.cY.length)*24<=140737488355328))).bind λ_=>ac (World.mk a.fC (bD.mk (([]:gs)++a.fT.bl)) (([]:gs)++a.bI) e b c d (([]:List eJ)++a.cY) a.bk)
def iE(qb:Nat)(a:Int)(e:World)(g:List aX)(c:List aD)(b:List ar):A' World:=match qb with
  | 0=>cl
  | qb+1=>bif decide (a < (e.fD.length:Int)) then (cM e.fD a).bind λf=>(f0 f).bind λd=>(dW (decide ((b.length+[d].length)*96<=140737488355328))).bind λ_=>iE qb (aS .i64 a 1) e g c (b++[d]) else ta e g c b
def tc(b:World)(c:List aX)(a:List aD):A' World:=
 iE u 0 b c a ([]:List ar)
def iF(qc:Nat)(c:Int)(b:World)(f:List aX)(d:List aD):A' World:=match qc with
  | 0=>cl
  | qc+1=>bif decide (c < (b.fN.length:Int)) then (cM b.fN c).bind λe=>(ff e).bind λa=>(dW (decide ((d.length+[a].length)*144<=140737488355328))).bind λ_=>iF qc (aS .i64 c 1) b f (d++[a]) else tc b f d
def sD(a:World):A' World:=
 (dW (decide ((([]:gs).length+a.fT.bl.length)*8<=140737488355328))).bind λ_=>(dW (decide ((([]:gs).length+a.bI.length)*1<=140737488355328))).bind λ_=>(jd a.bt).bind λb=>iF u 0 a b ([]:List aD)
def Fw(b:World)(c:List aX)(a:List aD)(s:List ar):A' World:=ta b c a s
def Fx(e:World)(f:List aX)(c:List aD)(b:ar)(g:Nat)(s:List ar)(d:List ar->A' World):A' World:=(f0 b).bind λa=>(dW (decide ((s.length+[a].length)*96<=140737488355328))).bind λ_=>d (s++[a])
theorem NH(b:World)(c:List aX)(a:List aD)(s:List ar)(k:Nat)(hn:b.fD.length<=9223372036854775807)(hk:b.fD.length < k):iE k 0 b c a s=Pu.bT (Fw b c a) (Fx b c a) b.fD 0 s:=Pu.cn (λk s i=>iE k i b c a s) hn (λ_ _ _=>rfl) s hk
def Fy(a:World)(b:List aX)(s:List aD):A' World:=tc a b s
def Fz(d:World)(e:List aX)(b:aD)(f:Nat)(s:List aD)(c:List aD->A' World):A' World:=(ff b).bind λa=>(dW (decide ((s.length+[a].length)*144<=140737488355328))).bind λ_=>c (s++[a])
theorem NI(a:World)(b:List aX)(s:List aD)(k:Nat)(hn:a.fN.length<=9223372036854775807)(hk:a.fN.length < k):iF k 0 a b s=Pu.bT (Fy a b) (Fz a b) a.fN 0 s:=Pu.cn (λk s i=>iF k i a b s) hn (λ_ _ _=>rfl) s hk
def sg(d:aL):A' (af×gs×aL):=
 (pJ d).bind λa=>(bd a.2 5).bind λb=>(bd b.2 5).bind λc=>(uP (aS .i64 1 b.1) a.1 (aS .i64 2 c.1)).bind λe=>ac (e,a.1,c.2)
def Ex(e:aL):A' (Int×aL):=
 (ir e 3).bind λa=>bif a.1 then (fo a.2 ([0,1,3,1099511627775,549755813888]:gs)).bind λc=>ac (c.1,c.2) else (bd a.2 65536).bind λd=>(bd d.2 20).bind λb=>(dW (decide (0<=b.1))).bind λ_=>ac (mm .i64 d.1 b.1,b.2)
def Ah(a b c:Int):A' jc:=
 ac (jc.mk 2 a (af.mk 0 0 0 []) b c 0 [])
def pT(b c:Int)(a:gs):A' jc:=
 (dW (decide ((([]:gs).length+a.length)*1<=140737488355328))).bind λ_=>ac (jc.mk 3 b (af.mk 0 0 0 []) 0 0 c (([]:gs)++a))
def Ai(l:aL):A' (jc×aL):=
 (bd l 4).bind λa=>bif a.1 == 0 then (sg a.2).bind λf=>ac ((jc.mk 1 0 f.1 0 0 0 []),f.2.2) else bif a.1 == 1 then (Ex a.2).bind λg=>(bd g.2 3).bind λi=>(bd i.2 64).bind λj=>(Ah i.1 g.1 j.1).bind λm=>ac (m,j.2) else bif a.1 == 2 then (js a.2 5).bind λd=>(dW (decide ((([112]:gs).length+d.1.length)*1<=140737488355328))).bind λ_=>(bd d.2 3).bind λk=>(bd k.2 9).bind λb=>(pT (aS .i64 1 k.1) b.1 (([112]:gs)++d.1)).bind λe=>ac (e,b.2) else (bd a.2 3).bind λc=>ac ((jc.mk 4 c.1 (af.mk 0 0 0 []) 0 0 0 []),c.2)
def nr(a b:af):A' Bool:=
 bif a.aR == b.aR then bif a.au == b.au then bif a.aT == b.aT then (pk a.aI b.aI).bind λc=>ac c else ac go else ac go else ac go
def tK(b d:Bool)(a:jc):A' Bool:=
 bif a.bH == 1 then bif a.aR == 0 then bif a.aH.aR != 0 then (kj a.aH).bind λe=>bif e then ac d else ac go else ac go else ac go else bif a.bH == 2 then (bK a.aR 0 1000000).bind λf=>bif f then bif b then (dh a.cW).bind λg=>bif g then (dh a.cO).bind λi=>bif i then bif a.fI == 0 then ac ((a.fB.length:Int) == 0) else ac go else ac go else ac go else ac go else ac go else bif a.bH == 3 then (bK a.aR 1 1000000).bind λj=>bif j then bif b then bif a.cW == 0 then bif a.cO == 0 then (bK a.fI 0 39).bind λk=>bif k then (bK (a.fB.length:Int) 1 6).bind λl=>ac l else ac go else ac go else ac go else ac go else ac go else bif a.bH == 4 then (bK a.aR 0 1000000).bind λc=>bif c then bif b then ac d else ac go else ac go else ac go
def Bx(a:jc):A' Bool:=
 (nr a.aH (af.mk 0 0 0 [])).bind λb=>bif a.cW == 0 then bif a.cO == 0 then bif a.fI == 0 then tK b ((a.fB.length:Int) == 0) a else tK b go a else tK b go a else tK b go a
def Aj(b:Int)(a:gs):A' gs:=
 (dW (decide ((a.length+([ld .u8 b]:gs).length)*1<=140737488355328))).bind λ_=>ac (a++([ld .u8 b]:gs))
def oh(wX:Nat)(a:Int)(b:gs):A' gs:=match wX with
  | 0=>cl
  | wX+1=>bif decide (a > 127) then (dW (decide ((b.length+([ld .u8 (DM .i64 (iK .i64 a 127) 128)]:gs).length)*1<=140737488355328))).bind λ_=>oh wX (ng .i64 a 7) (b++([ld .u8 (DM .i64 (iK .i64 a 127) 128)]:gs)) else Aj a b
def f5(a:gs)(b:Int):A' gs:=
 (dW (decide ((([]:gs).length+a.length)*1<=140737488355328))).bind λ_=>(bK b 0 1000000000000).bind λc=>bif !c then ac (([]:gs)++a) else oh u b (([]:gs)++a)
def v9(a:gs)(b:Int):A' gs:=
 (dW (decide ((a.length+([ld .u8 b]:gs).length)*1<=140737488355328))).bind λ_=>ac (a++([ld .u8 b]:gs))
def lu(s0:Nat)(b:gs)(a:Int):A' gs:=match s0 with
  | 0=>cl
  | s0+1=>bif decide (a > 127) then (dW (decide ((b.length+([ld .u8 (DM .i64 (iK .i64 a 127) 128)]:gs).length)*1<=140737488355328))).bind λ_=>lu s0 (b++([ld .u8 (DM .i64 (iK .i64 a 127) 128)]:gs)) (ng .i64 a 7) else v9 b a
def xC(a:gs)(b:Int):A' gs:=
 lu u a b
def Ey(a:gs):A' gs:=
 ac a
def qS(wW:Nat)(e:gs)(a:Int)(b:af):A' gs:=match wW with
  | 0=>cl
  | wW+1=>bif decide (a < (b.aI.length:Int)) then (cM b.aI a).bind λc=>(xC e c.fS).bind λd=>qS wW d (aS .i64 a 1) b else Ey e
def Cl(b:gs)(a:af):A' gs:=
 (dW (decide ((([]:gs).length+b.length)*1<=140737488355328))).bind λ_=>(kj a).bind λc=>bif !c then ac (([]:gs)++b) else (f5 (([]:gs)++b) a.aR).bind λd=>(f5 d a.au).bind λe=>(f5 e a.aT).bind λf=>qS u f 0 a
def GT(a:af)(s:gs):A' gs:=Ey s
def By(d:af)(a:dR)(e:Nat)(s:gs)(c:gs->A' gs):A' gs:=(xC s a.fS).bind λb=>c b
theorem P8(a:af)(s:gs)(k:Nat)(hn:a.aI.length<=9223372036854775807)(hk:a.aI.length < k):qS k s 0 a=Pu.bT (GT a) (By a) a.aI 0 s:=Pu.cn (λk s i=>qS k s i a) hn (λ_ _ _=>rfl) s hk
def Ak(a:Int):A' (Int×Int):=
 ac (iK .i64 a 1048575,ng .i64 a 20)
def DT(c a:gs):A' gs:=
 (f5 c (a.length:Int)).bind λb=>(dW (decide ((b.length+a.length)*1<=140737488355328))).bind λ_=>ac (b++a)
def l9(a:gs):A' gs:=
 (rY a).bind λb=>(f5 a b).bind λc=>ac c
def si(a:jc):A' gs:=
 (Bx a).bind λk=>bif !k then ac ([]:gs) else (f5 ([]:gs) a.bH).bind λb=>bif a.bH == 1 then (Cl b a.aH).bind λl=>l9 l else bif a.bH == 2 then (Ak a.cW).bind λi=>(f5 b a.aR).bind λm=>(f5 m i.1).bind λn=>(f5 n i.2).bind λo=>(Ak a.cO).bind λj=>(f5 o j.1).bind λp=>(f5 p j.2).bind λc=>l9 c else bif a.bH == 3 then (f5 b a.aR).bind λd=>(f5 d a.fI).bind λe=>(DT e a.fB).bind λf=>l9 f else (f5 b a.aR).bind λg=>l9 g
def Al  : A' (Int×Int×Bool):=
 ac (0,0,go)
def uX(rN:gs->Int->Int->Int->A' (Int×Int×Bool))(f:gs)(c d:Int)(e b:Int)(a:Bool):A' (Int×Int×Bool):=
 bif a then ac (0,0,go) else ac (DM .i64 d (mm .i64 (iK .i64 (ld .i64 e) 127) (jD .i64 7 b)),aS .i64 (aS .i64 c b) 1,gi)
def oj(rN:gs->Int->Int->Int->A' (Int×Int×Bool))(d:gs)(e c a:Int)(f:Bool):A' (Int×Int×Bool):=
 bif f then ac (0,0,go) else (cM d (aS .i64 e a)).bind λb=>(dW (decide (0<=(jD .i64 7 a)))).bind λ_=>bif decide (ld .i64 b < 128) then bif (ld .i64 b) == 0 then bif decide (a > 0) then uX rN d e c b a gi else uX rN d e c b a (decide (DM .i64 c (mm .i64 (iK .i64 (ld .i64 b) 127) (jD .i64 7 a)) > 1000000000000)) else uX rN d e c b a (decide (DM .i64 c (mm .i64 (iK .i64 (ld .i64 b) 127) (jD .i64 7 a)) > 1000000000000)) else rN d e (DM .i64 c (mm .i64 (iK .i64 (ld .i64 b) 127) (jD .i64 7 a))) (aS .i64 a 1)
def fy(lE:Nat)(c:gs)(a d b:Int):A' (Int×Int×Bool):=match lE with
  | 0=>cl
  | lE+1=>bif decide (b < 6) then bif decide (a < 0) then oj (fy lE) c a d b gi else oj (fy lE) c a d b (decide (a>=(ew .i64 (c.length:Int) b))) else Al
def i4(a:gs)(b:Int):A' (Int×Int×Bool):=
 fy u a b 0 0
def P9(a:gs)(b s:Int):A' (Int×Int×Bool):=Al
def Qa(b:gs)(a:Int)(c:Nat)(s:Int)(e:Int->A' (Int×Int×Bool)):A' (Int×Int×Bool):=bif decide (a < 0) then oj (λf g d i=>e d) b a s (c:Int) gi else oj (λf g d i=>e d) b a s (c:Int) (decide (a>=(ew .i64 (b.length:Int) (c:Int))))
theorem qek(a:gs)(b s:Int)(k:Nat)(hn:(6:Int)<=9223372036854775807)(hk:sY 6 < k):fy k a b s 0=Pu.rr (P9 a b) (Qa a b) (sY 6) 0 s:=Pu.ue (λ(k:Nat) (s i:Int)=>fy k a b s i) hn (λ_ _ _=>rfl) s hk
def wa  : A' (Int×Int×Bool):=
 ac (0,0,go)
def iN(sZ:Nat)(d:gs)(b e a:Int):A' (Int×Int×Bool):=match sZ with
  | 0=>cl
  | sZ+1=>bif decide (a < 8) then bif decide (b>=(ew .i64 (d.length:Int) a)) then ac (0,0,go) else (cM d (aS .i64 b a)).bind λc=>(dW (decide (0<=(jD .i64 7 a)))).bind λ_=>bif decide (ld .i64 c < 128) then bif decide (ld .i64 c > 0) then ac (DM .i64 e (mm .i64 (iK .i64 (ld .i64 c) 127) (jD .i64 7 a)),aS .i64 (aS .i64 b a) 1,gi) else ac (DM .i64 e (mm .i64 (iK .i64 (ld .i64 c) 127) (jD .i64 7 a)),aS .i64 (aS .i64 b a) 1,a == 0) else iN sZ d b (DM .i64 e (mm .i64 (iK .i64 (ld .i64 c) 127) (jD .i64 7 a))) (aS .i64 a 1) else wa
def xD(a:gs)(b:Int):A' (Int×Int×Bool):=
 iN u a b 0 0
def Me(a:gs)(b s:Int):A' (Int×Int×Bool):=wa
def Mf(d:gs)(c:Int)(a:Nat)(s:Int)(e:Int->A' (Int×Int×Bool)):A' (Int×Int×Bool):=bif decide (c>=(ew .i64 (d.length:Int) (a:Int))) then ac (0,0,go) else (cM d (aS .i64 c (a:Int))).bind λb=>(dW (decide (0<=(jD .i64 7 (a:Int))))).bind λ_=>bif decide (ld .i64 b < 128) then bif decide (ld .i64 b > 0) then ac (DM .i64 s (mm .i64 (iK .i64 (ld .i64 b) 127) (jD .i64 7 (a:Int))),aS .i64 (aS .i64 c (a:Int)) 1,gi) else ac (DM .i64 s (mm .i64 (iK .i64 (ld .i64 b) 127) (jD .i64 7 (a:Int))),aS .i64 (aS .i64 c (a:Int)) 1,(a:Int) == 0) else e (DM .i64 s (mm .i64 (iK .i64 (ld .i64 b) 127) (jD .i64 7 (a:Int))))
theorem qcc(a:gs)(b s:Int)(k:Nat)(hn:(8:Int)<=9223372036854775807)(hk:sY 8 < k):iN k a b s 0=Pu.rr (Me a b) (Mf a b) (sY 8) 0 s:=Pu.ue (λ(k:Nat) (s i:Int)=>iN k a b s i) hn (λ_ _ _=>rfl) s hk
def om(b:Int)(d e f:Int×Int×Bool)(a:List dR):A' (af×Int×Bool):=
 (kj (af.mk d.1 e.1 f.1 a)).bind λc=>bif !c then ac ((af.mk 0 0 0 []),0,go) else ac ((af.mk d.1 e.1 f.1 a),b,gi)
def kt(RU:gs->(Int×Int×Bool)->(Int×Int×Bool)->(Int×Int×Bool)->Int->Int->List dR->A' (af×Int×Bool))(f:gs)(g i j:Int×Int×Bool)(k l:Int)(d:Bool)(b:List dR):A' (af×Int×Bool):=
 bif d then (xD f k).bind λa=>bif !a.2.2 then ac ((af.mk 0 0 0 []),0,go) else (sB a.1).bind λe=>(jB e.1).bind λc=>(dW (decide ((b.length+([(dR.mk c.fW a.1)]).length)*16<=140737488355328))).bind λ_=>RU f g i j a.2.1 (aS .i64 l 1) (b++([(dR.mk c.fW a.1)])) else om k g i j b
def er(jQ:Nat)(g:gs)(b c d:Int×Int×Bool)(i e:Int)(a:List dR):A' (af×Int×Bool):=match jQ with
  | 0=>cl
  | jQ+1=>(pM c.1 d.1).bind λf=>bif decide (e < f) then kt (er jQ) g b c d i e (decide (b.1 > 0)) a else kt (er jQ) g b c d i e go a
def qT(b:gs)(c d a:Int×Int×Bool)(e:Bool):A' (af×Int×Bool):=
 bif e then ac ((af.mk 0 0 0 []),0,go) else er u b c d a a.2.1 0 []
def uY(a:gs)(e:Int):A' (af×Int×Bool):=
 (i4 a e).bind λb=>(i4 a b.2.1).bind λc=>(i4 a c.2.1).bind λd=>bif !b.2.2 then qT a b c d gi else bif !c.2.2 then qT a b c d gi else qT a b c d (!d.2.2)
def pt(b:gs)(a:Int×Int×Bool)(c:Bool):A' (gs×Int×Bool):=
 bif c then ac (([]:gs),0,go) else (dW (cR a.2.1 (aS .i64 a.2.1 a.1) b.length)).bind λ_=>(dW (decide ((([]:gs).length+((b.take (sY (aS .i64 a.2.1 a.1))).drop (sY a.2.1)).length)*1<=140737488355328))).bind λ_=>ac (([]:gs)++((b.take (sY (aS .i64 a.2.1 a.1))).drop (sY a.2.1)),aS .i64 a.2.1 a.1,gi)
def sE(b:gs)(c d:Int):A' (gs×Int×Bool):=
 (i4 b c).bind λa=>bif !a.2.2 then pt b a gi else bif decide (a.1 > d) then pt b a gi else pt b a (decide (a.1 > (ew .i64 (b.length:Int) a.2.1)))
def td(a d:Int)(e:Int×Int×Bool)(b c:Int):A' (jc×Int×Bool):=
 ac ((jc.mk d e.1 (af.mk 0 0 0 []) b c 0 []),a,gi)
def te(b:Int)(a:gs)(g:Int)(i:Int×Int×Bool):A' (jc×Int×Bool):=
 (cM a 0).bind λc=>(cM a 1).bind λd=>(cM a 2).bind λe=>(cM a 3).bind λf=>td b g i (aS .i64 c (mm .i64 d 20)) (aS .i64 e (mm .i64 f 20))
def mY(PW:gs->Int->gs->Int->Int->(Int×Int×Bool)->A' (jc×Int×Bool))(f:gs)(i:Int)(c:gs)(g:Int)(a:Int×Int×Bool)(b:Bool)(d:Int)(e:Int×Int×Bool):A' (jc×Int×Bool):=
 bif b then ac ((jc.mk d e.1 (af.mk 0 0 0 []) 0 0 0 []),0,go) else (dW (decide ((c.length+([a.1]:gs).length)*8<=140737488355328))).bind λ_=>PW f a.2.1 (c++([a.1]:gs)) (aS .i64 g 1) d e
def dp(i8:Nat)(c:gs)(b:Int)(d:gs)(e f:Int)(g:Int×Int×Bool):A' (jc×Int×Bool):=match i8 with
  | 0=>cl
  | i8+1=>bif decide (e < 4) then (i4 c b).bind λa=>bif !a.2.2 then mY (dp i8) c b d e a gi f g else mY (dp i8) c b d e a (decide (a.1>=1048576)) f g else te b d f g
def gI(e:gs)(g b:Int):A' (jc×Int×Bool):=
 bif b == 1 then (uY e g).bind λf=>ac ((jc.mk b 0 f.1 0 0 0 []),f.2.1,f.2.2) else (i4 e g).bind λc=>bif !c.2.2 then ac ((jc.mk b c.1 (af.mk 0 0 0 []) 0 0 0 []),0,go) else bif b == 2 then dp u e c.2.1 ([]:gs) 0 b c else bif b == 3 then (i4 e c.2.1).bind λd=>(sE e d.2.1 6).bind λa=>bif d.2.2 then ac ((jc.mk b c.1 (af.mk 0 0 0 []) 0 0 d.1 a.1),a.2.1,a.2.2) else ac ((jc.mk b c.1 (af.mk 0 0 0 []) 0 0 d.1 a.1),a.2.1,go) else td c.2.1 b c 0 0
def NJ(c:gs)(a:Int)(b:Int×Int×Bool)(s:Int×gs):A' (jc×Int×Bool):=te s.1 s.2 a b
def NK(b:gs)(e:Int)(f:Int×Int×Bool)(g:Nat)(s:Int×gs)(i:(Int×gs)->A' (jc×Int×Bool)):A' (jc×Int×Bool):=(i4 b s.1).bind λa=>bif !a.2.2 then mY (λj c d k l m=>i (c,d)) b s.1 s.2 (g:Int) a gi e f else mY (λj c d k l m=>i (c,d)) b s.1 s.2 (g:Int) a (decide (a.1>=1048576)) e f
theorem qdF(a:gs)(b:Int)(c:Int×Int×Bool)(s:Int×gs)(k:Nat)(hn:(4:Int)<=9223372036854775807)(hk:sY 4 < k):dp k a s.1 s.2 0 b c=Pu.rr (NJ a b c) (NK a b c) (sY 4) 0 s:=Pu.ue (λk s i=>dp k a s.1 s.2 i b c) hn (λ_ _ _=>rfl) s hk
def qU(a:Bool)(b:jc×Int×Bool):A' (jc×Bool):=
 bif a then ac ((jc.mk 0 0 (af.mk 0 0 0 []) 0 0 0 []),go) else ac (b.1,gi)
def uZ(b:gs)(a:jc×Int×Bool)(d:Bool):A' (jc×Bool):=
 bif d then ac ((jc.mk 0 0 (af.mk 0 0 0 []) 0 0 0 []),go) else (i4 b a.2.1).bind λc=>bif !c.2.2 then qU gi a else bif c.2.1 != (b.length:Int) then qU gi a else (dW (cR 0 a.2.1 b.length)).bind λ_=>(rY ((b.take (sY a.2.1)).drop (sY 0))).bind λe=>qU (c.1 != e) a
def u3(b:gs)(c:Int×Int×Bool)(d:Bool):A' (jc×Bool):=
 bif d then ac ((jc.mk 0 0 (af.mk 0 0 0 []) 0 0 0 []),go) else (gI b c.2.1 c.1).bind λa=>bif !a.2.2 then uZ b a gi else (Bx a.1).bind λe=>uZ b a (!e)
def nE(a:gs):A' (jc×Bool):=
 (i4 a 0).bind λb=>bif !b.2.2 then u3 a b gi else u3 a b (decide ((a.length:Int) > 400))
def oo(a b:gs):A' Bool:=
 ac ((strOfNums a).toList == (strOfNums b).toList)
def wb  : A' Bool:=
 ac go
def iO(oT:Nat)(a:Int)(b:World)(c:du):A' Bool:=match oT with
  | 0=>cl
  | oT+1=>bif decide (a < (b.bj.length:Int)) then (cM b.bj a).bind λd=>(oo d.fB c.fP.fB).bind λe=>bif e then ac gi else iO oT (aS .i64 a 1) b c else wb
def lv(a:Bool)(b:World)(c:du):A' Bool:=
 bif a then ac gi else iO u 0 b c
def nF(b:World)(a:du):A' Bool:=
 bif a.bH != 7 then ac gi else (nE a.fP.fB).bind λc=>bif !c.2 then lv gi b a else bif c.1.bH == 4 then lv gi b a else lv (c.1.bH == 3) b a
def Ez(a:World)(b:du)(s:Unit):A' Bool:=wb
def ze(e:World)(a:du)(b:ak)(f:Nat)(s:Unit)(c:Unit->A' Bool):A' Bool:=(oo b.fB a.fP.fB).bind λd=>bif d then ac gi else c ()
theorem Mg(a:World)(b:du)(s:Unit)(k:Nat)(hn:a.bj.length<=9223372036854775807)(hk:a.bj.length < k):iO k 0 a b=Pu.bT (Ez a b) (ze a b) a.bj 0 s:=Pu.cn (λk s i=>iO k i a b) hn (λ_ _ _=>rfl) s hk
def yv(a b:gs)(c d:Int):A' (gs×aL):=
 ac (a,(aL.mk b c d))
def jw(uG:Nat)(d:Int)(c:gs)(e:Int)(f:gs)(g b:Int):A' (gs×aL):=match uG with
  | 0=>cl
  | uG+1=>bif decide (e < d) then (nz (aL.mk f g b)).bind λa=>(dW (decide ((c.length+([ld .u8 a.1]:gs).length)*1<=140737488355328))).bind λ_=>jw uG d (c++([ld .u8 a.1]:gs)) (aS .i64 e 1) a.2.fB a.2.fI a.2.fH else yv c f g b
def DU(a:aL)(b:Int):A' (gs×aL):=
 jw u b ([]:gs) 0 a.fB a.fI a.fH
def NL(a:Int)(s:gs×gs×Int×Int):A' (gs×aL):=yv s.1 s.2.1 s.2.2.1 s.2.2.2
def NM(c:Int)(d:Nat)(s:gs×gs×Int×Int)(b:(gs×gs×Int×Int)->A' (gs×aL)):A' (gs×aL):=(nz (aL.mk s.2.1 s.2.2.1 s.2.2.2)).bind λa=>(dW (decide ((s.1.length+([ld .u8 a.1]:gs).length)*1<=140737488355328))).bind λ_=>b (s.1++([ld .u8 a.1]:gs),a.2.fB,a.2.fI,a.2.fH)
theorem qdG(a:Int)(s:gs×gs×Int×Int)(k:Nat)(hn:(a:Int)<=9223372036854775807)(hk:sY a < k):jw k a s.1 0 s.2.1 s.2.2.1 s.2.2.2=Pu.rr (NL a) (NM a) (sY a) 0 s:=Pu.ue (λk s i=>jw k a s.1 i s.2.1 s.2.2.1 s.2.2.2) hn (λ_ _ _=>rfl) s hk
def qV(a:gs)(b c:Int)(e f:Int×aL)(d:gs):A' (du×aL):=
 ac ((du.mk 7 0 0 (ak.mk e.1 f.1 d)),(aL.mk a b c))
def nR(e f:Int×aL)(a:gs)(i:World)(b:gs)(c d:Int):A' (du×aL):=
 (nF i (du.mk 7 0 0 (ak.mk e.1 f.1 a))).bind λg=>bif !g then qV b c d e f ([]:gs) else qV b c d e f a
def nS(f g:Int×aL)(b:gs)(i:World)(c:gs)(d e:Int):A' (du×aL):=
 (nF i (du.mk 7 0 0 (ak.mk f.1 g.1 b))).bind λj=>bif !j then (DU (aL.mk c d e) 3).bind λa=>nR f g a.1 i a.2.fB a.2.fI a.2.fH else nR f g b i c d e
def nT(k:Bool)(e f:Int×aL)(l:gs)(c:World)(g:gs)(i j:Int):A' (du×aL):=
 bif k then (bd (aL.mk g i j) (c.bj.length:Int)).bind λb=>(cM c.bj b.1).bind λd=>(rX b.2 d.fB).bind λa=>nS e f a.1 c a.2.fB a.2.fI a.2.fH else nS e f l c g i j
def qg(g:aL)(a:World):A' (du×aL):=
 (bd g (a.fN.length:Int)).bind λd=>(bd d.2 (a.fN.length:Int)).bind λe=>(Ai e.2).bind λb=>(si b.1).bind λf=>bif decide ((a.bj.length:Int) > 0) then (ir b.2 2).bind λc=>nT c.1 d e f a c.2.fB c.2.fI c.2.fH else nT go d e f a b.2.fB b.2.fI b.2.fH
def pu(g:Int×aL)(i:Bool)(j:World)(d:gs)(e f:Int):A' (du×aL):=
 bif i then (Bq (j.bj.length:Int) 4).bind λc=>(bd (aL.mk d e f) c).bind λb=>(bd b.2 12).bind λa=>bif a.1 == 0 then ac ((du.mk 3 b.1 0 (ak.mk 0 0 [])),a.2) else bif a.1 == 1 then ac ((du.mk 4 b.1 0 (ak.mk 0 0 [])),a.2) else ac ((du.mk 2 b.1 0 (ak.mk 0 0 [])),a.2) else ac ((du.mk 1 g.1 0 (ak.mk 0 0 [])),(aL.mk d e f))
def sF(g:aL)(b:World):A' (du×aL):=
 (bd g (b.fN.length:Int)).bind λc=>(bd c.2 24).bind λa=>bif a.1 == 0 then (fo a.2 ([0,0,1,5,1099511627775,21]:gs)).bind λe=>ac ((du.mk 5 c.1 e.1 (ak.mk 0 0 [])),e.2) else bif a.1 == 1 then ac ((du.mk 6 c.1 0 (ak.mk 0 0 [])),a.2) else bif a.1 == 2 then (qg a.2 b).bind λf=>ac (f.1,f.2) else bif decide ((b.bj.length:Int) > 0) then (ir a.2 3).bind λd=>pu c (!d.1) b d.2.fB d.2.fI d.2.fH else pu c go b a.2.fB a.2.fI a.2.fH
def EA(a:List bV):A' (List bV):=
 ac a
def qW(RR:List bV->Int->List bV->Int->A' (List bV))(a:List bV)(b:Int)(c:List bV)(d:Int):A' (List bV):=
 RR a b c (aS .i64 d 1)
def ma(oa:Nat)(b:List bV)(e:Int)(c:List bV)(d:Int):A' (List bV):=match oa with
  | 0=>cl
  | oa+1=>bif decide (d < (b.length:Int)) then (cM b d).bind λa=>bif decide (a.pg>=e) then qW (ma oa) b e c d else (dW (decide ((c.length+([(bV.mk a.jW a.cW a.cO (aS .i64 a.pg 1) 0)]).length)*40<=140737488355328))).bind λ_=>qW (ma oa) b e (c++([(bV.mk a.jW a.cW a.cO (aS .i64 a.pg 1) 0)])) d else EA c
def Cm(a:List bV)(b:Int):A' (List bV):=
 ma u a b ([]:List bV) 0
def Qb(a:List bV)(b:Int)(s:List bV):A' (List bV):=EA s
def GU(d:List bV)(b:Int)(a:bV)(e:Nat)(s:List bV)(f:List bV->A' (List bV)):A' (List bV):=bif decide (a.pg>=b) then qW (λg i c j=>f c) d b s (e:Int) else (dW (decide ((s.length+([(bV.mk a.jW a.cW a.cO (aS .i64 a.pg 1) 0)]).length)*40<=140737488355328))).bind λ_=>qW (λg i c j=>f c) d b (s++([(bV.mk a.jW a.cW a.cO (aS .i64 a.pg 1) 0)])) (e:Int)
theorem Qc(a:List bV)(b:Int)(s:List bV)(k:Nat)(hn:a.length<=9223372036854775807)(hk:a.length < k):ma k a b s 0=Pu.bT (Qb a b) (GU a b) a 0 s:=Pu.cn (λk s i=>ma k a b s i) hn (λ_ _ _=>rfl) s hk
def Am(a:gs):A' gs:=
 ac a
def u4(RX:Int->gs->bD->A' gs)(a:Int)(b:gs)(e:Bool)(d:bD):A' gs:=
 bif e then (dW (decide ((b.length+([a]:gs).length)*8<=140737488355328))).bind λ_=>(cM d.bl a).bind λc=>RX c (b++([a]:gs)) d else Am b
def ku(og:Nat)(b:Int)(c:gs)(a:bD):A' gs:=match og with
  | 0=>cl
  | og+1=>(bK b 0 (ew .i64 (a.bl.length:Int) 1)).bind λd=>bif d then u4 (ku og) b c (decide ((c.length:Int) < (a.bl.length:Int))) a else u4 (ku og) b c go a
def Cn(a:bD)(b:Int):A' gs:=
 ku u b ([]:gs) a
def EB  : A' Bool:=
 ac go
def qX(w4:Nat)(a:gs)(c b:Int):A' Bool:=match w4 with
  | 0=>cl
  | w4+1=>bif decide (b < (a.length:Int)) then (cM a b).bind λd=>bif d == c then ac gi else qX w4 a c (aS .i64 b 1) else EB
def Co(a:gs)(b:Int):A' Bool:=
 qX u a b 0
def GV(a:gs)(b:Int)(s:Unit):A' Bool:=EB
def Bz(d:gs)(a b:Int)(e:Nat)(s:Unit)(c:Unit->A' Bool):A' Bool:=bif b == a then ac gi else c ()
theorem Qd(a:gs)(b:Int)(s:Unit)(k:Nat)(hn:a.length<=9223372036854775807)(hk:a.length < k):qX k a b 0=Pu.bT (GV a b) (Bz a b) a 0 s:=Pu.cn (λk s i=>qX k a b i) hn (λ_ _ _=>rfl) s hk
def qh(c:bD)(a b:Int):A' Bool:=
 bif a != b then (Cn c b).bind λd=>(Co d a).bind λe=>ac e else ac go
def wd(b c:Int)(d:Bool)(a:bD):A' Int:=
 bif d then (cM a.bl b).bind λe=>ac e else (cM a.bl c).bind λf=>ac f
def we(b a:Int)(d:Bool)(c:bD):A' Int:=
 bif d then ac (-1) else bif decide (a<=0) then wd b a gi c else (qh c a b).bind λe=>wd b a (!e) c
def xE(a:bD)(b c:Int):A' Int:=
 (pK a).bind λd=>bif !d then we b c gi a else (bK b 1 (ew .i64 (a.bl.length:Int) 1)).bind λe=>we b c (!e) a
def wg(a:Int):A' Int:=
 (bK a 0 40).bind λb=>bif !b then ac 0 else (dW (decide (0<=a))).bind λ_=>ac (ew .i64 (mm .i64 1 a) 1)
def tL(a:af):A' Int:=
 (wg (a.aI.length:Int)).bind λb=>ac b
def yx(a b:Int)(c:Bool):A' Int:=
 bif c then ac 0 else ac (yN .i64 a b)
def wi(a b:Int):A' Int:=
 (dh a).bind λc=>bif !c then yx a b gi else (dh b).bind λd=>yx a b (!d)
def EC  : A' Bool:=
 ac gi
def qY(w6:Nat)(a:gs)(b:Int):A' Bool:=match w6 with
  | 0=>cl
  | w6+1=>bif decide (b < (a.length:Int)) then (cM a b).bind λc=>bif c != 0 then ac go else qY w6 a (aS .i64 b 1) else EC
def sj(a:gs):A' Bool:=
 qY u a 0
def Qe(a:gs)(s:Unit):A' Bool:=EC
def GW(c:gs)(a:Int)(d:Nat)(s:Unit)(b:Unit->A' Bool):A' Bool:=bif a != 0 then ac go else b ()
theorem Qf(a:gs)(s:Unit)(k:Nat)(hn:a.length<=9223372036854775807)(hk:a.length < k):qY k a 0=Pu.bT (Qe a) (GW a) a 0 s:=Pu.cn (λk s i=>qY k a i) hn (λ_ _ _=>rfl) s hk
def CZ  : A' Bool:=
 ac gi
def gj(PQ:Int->af->aW->A' Bool)(b:Int)(a:Bool)(c:af)(d:aW):A' Bool:=
 bif a then ac go else PQ (aS .i64 b 1) c d
def gS(il:Nat)(c:Int)(d:af)(a:aW):A' Bool:=match il with
  | 0=>cl
  | il+1=>bif decide (c < (d.aI.length:Int)) then (iu d.au d.aT c).bind λb=>(dW (cR b.1 (aS .i64 b.1 b.2) a.bE.length)).bind λ_=>(gH a.bc c).bind λg=>bif g then (jB ((a.bE.take (sY (aS .i64 b.1 b.2))).drop (sY b.1))).bind λe=>(cM d.aI c).bind λf=>bif !([e.fW,e.fS] == [f.fW,f.fS]) then gj (gS il) c gi d a else (gH a.bc c).bind λi=>bif !i then (sj ((a.bE.take (sY (aS .i64 b.1 b.2))).drop (sY b.1))).bind λj=>gj (gS il) c (!j) d a else gj (gS il) c go d a else (gH a.bc c).bind λk=>bif !k then (sj ((a.bE.take (sY (aS .i64 b.1 b.2))).drop (sY b.1))).bind λl=>gj (gS il) c (!l) d a else gj (gS il) c go d a else CZ
def pv(a:Bool)(b:af)(c:aW):A' Bool:=
 bif a then ac go else gS u 0 b c
def pU(a:af)(b:aW):A' Bool:=
 (kj a).bind λc=>bif !c then pv gi a b else (dh b.bc).bind λd=>bif !d then pv gi a b else (tL a).bind λe=>(wi b.bc e).bind λf=>bif f != 0 then pv gi a b else pv ((b.bE.length:Int) != a.aT) a b
def NN(a:af)(b:aW)(s:Unit):A' Bool:=CZ
def FA(d:af)(a:aW)(c:Nat)(s:Unit)(e:Unit->A' Bool):A' Bool:=(iu d.au d.aT (c:Int)).bind λb=>(dW (cR b.1 (aS .i64 b.1 b.2) a.bE.length)).bind λ_=>(gH a.bc (c:Int)).bind λl=>bif l then (jB ((a.bE.take (sY (aS .i64 b.1 b.2))).drop (sY b.1))).bind λf=>(cM d.aI (c:Int)).bind λg=>bif !([f.fW,f.fS] == [g.fW,g.fS]) then gj (λi j k=>e ()) (c:Int) gi d a else (gH a.bc (c:Int)).bind λm=>bif !m then (sj ((a.bE.take (sY (aS .i64 b.1 b.2))).drop (sY b.1))).bind λn=>gj (λi j k=>e ()) (c:Int) (!n) d a else gj (λi j k=>e ()) (c:Int) go d a else (gH a.bc (c:Int)).bind λo=>bif !o then (sj ((a.bE.take (sY (aS .i64 b.1 b.2))).drop (sY b.1))).bind λp=>gj (λi j k=>e ()) (c:Int) (!p) d a else gj (λi j k=>e ()) (c:Int) go d a
theorem NO(a:af)(b:aW)(s:Unit)(k:Nat)(hn:((a.aI.length:Int):Int)<=9223372036854775807)(hk:sY (a.aI.length:Int) < k):gS k 0 a b=Pu.rr (NN a b) (FA a b) (sY (a.aI.length:Int)) 0 s:=Pu.ue (λk s i=>gS k i a b) hn (λ_ _ _=>rfl) s hk
def wj(a:af)(b:aW):A' Int:=
 (tL a).bind λc=>(wi c b.bc).bind λd=>ac d
def BA(a:af)(b:aW):A' Bool:=
 bif a.aR != 0 then (pU a b).bind λc=>bif c then (wj a b).bind λd=>ac (d == 0) else ac go else ac go
def tM(a:ed):A' Bool:=
 (bK a.aR 0 1000000).bind λb=>bif b then (bK a.bW 0 1).bind λc=>bif c then (bK a.aT 0 240).bind λd=>ac d else ac go else ac go
def sm(a:ar)(b:Int):A' gs:=
 bif b == 1 then ac a.fB else ac a.fA
def zf(a:dv):A' Bool:=
 bif a.fm == 2 then bif a.HV == 0 then bif (a.fB.length:Int) == 0 then (tM a.fR).bind λb=>ac b else ac go else ac go else (bK a.fm 0 1).bind λc=>bif c then (bK a.HV 0 240).bind λd=>bif d then bif decide ((a.fB.length:Int)<=(ew .i64 240 a.HV)) then ac ([a.fR.aR,a.fR.bW,a.fR.aT] == [0,0,0]) else ac go else ac go else ac go
def ED  : A' Bool:=
 ac gi
def oq(wV:Nat)(a:Int)(b:ar):A' Bool:=match wV with
  | 0=>cl
  | wV+1=>bif decide (a < (b.fP.length:Int)) then (cM b.fP a).bind λc=>(zf c).bind λd=>bif !d then ac go else oq wV (aS .i64 a 1) b else ED
def ot(a:Bool)(b:ar):A' Bool:=
 bif a then ac go else oq u 0 b
def kV(a:ar):A' Bool:=
 bif decide ((a.fA.length:Int) > 240) then ot gi a else bif decide ((a.fB.length:Int) > 240) then ot gi a else (tM a.fR).bind λb=>bif !b then ot gi a else (sm a a.fR.bW).bind λc=>bif decide (a.fR.aT > (c.length:Int)) then ot gi a else ot (decide ((a.fP.length:Int) > 200)) a
def GX(a:ar)(s:Unit):A' Bool:=ED
def BB(d:ar)(a:dv)(e:Nat)(s:Unit)(b:Unit->A' Bool):A' Bool:=(zf a).bind λc=>bif !c then ac go else b ()
theorem Qg(a:ar)(s:Unit)(k:Nat)(hn:a.fP.length<=9223372036854775807)(hk:a.fP.length < k):oq k 0 a=Pu.bT (GX a) (BB a) a.fP 0 s:=Pu.cn (λk s i=>oq k i a) hn (λ_ _ _=>rfl) s hk
def qi(a:ar):A' Int:=
 ac (ew .i64 1 a.fR.bW)
def sG(c:ar)(d:dv):A' (ar×Bool):=
 (f0 c).bind λa=>(jh d).bind λb=>(dW (decide ((a.fP.length+[b].length)*64<=140737488355328))).bind λ_=>(kV (ar.mk a.fA a.fB a.fR (a.fP++[b]))).bind λe=>bif !e then (f0 c).bind λf=>ac (f,go) else ac ((ar.mk a.fA a.fB a.fR (a.fP++[b])),gi)
def xF(a:ar)(b d:Int)(e:gs):A' (ar×Bool):=
 (bK b 0 1).bind λf=>bif !f then (f0 a).bind λg=>ac (g,go) else (sG a (dv.mk b d e (ed.mk 0 0 0))).bind λc=>ac (c.1,c.2)
def GY(a b:gs)(c d e:Int)(f:List dv):A' (ar×Bool):=
 ac ((ar.mk a b (ed.mk c d e) f),gi)
def lw(sW:Nat)(j:gs)(k b:Int)(c d:gs)(e f g:Int)(i:List dv)(l:ar):A' (ar×Bool):=match sW with
  | 0=>cl
  | sW+1=>(pM k (j.length:Int)).bind λm=>bif decide (b < m) then (iu k (j.length:Int) b).bind λn=>(np j k b).bind λo=>(qi l).bind λp=>(xF (ar.mk c d (ed.mk e f g) i) p n.1 o.1).bind λa=>bif !a.2 then (f0 l).bind λq=>ac (q,go) else lw sW j k (aS .i64 b 1) a.1.fA a.1.fB a.1.fR.aR a.1.fR.bW a.1.fR.aT a.1.fP l else GY c d e f g i
def qZ(b:gs)(c:Int)(d:Bool)(a e:ar):A' (ar×Bool):=
 bif d then ac (a,go) else lw u b c 0 a.fA a.fB a.fR.aR a.fR.bW a.fR.aT a.fP e
def xG(a:ar)(b:gs)(c:Int):A' (ar×Bool):=
 (f0 a).bind λd=>(kV a).bind λe=>bif !e then qZ b c gi d a else bif decide ((a.fP.length:Int) > 0) then qZ b c gi d a else (nA c (b.length:Int)).bind λf=>qZ b c (!f) d a
def xH(a:gs):A' gs:=
 ac a
def nG(tz:Nat)(b:Int)(c d:gs)(a:Int):A' gs:=match tz with
  | 0=>cl
  | tz+1=>bif decide (a < (c.length:Int)) then (cM c a).bind λe=>(cM d (aS .i64 b a)).bind λf=>nG tz b c (d.set (sY (aS .i64 b a)) e) (aS .i64 a 1) else xH d
def xI(a:Int)(b c:gs):A' gs:=
 nG u a b c 0
def qj(tA:Nat)(b:Int)(c a:gs):A' gs:=match tA with
  | 0=>cl
  | tA+1=>bif decide ((a.length:Int) < (aS .i64 b (c.length:Int))) then (dW (decide ((a.length+([0]:gs).length)*1<=140737488355328))).bind λ_=>qj tA b c (a++([0]:gs)) else xI b c a
def u5(a:gs)(b:Int)(c:gs):A' gs:=
 (dW (decide ((([]:gs).length+a.length)*1<=140737488355328))).bind λ_=>qj u b c (([]:gs)++a)
def C0(a:Int)(b:gs)(s:gs):A' gs:=xH s
def C1(b:Int)(f:gs)(a:Int)(c:Nat)(s:gs)(d:gs->A' gs):A' gs:=(cM s (aS .i64 b (c:Int))).bind λe=>d (s.set (sY (aS .i64 b (c:Int))) a)
theorem SM(b:Int)(a:gs)(s:gs)(k:Nat)(hn:a.length<=9223372036854775807)(hk:a.length < k):nG k b a s 0=Pu.bT (C0 b a) (C1 b a) a 0 s:=Pu.cn (λk s i=>nG k b a s i) hn (λ_ _ _=>rfl) s hk
def q5(a b:gs)(c d e:Int)(f:ar):A' ar:=
 ac (ar.mk a b (ed.mk c d e) f.fP)
def mb(c:ar)(b:dv):A' ar:=
 (f0 c).bind λa=>(zf b).bind λd=>bif !d then q5 a.fA a.fB a.fR.aR a.fR.bW a.fR.aT a else bif b.fm == 0 then (u5 c.fA b.HV b.fB).bind λe=>q5 e a.fB a.fR.aR a.fR.bW a.fR.aT a else bif b.fm == 1 then (u5 c.fB b.HV b.fB).bind λf=>q5 a.fA f a.fR.aR a.fR.bW a.fR.aT a else q5 a.fA a.fB b.fR.aR b.fR.bW b.fR.aT a
def DV(a b:gs)(c d e:Int)(f:List dv):A' ar:=
 ac (ar.mk a b (ed.mk c d e) ([]:List dv))
def pV(vM:Nat)(b:Int)(j:ar)(c d:gs)(e f g:Int)(i:List dv):A' ar:=match vM with
  | 0=>cl
  | vM+1=>bif decide (b < (j.fP.length:Int)) then (cM j.fP b).bind λk=>(mb (ar.mk c d (ed.mk e f g) i) k).bind λa=>pV vM (aS .i64 b 1) j a.fA a.fB a.fR.aR a.fR.bW a.fR.aT a.fP else DV c d e f g i
def tN(b:ar):A' ar:=
 (f0 b).bind λa=>(kV b).bind λc=>bif !c then ac a else pV u 0 b a.fA a.fB a.fR.aR a.fR.bW a.fR.aT a.fP
def EE(a:ar)(s:gs×gs×Int×Int×Int×(List dv)):A' ar:=DV s.1 s.2.1 s.2.2.1 s.2.2.2.1 s.2.2.2.2.1 s.2.2.2.2.2
def EF(d:ar)(b:dv)(e:Nat)(s:gs×gs×Int×Int×Int×(List dv))(c:(gs×gs×Int×Int×Int×(List dv))->A' ar):A' ar:=(mb (ar.mk s.1 s.2.1 (ed.mk s.2.2.1 s.2.2.2.1 s.2.2.2.2.1) s.2.2.2.2.2) b).bind λa=>c (a.fA,a.fB,a.fR.aR,a.fR.bW,a.fR.aT,a.fP)
theorem UG(a:ar)(s:gs×gs×Int×Int×Int×(List dv))(k:Nat)(hn:a.fP.length<=9223372036854775807)(hk:a.fP.length < k):pV k 0 a s.1 s.2.1 s.2.2.1 s.2.2.2.1 s.2.2.2.2.1 s.2.2.2.2.2=Pu.bT (EE a) (EF a) a.fP 0 s:=Pu.cn (λk s i=>pV k i a s.1 s.2.1 s.2.2.1 s.2.2.2.1 s.2.2.2.2.1 s.2.2.2.2.2) hn (λ_ _ _=>rfl) s hk
def u6(b:ar)(c:ed):A' (ar×Bool):=
 (sG b (dv.mk 2 0 [] c)).bind λa=>ac (a.1,a.2)
def lx(a:Int)(b:ar):A' (ar×Int):=
 (f0 b).bind λc=>ac (c,a)
def pz(a:ar)(c:af)(d:aW)(b:Int):A' (ar×Int):=
 bif b == 1 then (BA c d).bind λg=>bif g then (xG a d.bE c.au).bind λe=>bif e.2 then ac (e.1,2) else lx b a else lx b a else bif b == 2 then (tN a).bind λi=>ac (i,3) else bif b == 3 then (qi a).bind λj=>(u6 a (ed.mk c.aR j c.aT)).bind λf=>bif f.2 then ac (f.1,4) else lx b a else bif b == 4 then (tN a).bind λk=>ac (k,5) else lx b a
def Cp(a:aD):A' Int:=
 bif a.aG == 0 then ac 0 else (wj a.aH a.bi).bind λb=>ac b
def yy(a:Int):A' Int:=
 ac a
def yz(ux:Int->Int->Int->Int->A' Int)(c a:Int)(b d:Int):A' Int:=
 ux c a b (aS .i64 d 1)
def tg(ux:Int->Int->Int->Int->A' Int)(b f:Int)(c a:Int)(d:Bool):A' Int:=
 bif d then (gH b a).bind λe=>bif e then (dW (decide (0<=a))).bind λ_=>yz ux b (ew .i64 f 1) (DM .i64 c (mm .i64 1 a)) a else yz ux b f c a else yy c
def iG(kK:Nat)(c a:Int)(d b:Int):A' Int:=match kK with
  | 0=>cl
  | kK+1=>bif decide (b < 40) then tg (iG kK) c a d b (decide (a > 0)) else tg (iG kK) c a d b go
def An(a b:Int):A' Int:=
 iG u a b 0 0
def Cq(a:aD)(b:Int):A' Int:=
 (Cp a).bind λc=>(An c b).bind λd=>ac d
def EG(a:Int):A' Int:=
 ac a
def q6(RT:List bV->Int->Int->A' Int)(b:List bV)(a c:Int):A' Int:=
 RT b a (aS .i64 c 1)
def mc(od:Nat)(a:List bV)(c b:Int):A' Int:=match od with
  | 0=>cl
  | od+1=>bif decide (b < (a.length:Int)) then (cM a b).bind λd=>(dh d.cO).bind λe=>bif e then (cM a b).bind λf=>q6 (mc od) a (DM .i64 c f.cO) b else q6 (mc od) a c b else EG c
def Cr(a:List bV):A' Int:=
 mc u a 0 0
def GZ(a:List bV)(s:Int):A' Int:=EG s
def BC(a:List bV)(e:bV)(b:Nat)(s:Int)(d:Int->A' Int):A' Int:=(dh e.cO).bind λf=>bif f then (cM a (b:Int)).bind λg=>q6 (λi c j=>d c) a (DM .i64 s g.cO) (b:Int) else q6 (λi c j=>d c) a s (b:Int)
theorem Qh(a:List bV)(s:Int)(k:Nat)(hn:a.length<=9223372036854775807)(hk:a.length < k):mc k a s 0=Pu.bT (GZ a) (BC a) a 0 s:=Pu.cn (λ(k:Nat) (s i:Int)=>mc k a s i) hn (λ_ _ _=>rfl) s hk
def yA(a:Int):A' Int:=
 ac a
def Ao(a:aD)(c:Int):A' Int:=
 (Cr a.aZ).bind λb=>bif a.aG == 5 then (ke b c).bind λd=>yA d else yA b
def gY(a b:Int)(c:jc):A' ak:=
 (si c).bind λd=>ac (ak.mk a b d)
def Ap(i:Int)(j:fq)(k:ar)(a:aD)(c e:Int)(f:List bV)(n:ar):A' PY:=
 (pz k a.aH a.bi a.aG).bind λd=>(Cq (aD.mk a.fJ c e a.aH a.bi d.2 f a.be) j.aP).bind λl=>(Ao (aD.mk a.fJ c e a.aH a.bi d.2 f a.be) i).bind λm=>(Ah a.aH.aR l m).bind λg=>(gY i c g).bind λb=>(dW (decide ((([]:List ak).length+[b].length)*40<=140737488355328))).bind λ_=>ac (PY.mk (aD.mk a.fJ c e a.aH a.bi d.2 f a.be) d.1 (([]:List ak)++[b]))
def G0(i:bD)(b:fq)(c:Int)(d:aD)(f:ar):A' PY:=
 (ff d).bind λa=>(f0 f).bind λe=>bif !d.fJ then ac (PY.mk a e ([]:List ak)) else (Cm d.aZ b.aN).bind λg=>bif c == 0 then ac (PY.mk (aD.mk a.fJ a.bG a.bn a.aH a.bi a.aG g a.be) e ([]:List ak)) else bif decide (a.bn>=b.aK) then (xE i c d.bG).bind λj=>Ap c b f a j 0 g e else Ap c b f a a.bG (aS .i64 a.bn 1) g e
def iH(uA:List ak->Int->World->List ak->List eJ->Int->A' World)(d:List ak)(e:Int)(f:World)(a:List ak)(b:List eJ)(c:Int):A' World:=
 uA d (aS .i64 e 1) f a b c
def gT(uA:List ak->Int->World->List ak->List eJ->Int->A' World)(g:List ak)(i:Int)(j:Bool)(l:World)(m:List ak)(a b c:ak)(k:List eJ)(n:Int)(d:jc×Bool):A' World:=
 bif j then (cM g i).bind λe=>(cM g i).bind λf=>(dW (decide ((k.length+([(eJ.mk e.dy f.s4 d.1.fI)]).length)*24<=140737488355328))).bind λ_=>iH uA g i l (m++([(ak.mk a.dy b.s4 (([]:gs)++c.fB))])) (k++([(eJ.mk e.dy f.s4 d.1.fI)])) n else iH uA g i l (m++([(ak.mk a.dy b.s4 (([]:gs)++c.fB))])) k n
def cQ(fd:Nat)(d:List ak)(e:Int)(c:World)(i:List ak)(j:List eJ)(k:Int):A' World:=match fd with
  | 0=>cl
  | fd+1=>bif decide (e < (d.length:Int)) then bif decide ((i.length:Int)>=400) then iH (cQ fd) d e c i j (aS .i64 k 1) else (cM d e).bind λf=>(cM d e).bind λg=>(cM d e).bind λa=>(dW (decide ((([]:gs).length+a.fB.length)*1<=140737488355328))).bind λ_=>(dW (decide ((i.length+([(ak.mk f.dy g.s4 (([]:gs)++a.fB))]).length)*40<=140737488355328))).bind λ_=>(cM d e).bind λl=>(nE l.fB).bind λb=>bif b.2 then bif b.1.bH == 3 then gT (cQ fd) d e (decide ((j.length:Int) < 3000)) c i f g a j k b else gT (cQ fd) d e go c i f g a j k b else gT (cQ fd) d e go c i f g a j k b else ac (World.mk c.fC c.fT c.bI c.bt c.fN c.fD i j k)
def pW(a:World)(b:List ak):A' World:=
 cQ u b 0 a a.bj a.cY a.bk
def NP(b:List ak)(a:World)(s:(List ak)×(List eJ)×Int):A' World:=ac (World.mk a.fC a.fT a.bI a.bt a.fN a.fD s.1 s.2.1 s.2.2)
def NQ(e:List ak)(k:World)(f:Nat)(s:(List ak)×(List eJ)×Int)(l:((List ak)×(List eJ)×Int)->A' World):A' World:=bif decide ((s.1.length:Int)>=400) then iH (λm n o g i j=>l (g,i,j)) e (f:Int) k s.1 s.2.1 (aS .i64 s.2.2 1) else (cM e (f:Int)).bind λc=>(cM e (f:Int)).bind λd=>(cM e (f:Int)).bind λa=>(dW (decide ((([]:gs).length+a.fB.length)*1<=140737488355328))).bind λ_=>(dW (decide ((s.1.length+([(ak.mk c.dy d.s4 (([]:gs)++a.fB))]).length)*40<=140737488355328))).bind λ_=>(cM e (f:Int)).bind λp=>(nE p.fB).bind λb=>bif b.2 then bif b.1.bH == 3 then gT (λm n o g i j=>l (g,i,j)) e (f:Int) (decide ((s.2.1.length:Int) < 3000)) k s.1 c d a s.2.1 s.2.2 b else gT (λm n o g i j=>l (g,i,j)) e (f:Int) go k s.1 c d a s.2.1 s.2.2 b else gT (λm n o g i j=>l (g,i,j)) e (f:Int) go k s.1 c d a s.2.1 s.2.2 b
theorem qdH(a:List ak)(b:World)(s:(List ak)×(List eJ)×Int)(k:Nat)(hn:((a.length:Int):Int)<=9223372036854775807)(hk:sY (a.length:Int) < k):cQ k a 0 b s.1 s.2.1 s.2.2=Pu.rr (NP a b) (NQ a b) (sY (a.length:Int)) 0 s:=Pu.ue (λk s i=>cQ k a i b s.1 s.2.1 s.2.2) hn (λ_ _ _=>rfl) s hk
def nt(a:World)(b:Int):A' World:=
 (cM a.fN b).bind λd=>(cM a.fD b).bind λe=>(G0 a.fT a.fC b d e).bind λc=>(cM a.fN b).bind λg=>(cM a.fD b).bind λi=>(pW (World.mk a.fC a.fT a.bI a.bt (a.fN.set (sY b) c.fN) (a.fD.set (sY b) c.fD) a.bj a.cY a.bk) c.m9).bind λf=>ac f
def nu(b:aD):A' aD:=
 (ff b).bind λa=>ac (aD.mk a.fJ a.bG a.bn a.aH a.bi a.aG a.aZ (aS .i64 a.be 1))
def Gq  : A' Int:=
 ac (-1)
def tO(yY:Nat)(b:List bV)(c a:Int):A' Int:=match yY with
  | 0=>cl
  | yY+1=>bif decide (a < (b.length:Int)) then (cM b a).bind λd=>bif d.jW == c then ac a else tO yY b c (aS .i64 a 1) else Gq
def zg(a:List bV)(b:Int):A' Int:=
 tO u a b 0
def SN(a:List bV)(b:Int)(s:Unit):A' Int:=Gq
def SO(e:List bV)(a:Int)(b:bV)(c:Nat)(s:Unit)(d:Unit->A' Int):A' Int:=bif b.jW == a then ac (c:Int) else d ()
theorem SP(a:List bV)(b:Int)(s:Unit)(k:Nat)(hn:a.length<=9223372036854775807)(hk:a.length < k):tO k a b 0=Pu.bT (SN a b) (SO a b) a 0 s:=Pu.cn (λk s i=>tO k a b i) hn (λ_ _ _=>rfl) s hk
def DW(c d e:Int)(b:List bV)(a:Int):A' (List bV):=
 (dW (cR 0 a (([]:List bV)++b).length)).bind λ_=>(dW (decide ((([]:List bV).length+(((([]:List bV)++b).take (sY a)).drop (sY 0)).length)*40<=140737488355328))).bind λ_=>(dW (decide (((([]:List bV)++(((([]:List bV)++b).take (sY a)).drop (sY 0))).length+([(bV.mk c d e 0 0)]).length)*40<=140737488355328))).bind λ_=>(dW (cR a ((([]:List bV)++b).length:Int) (([]:List bV)++b).length)).bind λ_=>(dW (decide ((((([]:List bV)++(((([]:List bV)++b).take (sY a)).drop (sY 0)))++([(bV.mk c d e 0 0)])).length+(((([]:List bV)++b).take (sY ((([]:List bV)++b).length:Int))).drop (sY a)).length)*40<=140737488355328))).bind λ_=>ac (((([]:List bV)++(((([]:List bV)++b).take (sY a)).drop (sY 0)))++([(bV.mk c d e 0 0)]))++(((([]:List bV)++b).take (sY ((([]:List bV)++b).length:Int))).drop (sY a)))
def Aq(W6:Int->Int->Int->List bV->Int->A' (List bV))(b c d:Int)(e:List bV)(f:Int)(a:Bool):A' (List bV):=
 bif a then W6 b c d e (aS .i64 f 1) else DW b c d e f
def nv(rP:Nat)(c e f:Int)(a:List bV)(b:Int):A' (List bV):=match rP with
  | 0=>cl
  | rP+1=>bif decide (b < ((([]:List bV)++a).length:Int)) then (cM (([]:List bV)++a) b).bind λd=>Aq (nv rP) c e f a b (decide (d.jW<=c)) else Aq (nv rP) c e f a b go
def Ar(b:List bV)(d e f:Int)(g:Bool):A' (List bV):=
 bif g then ac (([]:List bV)++b) else (zg b d).bind λc=>bif decide (c < 0) then nv u d e f b 0 else (cM (([]:List bV)++b) c).bind λa=>(cM (([]:List bV)++b) c).bind λi=>ac ((([]:List bV)++b).set (sY c) (bV.mk a.jW e (DM .i64 a.cO f) 0 a.kM))
def G1(a:List bV)(b c d:Int):A' (List bV):=
 (dW (decide ((([]:List bV).length+a.length)*40<=140737488355328))).bind λ_=>(bK b 0 6).bind λe=>bif !e then Ar a b c d gi else (dh c).bind λf=>bif !f then Ar a b c d gi else (dh d).bind λg=>Ar a b c d (!g)
def zC(a:aD):A' Int:=
 ac a.bi.bc
def q7(a:List bV)(c b:Int)(d:Bool):A' Int:=
 bif d then ac 0 else (cM a b).bind λe=>(cM a b).bind λf=>ac (yN .i64 (iK .i64 e.cW c) f.kM)
def zD(a:List bV)(d c:Int):A' Int:=
 (zg a d).bind λb=>bif decide (b < 0) then q7 a c b gi else (dh c).bind λe=>bif !e then q7 a c b gi else (cM a b).bind λf=>(dh f.cW).bind λg=>bif !g then q7 a c b gi else (cM a b).bind λi=>(dh i.kM).bind λj=>q7 a c b (!j)
def yB(a:gs):A' gs:=
 ac a
def mZ(PT:Int->gs->Int->A' gs)(a:Int)(b:gs)(c:Int):A' gs:=
 PT a b (aS .i64 c 1)
def kW(mU:Nat)(c:Int)(b:gs)(a:Int):A' gs:=match mU with
  | 0=>cl
  | mU+1=>bif decide (a < 40) then (gH c a).bind λd=>bif d then (dW (decide ((b.length+([a]:gs).length)*8<=140737488355328))).bind λ_=>mZ (kW mU) c (b++([a]:gs)) a else mZ (kW mU) c b a else yB b
def As(a:Int):A' gs:=
 kW u a ([]:gs) 0
def FB(a:Int)(s:gs):A' gs:=yB s
def FC(b:Int)(a:Nat)(s:gs)(d:gs->A' gs):A' gs:=(gH b (a:Int)).bind λe=>bif e then (dW (decide ((s.length+([(a:Int)]:gs).length)*8<=140737488355328))).bind λ_=>mZ (λf c g=>d c) b (s++([(a:Int)]:gs)) (a:Int) else mZ (λf c g=>d c) b s (a:Int)
theorem NR(a:Int)(s:gs)(k:Nat)(hn:(40:Int)<=9223372036854775807)(hk:sY 40 < k):kW k a s 0=Pu.rr (FB a) (FC a) (sY 40) 0 s:=Pu.ue (λk s i=>kW k a s i) hn (λ_ _ _=>rfl) s hk
def yC(d:Int)(e:Bool)(c:af)(b:aW):A' (gs×Bool):=
 bif e then ac (([]:gs),go) else (iu c.au c.aT d).bind λa=>(dW (cR a.1 (aS .i64 a.1 a.2) b.bE.length)).bind λ_=>(dW (decide ((([]:gs).length+((b.bE.take (sY (aS .i64 a.1 a.2))).drop (sY a.1)).length)*1<=140737488355328))).bind λ_=>ac (([]:gs)++((b.bE.take (sY (aS .i64 a.1 a.2))).drop (sY a.1)),gi)
def sH(b:af)(a:aW)(c:Int):A' (gs×Bool):=
 (pU b a).bind λd=>bif !d then yC c gi b a else (gH a.bc c).bind λe=>yC c (!e) b a
def q8(d:Int)(b:List bV)(c:Int)(e:Bool):A' (List bV):=
 bif e then ac (([]:List bV)++b) else (cM (([]:List bV)++b) c).bind λa=>(cM (([]:List bV)++b) c).bind λf=>ac ((([]:List bV)++b).set (sY c) (bV.mk a.jW a.cW a.cO a.pg (DM .i64 a.kM d)))
def tP(a:List bV)(d c:Int):A' (List bV):=
 (dW (decide ((([]:List bV).length+a.length)*40<=140737488355328))).bind λ_=>(zg a d).bind λb=>bif decide (b < 0) then q8 c a b gi else (dh c).bind λe=>bif !e then q8 c a b gi else (cM a b).bind λf=>(dh f.kM).bind λg=>q8 c a b (!g)
def uh(d e:Int)(f a:aD)(b:List ak):A' Act:=
 (tP f.aZ d e).bind λc=>ac (Act.mk (aD.mk a.fJ a.bG a.bn a.aH a.bi a.aG c a.be) b)
def mE(Lz:Int->Int->Int->gs->Int->aD->aD->List ak->A' Act)(b c d:Int)(e:gs)(f:Int)(g i:aD)(a:List ak):A' Act:=
 Lz b c d e (aS .i64 f 1) g i a
def i5(kR:Nat)(i f j:Int)(b:gs)(c:Int)(a k:aD)(g:List ak):A' Act:=match kR with
  | 0=>cl
  | kR+1=>bif decide (c < (b.length:Int)) then (cM b c).bind λl=>(sH a.aH a.bi l).bind λd=>bif d.2 then (cM b c).bind λm=>(pT a.aH.aR m d.1).bind λn=>(gY i f n).bind λe=>(dW (decide ((g.length+[e].length)*40<=140737488355328))).bind λ_=>mE (i5 kR) i f j b c a k (g++[e]) else mE (i5 kR) i f j b c a k g else uh f j a k g
def u7(a:aD)(d b:Int):A' Act:=
 (ff a).bind λe=>(zC a).bind λf=>(zD a.aZ b f).bind λc=>(As c).bind λg=>i5 u d b c g 0 a e ([]:List ak)
def Dx(e a b:Int)(f:gs)(c d:aD)(s:List ak):A' Act:=uh a b c d s
def Dy(d e m:Int)(f:gs)(a n:aD)(g:Int)(i:Nat)(s:List ak)(o:List ak->A' Act):A' Act:=(sH a.aH a.bi g).bind λb=>bif b.2 then (cM f (i:Int)).bind λj=>(pT a.aH.aR j b.1).bind λk=>(gY d e k).bind λc=>(dW (decide ((s.length+[c].length)*40<=140737488355328))).bind λ_=>mE (λp q r t v w x l=>o l) d e m f (i:Int) a n (s++[c]) else mE (λp q r t v w x l=>o l) d e m f (i:Int) a n s
theorem Lg(b c d:Int)(a:gs)(e f:aD)(s:List ak)(k:Nat)(hn:a.length<=9223372036854775807)(hk:a.length < k):i5 k b c d a 0 e f s=Pu.bT (Dx b c d a e f) (Dy b c d a e f) a 0 s:=Pu.cn (λk s i=>i5 k b c d a i e f s) hn (λ_ _ _=>rfl) s hk
def sI(a:aD)(c:List bV)(b:List ak):A' Act:=
 ac (Act.mk (aD.mk a.fJ a.bG a.bn a.aH a.bi a.aG c a.be) b)
def sJ(c:aD)(d:List bV)(a:Act)(b:List ak):A' Act:=
 ac (Act.mk a.fN b)
def th(b:aD)(e c:Int)(g:jc):A' Act:=
 (ff b).bind λa=>bif c == e then ac (Act.mk a ([]:List ak)) else (G1 b.aZ c g.cW g.cO).bind λf=>bif b.aG == 0 then (gY e c (jc.mk 4 0 (af.mk 0 0 0 []) 0 0 0 [])).bind λi=>(dW (decide ((([]:List ak).length+[i].length)*40<=140737488355328))).bind λ_=>sI a f (([]:List ak)++[i]) else bif g.aR != b.aH.aR then (gY e c (jc.mk 1 0 b.aH 0 0 0 [])).bind λj=>(dW (decide ((([]:List ak).length+[j].length)*40<=140737488355328))).bind λ_=>sI a f (([]:List ak)++[j]) else (u7 (aD.mk a.fJ a.bG a.bn a.aH a.bi a.aG f a.be) e c).bind λd=>bif (d.m9.length:Int) == 0 then (gY e c (jc.mk 4 b.aH.aR (af.mk 0 0 0 []) 0 0 0 [])).bind λk=>(dW (decide ((d.m9.length+[k].length)*40<=140737488355328))).bind λ_=>sJ a f d (d.m9++[k]) else sJ a f d d.m9
def wm(a:ar):A' (Int×gs):=
 (kV a).bind λc=>bif !c then ac (0,([]:gs)) else (sm a a.fR.bW).bind λb=>(dW (cR 0 a.fR.aT b.length)).bind λ_=>(dW (decide ((([]:gs).length+((b.take (sY a.fR.aT)).drop (sY 0)).length)*1<=140737488355328))).bind λ_=>ac (a.fR.aR,([]:gs)++((b.take (sY a.fR.aT)).drop (sY 0)))
def yD(a:aD)(c:af)(d:aW)(b:Int):A' aD:=
 ac (aD.mk a.fJ a.bG a.bn c d b a.aZ a.be)
def yE(a:Bool)(b:aD)(c:af)(d:aW):A' aD:=
 bif a then yD b c d 5 else yD b c d 1
def yF(f:Bool)(g:ar)(a:af)(b:aD):A' aD:=
 bif f then ac b else (wm g).bind λc=>(pN a).bind λd=>(lZ a c.2).bind λe=>bif c.1 == a.aR then (Bt a c.2).bind λi=>yE i b d e else yE go b d e
def At(b:aD)(d:ar)(a:af):A' aD:=
 (ff b).bind λc=>bif b.aG != 0 then (nr b.aH a).bind λe=>bif !e then (nu b).bind λf=>ac f else ac c else (kj a).bind λg=>bif !g then yF gi d a c else yF (a.aR == 0) d a c
def wq(c:Bool)(a:Int)(b:gs):A' (aW×Bool):=
 bif c then ac ((aW.mk a b),go) else ac ((aW.mk a b),gi)
def xJ(c:af)(d:aW)(e:Int)(f:gs):A' (aW×Bool):=
 (sf d).bind λa=>(pU c d).bind λg=>bif !g then wq gi a.bc a.bE else (zb c a e f).bind λb=>wq (!b.1) b.2.bc b.2.bE
def yG(a:aD)(b:List bV)(c:List ak):A' Act:=
 ac (Act.mk (aD.mk a.fJ a.bG a.bn a.aH a.bi a.aG b a.be) c)
def yH(uy:Int->Int->(gs×Bool)->Int->aD->aD->List bV->List ak->A' Act)(c d:Int)(e:gs×Bool)(f:Int)(g i:aD)(a:List bV)(b:List ak):A' Act:=
 uy c d e (aS .i64 f 1) g i a b
def pA(uy:Int->Int->(gs×Bool)->Int->aD->aD->List bV->List ak->A' Act)(g b:Int)(i:gs×Bool)(j:Int)(k:Bool)(c l:aD)(e:List bV)(f:List ak):A' Act:=
 bif k then (cM c.aZ j).bind λa=>(zC c).bind λm=>(zD e a.jW m).bind λn=>(gH n b).bind λo=>bif o then (pT c.aH.aR b i.1).bind λp=>(gY g a.jW p).bind λd=>(dW (decide ((f.length+[d].length)*40<=140737488355328))).bind λ_=>(ke 0 b).bind λq=>(tP e a.jW q).bind λr=>yH uy g b i j c l r (f++[d]) else yH uy g b i j c l e f else yG l e f
def gU(kL:Nat)(d e:Int)(a:gs×Bool)(b:Int)(c f:aD)(g:List bV)(i:List ak):A' Act:=match kL with
  | 0=>cl
  | kL+1=>bif decide (b < (c.aZ.length:Int)) then pA (gU kL) d e a b a.2 c f g i else pA (gU kL) d e a b go c f g i
def Au(a:aD)(d b:Int):A' Act:=
 (ff a).bind λc=>(sH a.aH a.bi b).bind λe=>gU u d b e 0 a c c.aZ ([]:List ak)
def wu(e:Int)(f:Bool)(a:aD)(c:jc):A' Act:=
 bif f then (nu a).bind λg=>ac (Act.mk g ([]:List ak)) else (gH a.bi.bc c.fI).bind λi=>bif i then (ff a).bind λj=>ac (Act.mk j ([]:List ak)) else (xJ a.aH a.bi c.fI c.fB).bind λd=>bif !d.2 then (nu a).bind λk=>ac (Act.mk k ([]:List ak)) else (ff a).bind λb=>(Au (aD.mk b.fJ b.bG b.bn b.aH d.1 b.aG b.aZ b.be) e c.fI).bind λl=>ac l
def xK(a:aD)(c:Int)(b:jc):A' Act:=
 bif a.aG == 0 then wu c gi a b else wu c (b.aR != a.aH.aR) a b
def q9(g:Bool)(i j:Int)(k l m:Int)(a:List dR)(b:Int)(c:gs)(d:Int)(e:List bV)(f:Int):A' Act:=
 ac (Act.mk (aD.mk g i j (af.mk k l m a) (aW.mk b c) d e f) ([]:List ak))
def xL(d:aD)(e:Int)(f:ar)(c:jc):A' Act:=
 (ff d).bind λa=>bif c.bH == 1 then (At (aD.mk a.fJ a.bG 0 a.aH a.bi a.aG a.aZ a.be) f c.aH).bind λb=>q9 b.fJ b.bG b.bn b.aH.aR b.aH.au b.aH.aT b.aH.aI b.bi.bc b.bi.bE b.aG b.aZ b.be else bif c.bH == 3 then (xK (aD.mk a.fJ a.bG 0 a.aH a.bi a.aG a.aZ a.be) e c).bind λg=>ac g else bif c.bH == 2 then q9 a.fJ a.bG 0 a.aH.aR a.aH.au a.aH.aT a.aH.aI a.bi.bc a.bi.bE a.aG a.aZ (aS .i64 a.be 1) else q9 a.fJ a.bG 0 a.aH.aR a.aH.au a.aH.aT a.aH.aI a.bi.bc a.bi.bE a.aG a.aZ a.be
def Av(c:Int)(e:Bool)(a:aD)(f:ar)(d:ak)(b:jc×Bool):A' Act:=
 bif e then (nu a).bind λg=>ac (Act.mk g ([]:List ak)) else bif b.1.bH == 2 then (th a c d.dy b.1).bind λi=>ac i else bif d.dy == a.bG then (xL a c f b.1).bind λj=>ac j else (nu a).bind λk=>ac (Act.mk k ([]:List ak))
def G2(f:bD)(c:Int)(b:aD)(e:ar)(a:ak):A' Act:=
 bif !b.fJ then (ff b).bind λg=>ac (Act.mk g ([]:List ak)) else (nE a.fB).bind λd=>bif !d.2 then Av c gi b e a d else (bK a.dy 0 (ew .i64 (f.bl.length:Int) 1)).bind λi=>bif !i then Av c gi b e a d else Av c (a.dy == c) b e a d
def nw(a:World)(b:Int):A' World:=
 (cM a.bj b).bind λc=>(dW (cR 0 b a.bj.length)).bind λ_=>(dW (decide ((([]:List ak).length+((a.bj.take (sY b)).drop (sY 0)).length)*40<=140737488355328))).bind λ_=>(dW (cR (aS .i64 b 1) (a.bj.length:Int) a.bj.length)).bind λ_=>(dW (decide (((([]:List ak)++((a.bj.take (sY b)).drop (sY 0))).length+((a.bj.take (sY (a.bj.length:Int))).drop (sY (aS .i64 b 1))).length)*40<=140737488355328))).bind λ_=>(cM a.fN c.s4).bind λf=>(cM a.fD c.s4).bind λg=>(G2 a.fT c.s4 f g c).bind λe=>(cM a.fN c.s4).bind λi=>(pW (World.mk a.fC a.fT a.bI a.bt (a.fN.set (sY c.s4) e.fN) a.fD ((([]:List ak)++((a.bj.take (sY b)).drop (sY 0)))++((a.bj.take (sY (a.bj.length:Int))).drop (sY (aS .i64 b 1)))) a.cY a.bk) e.m9).bind λd=>ac d
def Gr(a:aD):A' aD:=
 ac (aD.mk go 0 0 (af.mk 0 0 0 []) (aW.mk 0 []) 0 [] 0)
def HW(a b:gs)(c d e:Int)(f:List dv):A' ar:=
 ac (ar.mk a b (ed.mk c d e) ([]:List dv))
def wv(W5:Int->Int->ar->gs->gs->Int->Int->Int->List dv->A' ar)(i a:Int)(j:ar)(b c:gs)(d e f:Int)(g:List dv):A' ar:=
 W5 i (aS .i64 a 1) j b c d e f g
def pX(rO:Nat)(k b:Int)(j:ar)(c d:gs)(e f g:Int)(i:List dv):A' ar:=match rO with
  | 0=>cl
  | rO+1=>bif decide (b < (j.fP.length:Int)) then (gH k b).bind λl=>bif l then (cM j.fP b).bind λm=>(mb (ar.mk c d (ed.mk e f g) i) m).bind λa=>wv (pX rO) k b j a.fA a.fB a.fR.aR a.fR.bW a.fR.aT a.fP else wv (pX rO) k b j c d e f g i else HW c d e f g i
def G3(b:ar)(c:Int):A' ar:=
 (f0 b).bind λa=>(kV b).bind λd=>bif !d then ac a else pX u c 0 b a.fA a.fB a.fR.aR a.fR.bW a.fR.aT a.fP
def Jr(a:Int)(b:ar)(s:gs×gs×Int×Int×Int×(List dv)):A' ar:=HW s.1 s.2.1 s.2.2.1 s.2.2.2.1 s.2.2.2.2.1 s.2.2.2.2.2
def EH(c:Int)(d:ar)(b:Nat)(s:gs×gs×Int×Int×Int×(List dv))(n:(gs×gs×Int×Int×Int×(List dv))->A' ar):A' ar:=(gH c (b:Int)).bind λe=>bif e then (cM d.fP (b:Int)).bind λf=>(mb (ar.mk s.1 s.2.1 (ed.mk s.2.2.1 s.2.2.2.1 s.2.2.2.2.1) s.2.2.2.2.2) f).bind λa=>wv (λo p q g i j k l m=>n (g,i,j,k,l,m)) c (b:Int) d a.fA a.fB a.fR.aR a.fR.bW a.fR.aT a.fP else wv (λo p q g i j k l m=>n (g,i,j,k,l,m)) c (b:Int) d s.1 s.2.1 s.2.2.1 s.2.2.2.1 s.2.2.2.2.1 s.2.2.2.2.2
theorem UH(b:Int)(a:ar)(s:gs×gs×Int×Int×Int×(List dv))(k:Nat)(hn:((a.fP.length:Int):Int)<=9223372036854775807)(hk:sY (a.fP.length:Int) < k):pX k b 0 a s.1 s.2.1 s.2.2.1 s.2.2.2.1 s.2.2.2.2.1 s.2.2.2.2.2=Pu.rr (Jr b a) (EH b a) (sY (a.fP.length:Int)) 0 s:=Pu.ue (λk s i=>pX k b i a s.1 s.2.1 s.2.2.1 s.2.2.2.1 s.2.2.2.2.1 s.2.2.2.2.2) hn (λ_ _ _=>rfl) s hk
def G4(a:ar)(b:Int):A' ar:=
 (G3 a b).bind λc=>ac c
def qk(a:World)(b:ak):A' Bool:=
 (bK b.dy 0 (ew .i64 (a.fN.length:Int) 1)).bind λc=>bif c then (bK b.s4 0 (ew .i64 (a.fN.length:Int) 1)).bind λd=>ac d else ac go
def tQ(g:Bool)(i j:Int)(k l:Int)(m n:gs)(a:List aX)(b:List aD)(c:List ar)(d:List ak)(e:List eJ)(f:Int):A' (Bool×World):=
 ac (g,(World.mk (fq.mk i j k l) (bD.mk m) n a b c d e f))
def tR(i:Bool)(j k:Int)(l m:Int)(n a:gs)(b:List aX)(c:List aD)(d:List ar)(e:List ak)(f:List eJ)(g:Int):A' (Bool×World):=
 ac (i,(World.mk (fq.mk j k l m) (bD.mk n) a b c d e f g))
def tS(b:Bool)(a:World)(c:List ak)(d:Int):A' (Bool×World):=
 ac (b,(World.mk a.fC a.fT a.bI a.bt a.fN a.fD c a.cY d))
def nH(c:Bool)(d:du)(b:World):A' (Bool×World):=
 bif c then ac (go,b) else (cM b.bj d.fN).bind λa=>(dW (decide ((([]:gs).length+a.fB.length)*1<=140737488355328))).bind λ_=>(dW (decide ((b.bj.length+([(ak.mk a.dy a.s4 (([]:gs)++a.fB))]).length)*40<=140737488355328))).bind λ_=>ac (gi,(World.mk b.fC b.fT b.bI b.bt b.fN b.fD (b.bj++([(ak.mk a.dy a.s4 (([]:gs)++a.fB))])) b.cY b.bk))
def lO(c:Bool)(b:du)(a:World):A' (Bool×World):=
 bif c then ac (go,a) else (cM a.fN b.fN).bind λd=>(Gr d).bind λe=>(cM a.fN b.fN).bind λi=>(cM a.fD b.fN).bind λf=>(G4 f b.fS).bind λg=>(cM a.fD b.fN).bind λj=>ac (gi,(World.mk a.fC a.fT a.bI a.bt (a.fN.set (sY b.fN) e) (a.fD.set (sY b.fN) g) a.bj a.cY a.bk))
def lP(b:Bool)(c:du)(a:World):A' (Bool×World):=
 bif b then ac (go,a) else (qe a.fT c.fN).bind λd=>(cM a.fN c.fN).bind λe=>ac (gi,(World.mk a.fC a.fT a.bI a.bt (a.fN.set (sY c.fN) d) a.fD a.bj a.cY a.bk))
def nI(c:Bool)(b:du)(a:World):A' (Bool×World):=
 bif c then ac (go,a) else (dW (decide ((([]:gs).length+b.fP.fB.length)*1<=140737488355328))).bind λ_=>(dW (decide ((a.bj.length+([(ak.mk b.fP.dy b.fP.s4 (([]:gs)++b.fP.fB))]).length)*40<=140737488355328))).bind λ_=>ac (gi,(World.mk a.fC a.fT a.bI a.bt a.fN a.fD (a.bj++([(ak.mk b.fP.dy b.fP.s4 (([]:gs)++b.fP.fB))])) a.cY a.bk))
def sK(a:World)(b:du):A' (Bool×World):=
 (bK b.fN 0 (ew .i64 (a.fN.length:Int) 1)).bind λf=>(bK b.fN 0 (ew .i64 (a.bj.length:Int) 1)).bind λe=>bif b.bH == 1 then bif f then (nt a b.fN).bind λc=>tQ f c.fC.au c.fC.aP c.fC.aK c.fC.aN c.fT.bl c.bI c.bt c.fN c.fD c.bj c.cY c.bk else tQ f a.fC.au a.fC.aP a.fC.aK a.fC.aN a.fT.bl a.bI a.bt a.fN a.fD a.bj a.cY a.bk else bif b.bH == 2 then bif e then (nw a b.fN).bind λd=>tR e d.fC.au d.fC.aP d.fC.aK d.fC.aN d.fT.bl d.bI d.bt d.fN d.fD d.bj d.cY d.bk else tR e a.fC.au a.fC.aP a.fC.aK a.fC.aN a.fT.bl a.bI a.bt a.fN a.fD a.bj a.cY a.bk else bif b.bH == 3 then bif e then (dW (cR 0 b.fN a.bj.length)).bind λ_=>(dW (decide ((([]:List ak).length+((a.bj.take (sY b.fN)).drop (sY 0)).length)*40<=140737488355328))).bind λ_=>(dW (cR (aS .i64 b.fN 1) (a.bj.length:Int) a.bj.length)).bind λ_=>(dW (decide (((([]:List ak)++((a.bj.take (sY b.fN)).drop (sY 0))).length+((a.bj.take (sY (a.bj.length:Int))).drop (sY (aS .i64 b.fN 1))).length)*40<=140737488355328))).bind λ_=>tS e a ((([]:List ak)++((a.bj.take (sY b.fN)).drop (sY 0)))++((a.bj.take (sY (a.bj.length:Int))).drop (sY (aS .i64 b.fN 1)))) (aS .i64 a.bk 1) else tS e a a.bj a.bk else bif b.bH == 4 then bif !e then nH gi b a else nH (decide ((a.bj.length:Int)>=400)) b a else bif b.bH == 5 then bif !f then lO gi b a else bif b.fN == 0 then lO gi b a else (cM a.fN b.fN).bind λj=>lO (!j.fJ) b a else bif b.bH == 6 then bif !f then lP gi b a else bif b.fN == 0 then lP gi b a else (cM a.fN b.fN).bind λg=>lP g.fJ b a else bif b.bH == 7 then (qk a b.fP).bind λi=>bif !i then nI gi b a else nI (decide ((a.bj.length:Int)>=400)) b a else ac (go,a)
def u9(a:List du)(b:gs)(c d:Int)(e f:Int)(g i:Int)(j k:gs)(l:List aX)(m:List aD)(n:List ar)(o:List ak)(p:List eJ)(q:Int)(r:World×aL):A' (World×(List du)×World×aL):=
 ac (r.1,a,(World.mk (fq.mk e f g i) (bD.mk j) k l m n o p q),(aL.mk b c d))
def ji(RY:List du->Int->gs->Int->Int->Int->Int->Int->Int->gs->gs->List aX->List aD->List ar->List ak->List eJ->Int->(World×aL)->A' (World×(List du)×World×aL))(c:List du)(t:Int)(v:Bool)(q:gs)(r s:Int)(d e:Int)(f g:Int)(i j:gs)(k:List aX)(l:List aD)(m:List ar)(n:List ak)(o:List eJ)(p:Int)(w:World×aL):A' (World×(List du)×World×aL):=
 bif v then (sF (aL.mk q r s) (World.mk (fq.mk d e f g) (bD.mk i) j k l m n o p)).bind λb=>(dW (decide ((c.length+[b.1].length)*64<=140737488355328))).bind λ_=>(sK (World.mk (fq.mk d e f g) (bD.mk i) j k l m n o p) b.1).bind λa=>RY (c++[b.1]) (ew .i64 t 1) b.2.fB b.2.fI b.2.fH a.2.fC.au a.2.fC.aP a.2.fC.aK a.2.fC.aN a.2.fT.bl a.2.bI a.2.bt a.2.fN a.2.fD a.2.bj a.2.cY a.2.bk w else u9 c q r s d e f g i j k l m n o p w
def et(jR:Nat)(a:List du)(b:Int)(c:gs)(d e:Int)(f g:Int)(i j:Int)(k l:gs)(m:List aX)(n:List aD)(o:List ar)(p:List ak)(q:List eJ)(r:Int)(s:World×aL):A' (World×(List du)×World×aL):=match jR with
  | 0=>cl
  | jR+1=>bif decide (b > 0) then ji (et jR) a b (decide ((a.length:Int) < 400)) c d e f g i j k l m n o p q r s else ji (et jR) a b go c d e f g i j k l m n o p q r s
def vd(d:aL)(e:Int):A' (World×(List du)×World×aL):=
 (zw d).bind λc=>(sD c.1).bind λa=>(bd c.2 e).bind λb=>et u ([]:List du) (aS .i64 5 b.1) b.2.fB b.2.fI b.2.fH a.fC.au a.fC.aP a.fC.aK a.fC.aN a.fT.bl a.bI a.bt a.fN a.fD a.bj a.cY a.bk c
def lQ(b:aL)(c:Int):A' (World×aL):=
 (vd b c).bind λa=>ac (a.2.2.1,a.2.2.2)
def xM(i:aL):A' (dv×aL):=
 (ir i 4).bind λa=>bif a.1 then (bd a.2 4).bind λb=>(bd b.2 2).bind λc=>(bd c.2 6).bind λd=>ac ((dv.mk 2 0 [] (ed.mk b.1 c.1 d.1)),d.2) else (bd a.2 2).bind λe=>(bd e.2 9).bind λf=>(js f.2 5).bind λg=>ac ((dv.mk e.1 f.1 g.1 (ed.mk 0 0 0)),g.2)
def EI(a b:gs)(c d e:Int)(f:List dv)(g:gs)(i j:Int):A' (ar×aL):=
 ac ((ar.mk a b (ed.mk c d e) f),(aL.mk g i j))
def ve(wS:Int->gs->gs->Int->Int->Int->List dv->gs->Int->Int->A' (ar×aL))(b:Int)(c d:gs)(e f g:Int)(i:List dv)(a:Bool×aL):A' (ar×aL):=
 wS (ew .i64 b 1) c d e f g i a.2.fB a.2.fI a.2.fH
def vg(wS:Int->gs->gs->Int->Int->Int->List dv->gs->Int->Int->A' (ar×aL))(c:Int)(e:Bool)(a:ar×Bool)(d:Bool×aL)(b:ar):A' (ar×aL):=
 bif e then ve wS c b.fA b.fB b.fR.aR b.fR.bW b.fR.aT b.fP d else ve wS c a.1.fA a.1.fB a.1.fR.aR a.1.fR.bW a.1.fR.aT a.1.fP d
def jj(lG:Nat)(a:Int)(e f:gs)(g i j:Int)(k:List dv)(l:gs)(m n:Int):A' (ar×aL):=match lG with
  | 0=>cl
  | lG+1=>bif decide (a > 0) then (xM (aL.mk l m n)).bind λo=>(sG (ar.mk e f (ed.mk g i j) k) o.1).bind λb=>(tN b.1).bind λc=>(ir o.2 5).bind λd=>bif d.1 then (kV c).bind λp=>vg (jj lG) a p b d c else vg (jj lG) a go b d c else EI e f g i j k l m n
def Ct(e:aL):A' (ar×aL):=
 (bd e 3).bind λc=>(js c.2 9).bind λd=>(ic c.1 d.1).bind λa=>(bd d.2 5).bind λb=>jj u b.1 a.fA a.fB a.fR.aR a.fR.bW a.fR.aT a.fP b.2.fB b.2.fI b.2.fH
def ql(f:ar×aL)(g i a:Int)(b:List dv)(c:gs)(d e:Int):A' (ar×aL):=
 ac ((ar.mk f.1.fA f.1.fB (ed.mk g i a) b),(aL.mk c d e))
def BD(i:aL):A' (ar×aL):=
 (Ct i).bind λa=>(bd a.2 12).bind λb=>bif b.1 == 0 then (fo b.2 ([-1,0,240,241]:gs)).bind λd=>ql a a.1.fR.aR a.1.fR.bW d.1 a.1.fP d.2.fB d.2.fI d.2.fH else bif b.1 == 1 then (fo b.2 ([-1,1,2]:gs)).bind λe=>ql a a.1.fR.aR e.1 a.1.fR.aT a.1.fP e.2.fB e.2.fI e.2.fH else bif b.1 == 2 then (fo b.2 ([-1,1000001]:gs)).bind λf=>ql a f.1 a.1.fR.bW a.1.fR.aT a.1.fP f.2.fB f.2.fI f.2.fH else bif b.1 == 3 then (fo b.2 ([3,0,2]:gs)).bind λg=>(fo g.2 ([-1,240,0]:gs)).bind λc=>(dW (decide ((a.1.fP.length+([(dv.mk g.1 c.1 ([1]:gs) (ed.mk 0 0 0))]).length)*64<=140737488355328))).bind λ_=>ql a a.1.fR.aR a.1.fR.bW a.1.fR.aT (a.1.fP++([(dv.mk g.1 c.1 ([1]:gs) (ed.mk 0 0 0))])) c.2.fB c.2.fI c.2.fH else ql a a.1.fR.aR a.1.fR.bW a.1.fR.aT a.1.fP b.2.fB b.2.fI b.2.fH
def nJ(f g a:Int)(b:List dR)(c:gs)(d e:Int):A' (af×aL):=
 ac ((af.mk f g a b),(aL.mk c d e))
def BE(e:aL):A' (af×aL):=
 (sg e).bind λa=>(bd a.2.2 10).bind λb=>bif b.1 == 0 then (fo b.2 ([0,-1,1000000,1000001]:gs)).bind λc=>nJ c.1 a.1.au a.1.aT a.1.aI c.2.fB c.2.fI c.2.fH else bif b.1 == 1 then (fo b.2 ([0,1,7]:gs)).bind λd=>nJ a.1.aR d.1 a.1.aT a.1.aI d.2.fB d.2.fI d.2.fH else bif b.1 == 2 then nJ a.1.aR a.1.au (aS .i64 a.1.aT 1) a.1.aI b.2.fB b.2.fI b.2.fH else bif b.1 == 3 then (dW (decide ((a.1.aI.length+([(dR.mk 1 257)]).length)*16<=140737488355328))).bind λ_=>nJ a.1.aR a.1.au a.1.aT (a.1.aI++([(dR.mk 1 257)])) b.2.fB b.2.fI b.2.fH else bif b.1 == 4 then bif decide ((a.1.aI.length:Int) > 0) then (cM a.1.aI 0).bind λf=>(cM a.1.aI 0).bind λg=>nJ a.1.aR a.1.au a.1.aT (a.1.aI.set (sY 0) (dR.mk (aS .i64 f.fW 1) g.fS)) b.2.fB b.2.fI b.2.fH else nJ a.1.aR a.1.au a.1.aT a.1.aI b.2.fB b.2.fI b.2.fH else nJ a.1.aR a.1.au a.1.aT a.1.aI b.2.fB b.2.fI b.2.fH
def eR(a:gs)(b c:Int)(d e:Int)(f g:Int)(i j:gs)(k:List aX)(l:List aD)(m:List ar)(n:List ak)(p:World×aL)(o:Int):A' (World×aL):=
 ac ((World.mk (fq.mk d e f g) (bD.mk i) j k l m n p.1.cY o),(aL.mk a b c))
def zE(t:aL)(v:Int):A' (World×aL):=
 (lQ t v).bind λa=>(bd a.2 (a.1.fN.length:Int)).bind λc=>(bd c.2 40).bind λb=>bif b.1 == 0 then (zx b.2).bind λk=>eR k.2.fB k.2.fI k.2.fH k.1.au k.1.aP k.1.aK k.1.aN a.1.fT.bl a.1.bI a.1.bt a.1.fN a.1.fD a.1.bj a a.1.bk else bif b.1 == 1 then (zy b.2).bind λo=>eR o.2.fB o.2.fI o.2.fH a.1.fC.au a.1.fC.aP a.1.fC.aK a.1.fC.aN o.1.bl a.1.bI a.1.bt a.1.fN a.1.fD a.1.bj a a.1.bk else bif b.1 == 2 then (pJ b.2).bind λp=>eR p.2.fB p.2.fI p.2.fH a.1.fC.au a.1.fC.aP a.1.fC.aK a.1.fC.aN a.1.fT.bl p.1 a.1.bt a.1.fN a.1.fD a.1.bj a a.1.bk else bif b.1 == 3 then (bd b.2 7).bind λq=>(cM a.1.fN c.1).bind λl=>eR q.2.fB q.2.fI q.2.fH a.1.fC.au a.1.fC.aP a.1.fC.aK a.1.fC.aN a.1.fT.bl a.1.bI a.1.bt (a.1.fN.set (sY c.1) (aD.mk l.fJ l.bG l.bn l.aH l.bi q.1 l.aZ l.be)) a.1.fD a.1.bj a a.1.bk else bif b.1 == 4 then (bd b.2 7).bind λr=>(cM a.1.fN c.1).bind λd=>eR r.2.fB r.2.fI r.2.fH a.1.fC.au a.1.fC.aP a.1.fC.aK a.1.fC.aN a.1.fT.bl a.1.bI a.1.bt (a.1.fN.set (sY c.1) (aD.mk d.fJ (ew .i64 r.1 1) d.bn d.aH d.bi d.aG d.aZ d.be)) a.1.fD a.1.bj a a.1.bk else bif b.1 == 5 then (BD b.2).bind λi=>(cM a.1.fD c.1).bind λw=>eR i.2.fB i.2.fI i.2.fH a.1.fC.au a.1.fC.aP a.1.fC.aK a.1.fC.aN a.1.fT.bl a.1.bI a.1.bt a.1.fN (a.1.fD.set (sY c.1) i.1) a.1.bj a a.1.bk else bif b.1 == 6 then (BE b.2).bind λj=>(cM a.1.fN c.1).bind λe=>eR j.2.fB j.2.fI j.2.fH a.1.fC.au a.1.fC.aP a.1.fC.aK a.1.fC.aN a.1.fT.bl a.1.bI a.1.bt (a.1.fN.set (sY c.1) (aD.mk e.fJ e.bG e.bn j.1 e.bi e.aG e.aZ e.be)) a.1.fD a.1.bj a a.1.bk else bif b.1 == 7 then (bd b.2 9).bind λm=>(bd m.2 9).bind λg=>(dW (decide ((a.1.bj.length+([(ak.mk (ew .i64 m.1 1) (ew .i64 g.1 1) [])]).length)*40<=140737488355328))).bind λ_=>eR g.2.fB g.2.fI g.2.fH a.1.fC.au a.1.fC.aP a.1.fC.aK a.1.fC.aN a.1.fT.bl a.1.bI a.1.bt a.1.fN a.1.fD (a.1.bj++([(ak.mk (ew .i64 m.1 1) (ew .i64 g.1 1) [])])) a a.1.bk else bif b.1 == 8 then eR b.2.fB b.2.fI b.2.fH a.1.fC.au a.1.fC.aP a.1.fC.aK a.1.fC.aN a.1.fT.bl a.1.bI a.1.bt a.1.fN a.1.fD a.1.bj a (-1) else bif b.1 == 9 then (dW (cR 1 (a.1.fD.length:Int) a.1.fD.length)).bind λ_=>eR b.2.fB b.2.fI b.2.fH a.1.fC.au a.1.fC.aP a.1.fC.aK a.1.fC.aN a.1.fT.bl a.1.bI a.1.bt a.1.fN ((a.1.fD.take (sY (a.1.fD.length:Int))).drop (sY 1)) a.1.bj a a.1.bk else bif b.1 == 10 then (cM a.1.fN c.1).bind λs=>(cM a.1.fN c.1).bind λf=>eR b.2.fB b.2.fI b.2.fH a.1.fC.au a.1.fC.aP a.1.fC.aK a.1.fC.aN a.1.fT.bl a.1.bI a.1.bt (a.1.fN.set (sY c.1) (aD.mk (!s.fJ) f.bG f.bn f.aH f.bi f.aG f.aZ f.be)) a.1.fD a.1.bj a a.1.bk else bif b.1 == 11 then (cM a.1.bt c.1).bind λn=>(dW (decide ((n.fB.length+([1]:gs).length)*1<=140737488355328))).bind λ_=>(cM a.1.bt c.1).bind λx=>eR b.2.fB b.2.fI b.2.fH a.1.fC.au a.1.fC.aP a.1.fC.aK a.1.fC.aN a.1.fT.bl a.1.bI (a.1.bt.set (sY c.1) (aX.mk (n.fB++([1]:gs)))) a.1.fN a.1.fD a.1.bj a a.1.bk else eR b.2.fB b.2.fI b.2.fH a.1.fC.au a.1.fC.aP a.1.fC.aK a.1.fC.aN a.1.fT.bl a.1.bI a.1.bt a.1.fN a.1.fD a.1.bj a a.1.bk
def Aw(b:gs)(c:Int):A' (aL×World):=
 (uL b).bind λd=>(zE d c).bind λa=>ac (a.2,a.1)
def rc(a:gs):A' World:=
 (Aw a 80).bind λb=>ac b.2
def Cv(a:gs)(b:Int):A' Int:=
 bif decide (aS .i64 3 (Xf .i64 (a.length:Int) 12) > b) then ac b else ac (aS .i64 3 (Xf .i64 (a.length:Int) 12))
def vh(a:gs):A' World:=
 (uL a).bind λb=>(Cv a 120).bind λc=>(lQ b (aS .i64 60 c)).bind λd=>ac d.1
def C2(i:af×gs×aL)(j:gs×aL)(a:Int)(k:Int×aL)(b c:gs)(d e f:Int)(g:List dv)(l:Int)(m:gs):A' (ar×af×aW×Int×gs×gs×aL):=
 ac ((ar.mk b c (ed.mk d e f) g),i.1,(aW.mk l m),a,j.1,i.2.1,k.2)
def m0(uF:Nat)(k:af×gs×aL)(n:gs×aL)(b c:Int)(o:Int×aL)(d e:gs)(f g i:Int)(j:List dv)(l:Int)(m:gs):A' (ar×af×aW×Int×gs×gs×aL):=match uF with
  | 0=>cl
  | uF+1=>bif decide (c > 0) then (pz (ar.mk d e (ed.mk f g i) j) k.1 (aW.mk l m) b).bind λa=>m0 uF k n a.2 (ew .i64 c 1) o a.1.fA a.1.fB a.1.fR.aR a.1.fR.bW a.1.fR.aT a.1.fP l m else C2 k n b o d e f g i j l m
def ti(c:af×gs×aL)(d:gs×aL)(e:Bool×aL)(a:ar)(f:Int)(g:gs):A' (ar×af×aW×Int×gs×gs×aL):=
 (bd e.2 5).bind λb=>m0 u c d 1 b.1 b a.fA a.fB a.fR.aR a.fR.bW a.fR.aT a.fP f g
def Ax(g:aL):A' (ar×af×aW×Int×gs×gs×aL):=
 (sg g).bind λa=>(uN a.2.2 a.2.1).bind λb=>(ic 0 b.1).bind λd=>(lZ a.1 a.2.1).bind λe=>(ir b.2 5).bind λc=>bif c.1 then (lZ a.1 b.1).bind λf=>ti a b c d f.bc f.bE else ti a b c d e.bc e.bE
def uc(b:Int)(a:ar×af×aW×Int×gs×gs×aL):A' (ar×af×aW×Int):=
 ac (a.1,a.2.1,a.2.2.1,b)
def ou(c:gs):A' (ar×af×aW×Int):=
 (uL c).bind λd=>(Ax d).bind λa=>(ir a.2.2.2.2.2.2 4).bind λb=>bif b.1 then (bd b.2 8).bind λe=>uc (ew .i64 e.1 1) a else uc a.2.2.2.1 a
def BF  : A' Bool:=
 ac gi
def nU(sT:Nat)(b c:gs)(a:Int):A' Bool:=match sT with
  | 0=>cl
  | sT+1=>bif decide (a < (b.length:Int)) then (cM b a).bind λd=>(cM c a).bind λe=>bif d != e then ac go else nU sT b c (aS .i64 a 1) else BF
def qm(a b:gs):A' Bool:=
 bif (a.length:Int) != (b.length:Int) then ac go else nU u a b 0
def Mh(a b:gs)(s:Unit):A' Bool:=BF
def EJ(f a:gs)(b:Int)(c:Nat)(s:Unit)(d:Unit->A' Bool):A' Bool:=(cM a (c:Int)).bind λe=>bif b != e then ac go else d ()
theorem Mi(a b:gs)(s:Unit)(k:Nat)(hn:a.length<=9223372036854775807)(hk:a.length < k):nU k a b 0=Pu.bT (Mh a b) (EJ a b) a 0 s:=Pu.cn (λk s i=>nU k a b i) hn (λ_ _ _=>rfl) s hk
def HX  : A' Bool:=
 ac gi
def ww(Bl:Nat)(b c:gs)(a:Int):A' Bool:=match Bl with
  | 0=>cl
  | Bl+1=>bif decide (a < (b.length:Int)) then (cM b a).bind λd=>(cM c a).bind λe=>bif d != e then ac go else ww Bl b c (aS .i64 a 1) else HX
def mF(a b:gs):A' Bool:=
 bif (a.length:Int) != (b.length:Int) then ac go else ww u a b 0
def UI(a b:gs)(s:Unit):A' Bool:=HX
def Js(f a:gs)(b:Int)(c:Nat)(s:Unit)(d:Unit->A' Bool):A' Bool:=(cM a (c:Int)).bind λe=>bif b != e then ac go else d ()
theorem UJ(a b:gs)(s:Unit)(k:Nat)(hn:a.length<=9223372036854775807)(hk:a.length < k):ww k a b 0=Pu.bT (UI a b) (Js a b) a 0 s:=Pu.cn (λk s i=>ww k a b i) hn (λ_ _ _=>rfl) s hk
def xb  : A' Bool:=
 ac gi
def hJ(Jo:List ak->List ak->Int->A' Bool)(b c:List ak)(d:Int)(a:Bool):A' Bool:=
 bif a then ac go else Jo b c (aS .i64 d 1)
def gc(ib:Nat)(b c:List ak)(a:Int):A' Bool:=match ib with
  | 0=>cl
  | ib+1=>bif decide (a < (b.length:Int)) then (cM b a).bind λe=>(cM c a).bind λf=>bif e.dy != f.dy then hJ (gc ib) b c a gi else (cM b a).bind λg=>(cM c a).bind λi=>bif g.s4 != i.s4 then hJ (gc ib) b c a gi else (cM b a).bind λj=>(cM c a).bind λk=>(mF j.fB k.fB).bind λd=>hJ (gc ib) b c a (!d) else xb
def rf(a b:List ak):A' Bool:=
 bif (a.length:Int) != (b.length:Int) then ac go else gc u a b 0
def Jf(a b:List ak)(s:Unit):A' Bool:=xb
def Bn(c b:List ak)(j:ak)(a:Nat)(s:Unit)(d:Unit->A' Bool):A' Bool:=(cM b (a:Int)).bind λk=>bif j.dy != k.dy then hJ (λf g i=>d ()) c b (a:Int) gi else (cM c (a:Int)).bind λl=>(cM b (a:Int)).bind λm=>bif l.s4 != m.s4 then hJ (λf g i=>d ()) c b (a:Int) gi else (cM c (a:Int)).bind λn=>(cM b (a:Int)).bind λo=>(mF n.fB o.fB).bind λe=>hJ (λf g i=>d ()) c b (a:Int) (!e)
theorem Jg(a b:List ak)(s:Unit)(k:Nat)(hn:a.length<=9223372036854775807)(hk:a.length < k):gc k a b 0=Pu.bT (Jf a b) (Bn a b) a 0 s:=Pu.cn (λk s i=>gc k a b i) hn (λ_ _ _=>rfl) s hk
def BG  : A' Bool:=
 ac gi
def nV(sV:Nat)(b c:List dR)(a:Int):A' Bool:=match sV with
  | 0=>cl
  | sV+1=>bif decide (a < (b.length:Int)) then (cM b a).bind λd=>(cM c a).bind λe=>bif !([d.fW,d.fS] == [e.fW,e.fS]) then ac go else nV sV b c (aS .i64 a 1) else BG
def xN(a b:List dR):A' Bool:=
 bif (a.length:Int) != (b.length:Int) then ac go else nV u a b 0
def Mj(a b:List dR)(s:Unit):A' Bool:=BG
def EK(f c:List dR)(a:dR)(d:Nat)(s:Unit)(e:Unit->A' Bool):A' Bool:=(cM c (d:Int)).bind λb=>bif !([a.fW,a.fS] == [b.fW,b.fS]) then ac go else e ()
theorem Mk(a b:List dR)(s:Unit)(k:Nat)(hn:a.length<=9223372036854775807)(hk:a.length < k):nV k a b 0=Pu.bT (Mj a b) (EK a b) a 0 s:=Pu.cn (λk s i=>nV k a b i) hn (λ_ _ _=>rfl) s hk
def wx(a b:af):A' Bool:=
 bif a.aR == b.aR then bif a.au == b.au then bif a.aT == b.aT then (xN a.aI b.aI).bind λc=>ac c else ac go else ac go else ac go
def Ay(a b:aW):A' Bool:=
 bif a.bc == b.bc then (mF a.bE b.bE).bind λc=>ac c else ac go
def BH  : A' Bool:=
 ac gi
def nW(sU:Nat)(d e:List bV)(c:Int):A' Bool:=match sU with
  | 0=>cl
  | sU+1=>bif decide (c < (d.length:Int)) then (cM d c).bind λa=>(cM e c).bind λb=>bif !([a.jW,a.cW,a.cO,a.pg,a.kM] == [b.jW,b.cW,b.cO,b.pg,b.kM]) then ac go else nW sU d e (aS .i64 c 1) else BH
def xO(a b:List bV):A' Bool:=
 bif (a.length:Int) != (b.length:Int) then ac go else nW u a b 0
def Ml(a b:List bV)(s:Unit):A' Bool:=BH
def EM(f c:List bV)(a:bV)(d:Nat)(s:Unit)(e:Unit->A' Bool):A' Bool:=(cM c (d:Int)).bind λb=>bif !([a.jW,a.cW,a.cO,a.pg,a.kM] == [b.jW,b.cW,b.cO,b.pg,b.kM]) then ac go else e ()
theorem Mm(a b:List bV)(s:Unit)(k:Nat)(hn:a.length<=9223372036854775807)(hk:a.length < k):nW k a b 0=Pu.bT (Ml a b) (EM a b) a 0 s:=Pu.cn (λk s i=>nW k a b i) hn (λ_ _ _=>rfl) s hk
def tT(a b:aD):A' Bool:=
 bif a.fJ == b.fJ then bif a.bG == b.bG then bif a.bn == b.bn then (wx a.aH b.aH).bind λc=>bif c then (Ay a.bi b.bi).bind λd=>bif d then bif a.aG == b.aG then (xO a.aZ b.aZ).bind λe=>bif e then ac (a.be == b.be) else ac go else ac go else ac go else ac go else ac go else ac go else ac go
def BI  : A' Bool:=
 ac gi
def gZ(Nv:Int->ar->ar->A' Bool)(b:Int)(a:Bool)(c d:ar):A' Bool:=
 bif a then ac go else Nv (aS .i64 b 1) c d
def g9(iB:Nat)(a:Int)(b e:ar):A' Bool:=match iB with
  | 0=>cl
  | iB+1=>bif decide (a < (b.fP.length:Int)) then (cM b.fP a).bind λc=>(cM e.fP a).bind λd=>bif c.fm != d.fm then gZ (g9 iB) a gi b e else bif c.HV != d.HV then gZ (g9 iB) a gi b e else bif !([c.fR.aR,c.fR.bW,c.fR.aT] == [d.fR.aR,d.fR.bW,d.fR.aT]) then gZ (g9 iB) a gi b e else (mF c.fB d.fB).bind λf=>gZ (g9 iB) a (!f) b e else BI
def nX(a:Bool)(b c:ar):A' Bool:=
 bif a then ac go else g9 u 0 b c
def tU(a b:ar):A' Bool:=
 (mF a.fA b.fA).bind λc=>bif !c then nX gi a b else (mF a.fB b.fB).bind λd=>bif !d then nX gi a b else bif !([a.fR.aR,a.fR.bW,a.fR.aT] == [b.fR.aR,b.fR.bW,b.fR.aT]) then nX gi a b else nX ((a.fP.length:Int) != (b.fP.length:Int)) a b
def Mn(a b:ar)(s:Unit):A' Bool:=BI
def EN(e c:ar)(a:dv)(d:Nat)(s:Unit)(f:Unit->A' Bool):A' Bool:=(cM c.fP (d:Int)).bind λb=>bif a.fm != b.fm then gZ (λg i j=>f ()) (d:Int) gi e c else bif a.HV != b.HV then gZ (λg i j=>f ()) (d:Int) gi e c else bif !([a.fR.aR,a.fR.bW,a.fR.aT] == [b.fR.aR,b.fR.bW,b.fR.aT]) then gZ (λg i j=>f ()) (d:Int) gi e c else (mF a.fB b.fB).bind λk=>gZ (λg i j=>f ()) (d:Int) (!k) e c
theorem Mo(a b:ar)(s:Unit)(k:Nat)(hn:a.fP.length<=9223372036854775807)(hk:a.fP.length < k):g9 k 0 a b=Pu.bT (Mn a b) (EN a b) a.fP 0 s:=Pu.cn (λk s i=>g9 k i a b) hn (λ_ _ _=>rfl) s hk
def Az  : A' Bool:=
 ac gi
def mG(qC:Nat)(a:Int)(d e:World):A' Bool:=match qC with
  | 0=>cl
  | qC+1=>bif decide (a < (d.cY.length:Int)) then (cM d.cY a).bind λb=>(cM e.cY a).bind λc=>bif !([b.dy,b.s4,b.fI] == [c.dy,c.s4,c.fI]) then ac go else mG qC (aS .i64 a 1) d e else Az
def ui(a b:World):A' Bool:=
 mG u 0 a b
def mH(qD:Nat)(a:Int)(b c:World):A' Bool:=match qD with
  | 0=>cl
  | qD+1=>bif decide (a < (b.fD.length:Int)) then (cM b.fD a).bind λd=>(cM c.fD a).bind λe=>(tU d e).bind λf=>bif !f then ac go else mH qD (aS .i64 a 1) b c else ui b c
def uj(a b:World):A' Bool:=
 mH u 0 a b
def mI(qE:Nat)(a:Int)(b c:World):A' Bool:=match qE with
  | 0=>cl
  | qE+1=>bif decide (a < (b.fN.length:Int)) then (cM b.fN a).bind λd=>(cM c.fN a).bind λe=>(tT d e).bind λf=>bif !f then ac go else mI qE (aS .i64 a 1) b c else uj b c
def uk(a b:World):A' Bool:=
 mI u 0 a b
def mJ(qF:Nat)(a:Int)(b c:World):A' Bool:=match qF with
  | 0=>cl
  | qF+1=>bif decide (a < (b.bt.length:Int)) then (cM b.bt a).bind λe=>(cM c.bt a).bind λf=>(mF e.fB f.fB).bind λd=>bif !d then ac go else mJ qF (aS .i64 a 1) b c else uk b c
def fE(a:Bool)(b c:World):A' Bool:=
 bif a then ac go else mJ u 0 b c
def vj(a b:World):A' Bool:=
 bif !([a.fC.au,a.fC.aP,a.fC.aK,a.fC.aN] == [b.fC.au,b.fC.aP,b.fC.aK,b.fC.aN]) then fE gi a b else (qm a.fT.bl b.fT.bl).bind λc=>bif !c then fE gi a b else (mF a.bI b.bI).bind λd=>bif !d then fE gi a b else bif (a.bt.length:Int) != (b.bt.length:Int) then fE gi a b else bif (a.fN.length:Int) != (b.fN.length:Int) then fE gi a b else bif (a.fD.length:Int) != (b.fD.length:Int) then fE gi a b else (rf a.bj b.bj).bind λe=>bif !e then fE gi a b else bif (a.cY.length:Int) != (b.cY.length:Int) then fE gi a b else fE (a.bk != b.bk) a b
def Lh(a b:World)(s:Unit):A' Bool:=Az
def Dz(f c:World)(a:eJ)(d:Nat)(s:Unit)(e:Unit->A' Bool):A' Bool:=(cM c.cY (d:Int)).bind λb=>bif !([a.dy,a.s4,a.fI] == [b.dy,b.s4,b.fI]) then ac go else e ()
theorem Li(a b:World)(s:Unit)(k:Nat)(hn:a.cY.length<=9223372036854775807)(hk:a.cY.length < k):mG k 0 a b=Pu.bT (Lh a b) (Dz a b) a.cY 0 s:=Pu.cn (λk s i=>mG k i a b) hn (λ_ _ _=>rfl) s hk
def DA(a b:World)(s:Unit):A' Bool:=ui a b
def DC(g d:World)(a:ar)(e:Nat)(s:Unit)(f:Unit->A' Bool):A' Bool:=(cM d.fD (e:Int)).bind λb=>(tU a b).bind λc=>bif !c then ac go else f ()
theorem Lj(a b:World)(s:Unit)(k:Nat)(hn:a.fD.length<=9223372036854775807)(hk:a.fD.length < k):mH k 0 a b=Pu.bT (DA a b) (DC a b) a.fD 0 s:=Pu.cn (λk s i=>mH k i a b) hn (λ_ _ _=>rfl) s hk
def DD(a b:World)(s:Unit):A' Bool:=uj a b
def DE(g d:World)(a:aD)(e:Nat)(s:Unit)(f:Unit->A' Bool):A' Bool:=(cM d.fN (e:Int)).bind λb=>(tT a b).bind λc=>bif !c then ac go else f ()
theorem Lk(a b:World)(s:Unit)(k:Nat)(hn:a.fN.length<=9223372036854775807)(hk:a.fN.length < k):mI k 0 a b=Pu.bT (DD a b) (DE a b) a.fN 0 s:=Pu.cn (λk s i=>mI k i a b) hn (λ_ _ _=>rfl) s hk
def DF(a b:World)(s:Unit):A' Bool:=uk a b
def DG(g b:World)(c:aX)(d:Nat)(s:Unit)(e:Unit->A' Bool):A' Bool:=(cM b.bt (d:Int)).bind λf=>(mF c.fB f.fB).bind λa=>bif !a then ac go else e ()
theorem Ll(a b:World)(s:Unit)(k:Nat)(hn:a.bt.length<=9223372036854775807)(hk:a.bt.length < k):mJ k 0 a b=Pu.bT (DF a b) (DG a b) a.bt 0 s:=Pu.cn (λk s i=>mJ k i a b) hn (λ_ _ _=>rfl) s hk
def BJ(a:World):A' af:=
 (zd 1 a.bI a.fC.au).bind λb=>ac b
def nY(a:aW):A' Bool:=
 bif a.bc == 0 then ac ((a.bE.length:Int) == 0) else ac go
def yI(a:aD):A' Bool:=
 bif !a.fJ then bif a.bG == 0 then bif a.bn == 0 then (l7 a.aH).bind λb=>bif b then (nY a.bi).bind λc=>bif c then bif a.aG == 0 then bif (a.aZ.length:Int) == 0 then ac (a.be == 0) else ac go else ac go else ac go else ac go else ac go else ac go else ac go
def AA(a:gs):A' gs:=
 ac a
def vk(RP:Int->gs->bD->A' gs)(a:Int)(b:gs)(e:Bool)(d:bD):A' gs:=
 bif e then (dW (decide ((b.length+([a]:gs).length)*8<=140737488355328))).bind λ_=>(cM d.bl a).bind λc=>RP c (b++([a]:gs)) d else AA b
def kv(n9:Nat)(b:Int)(c:gs)(a:bD):A' gs:=match n9 with
  | 0=>cl
  | n9+1=>(gz a b).bind λd=>bif d then vk (kv n9) b c (decide ((c.length:Int) < (a.bl.length:Int))) a else vk (kv n9) b c go a
def Cw(a:bD)(b:Int):A' gs:=
 kv u b ([]:gs) a
def pc  : A' Int:=
 ac (-1)
def gE(jS:Nat)(b:gs)(c a:Int):A' Int:=match jS with
  | 0=>cl
  | jS+1=>bif decide (a < (b.length:Int)) then (cM b a).bind λd=>bif c == d then ac a else gE jS b c (aS .i64 a 1) else pc
def nx(a:gs)(b:Int):A' Int:=
 gE u a b 0
def DX(a:gs)(b:Int)(s:Unit):A' Int:=pc
def ul(e:gs)(a b:Int)(c:Nat)(s:Unit)(d:Unit->A' Int):A' Int:=bif a == b then ac (c:Int) else d ()
theorem DY(a:gs)(b:Int)(s:Unit)(k:Nat)(hn:a.length<=9223372036854775807)(hk:a.length < k):gE k a b 0=Pu.bT (DX a b) (ul a b) a 0 s:=Pu.cn (λk s i=>gE k a b i) hn (λ_ _ _=>rfl) s hk
def iS(a:gs)(b:Int):A' Bool:=
 (nx a b).bind λc=>ac (decide (c>=0))
def tW(c:bD)(a b:Int):A' Bool:=
 bif a != b then (Cw c b).bind λd=>(iS d a).bind λe=>ac e else ac go
def kw(a:Int):A' Bool:=
 (cy a 0 1099511627775).bind λb=>ac b
def wy(a:Int):A' Int:=
 (cy a 0 40).bind λb=>bif !b then ac 0 else (dW (decide (0<=a))).bind λ_=>ac (ew .i64 (mm .i64 1 a) 1)
def tX(a:af):A' Int:=
 (wy (a.aI.length:Int)).bind λb=>ac b
def mK(b:aW)(c:af)(d:Int):A' gs:=
 (kU c.au c.aT d).bind λa=>(dW (cR a.1 (aS .i64 a.1 a.2) b.bE.length)).bind λ_=>ac ((b.bE.take (sY (aS .i64 a.1 a.2))).drop (sY a.1))
def AB(a:Int):A' Bool:=
 (cy a 0 39).bind λb=>ac b
def qn(b a:Int):A' Bool:=
 (kw b).bind λc=>bif c then (AB a).bind λd=>bif d then (dW (decide (0<=a))).bind λ_=>ac (iK .i64 (ng .i64 b a) 1 == 1) else ac go else ac go
def AC(a:Int):A' Bool:=
 ac (a != 0)
def fF  : A' Int:=
 ac (-1)
def cA(dM:Nat)(b:gs)(a:Int):A' Int:=match dM with
  | 0=>cl
  | dM+1=>bif decide (a < (b.length:Int)) then (cM b a).bind λc=>(AC c).bind λd=>bif d then ac a else cA dM b (aS .i64 a 1) else fF
def eA(a:gs):A' Int:=
 cA u a 0
def o5(a:gs)(s:Unit):A' Int:=fF
def o6(e:gs)(a:Int)(b:Nat)(s:Unit)(c:Unit->A' Int):A' Int:=(AC a).bind λd=>bif d then ac (b:Int) else c ()
theorem o7(a:gs)(s:Unit)(k:Nat)(hn:a.length<=9223372036854775807)(hk:a.length < k):cA k a 0=Pu.bT (o5 a) (o6 a) a 0 s:=Pu.cn (λk s i=>cA k a i) hn (λ_ _ _=>rfl) s hk
def bP(a:gs):A' Bool:=
 (eA a).bind λb=>ac (decide (b>=0))
def C3  : A' Bool:=
 ac gi
def gk(PO:af->Int->aW->A' Bool)(b:af)(c:Int)(a:Bool)(d:aW):A' Bool:=
 bif a then ac go else PO b (aS .i64 c 1) d
def gV(ij:Nat)(c:af)(a:Int)(b:aW):A' Bool:=match ij with
  | 0=>cl
  | ij+1=>bif decide (a < (c.aI.length:Int)) then (cM c.aI a).bind λl=>(mK b c a).bind λe=>(qn b.bc a).bind λf=>bif f then (qf e).bind λd=>bif !([d.fW,d.fS] == [l.fW,l.fS]) then gk (gV ij) c a gi b else (qn b.bc a).bind λg=>bif !g then (bP e).bind λi=>gk (gV ij) c a i b else gk (gV ij) c a go b else (qn b.bc a).bind λj=>bif !j then (bP e).bind λk=>gk (gV ij) c a k b else gk (gV ij) c a go b else C3
def pB(a:Bool)(b:af)(c:aW):A' Bool:=
 bif a then ac go else gV u b 0 c
def AD(a:af)(b:aW):A' Bool:=
 (uT a).bind λc=>bif !c then pB gi a b else (kw b.bc).bind λd=>bif !d then pB gi a b else (tX a).bind λe=>bif (yN .i64 b.bc e) != 0 then pB gi a b else pB ((b.bE.length:Int) != a.aT) a b
def NS(a:af)(b:aW)(s:Unit):A' Bool:=C3
def FD(c:af)(a:aW)(p:dR)(b:Nat)(s:Unit)(d:Unit->A' Bool):A' Bool:=(mK a c (b:Int)).bind λj=>(qn a.bc (b:Int)).bind λk=>bif k then (qf j).bind λe=>bif !([e.fW,e.fS] == [p.fW,p.fS]) then gk (λf g i=>d ()) c (b:Int) gi a else (qn a.bc (b:Int)).bind λl=>bif !l then (bP j).bind λm=>gk (λf g i=>d ()) c (b:Int) m a else gk (λf g i=>d ()) c (b:Int) go a else (qn a.bc (b:Int)).bind λn=>bif !n then (bP j).bind λo=>gk (λf g i=>d ()) c (b:Int) o a else gk (λf g i=>d ()) c (b:Int) go a
theorem NT(a:af)(b:aW)(s:Unit)(k:Nat)(hn:a.aI.length<=9223372036854775807)(hk:a.aI.length < k):gV k a 0 b=Pu.bT (NS a b) (FD a b) a.aI 0 s:=Pu.cn (λk s i=>gV k a i b) hn (λ_ _ _=>rfl) s hk
def yJ(a b:Int)(c:Bool):A' Int:=
 bif c then ac 0 else ac (yN .i64 a b)
def AE(a b:Int):A' Int:=
 (kw a).bind λc=>bif !c then yJ a b gi else (kw b).bind λd=>yJ a b (!d)
def AF(a:af)(b:aW):A' Int:=
 (tX a).bind λc=>(AE c b.bc).bind λd=>ac d
def oU(b:Bool)(a:aD):A' Bool:=
 bif b then ac go else bif a.aG == 1 then ac gi else (AF a.aH a.bi).bind λc=>ac (c == 0)
def ov(a:aD):A' Bool:=
 bif a.aG == 0 then (l7 a.aH).bind λb=>bif b then (nY a.bi).bind λc=>ac c else ac go else bif a.aH.aR == 0 then oU gi a else (AD a.aH a.bi).bind λd=>oU (!d) a
def G5(a:Int):A' Bool:=
 (cy a 0 6).bind λb=>ac b
def EO  : A' Bool:=
 ac gi
def eS(RO:List bV->Int->A' Bool)(b:List bV)(c:Int)(a:Bool):A' Bool:=
 bif a then ac go else RO b (aS .i64 c 1)
def gq(gw:Nat)(b:List bV)(a:Int):A' Bool:=match gw with
  | 0=>cl
  | gw+1=>bif decide (a < (b.length:Int)) then (cM b a).bind λc=>(G5 c.jW).bind λd=>bif !d then eS (gq gw) b a gi else (kw c.cW).bind λe=>bif !e then eS (gq gw) b a gi else (kw c.cO).bind λf=>bif !f then eS (gq gw) b a gi else bif decide (c.pg < 0) then eS (gq gw) b a gi else (kw c.kM).bind λg=>bif !g then eS (gq gw) b a gi else bif decide (a > 0) then (cM b (ew .i64 a 1)).bind λi=>eS (gq gw) b a (decide (c.jW<=i.jW)) else eS (gq gw) b a go else EO
def Cx(a:List bV):A' Bool:=
 gq u a 0
def Qi(a:List bV)(s:Unit):A' Bool:=EO
def G6(b:List bV)(d:bV)(a:Nat)(s:Unit)(c:Unit->A' Bool):A' Bool:=(G5 d.jW).bind λg=>bif !g then eS (λe f=>c ()) b (a:Int) gi else (kw d.cW).bind λi=>bif !i then eS (λe f=>c ()) b (a:Int) gi else (kw d.cO).bind λj=>bif !j then eS (λe f=>c ()) b (a:Int) gi else bif decide (d.pg < 0) then eS (λe f=>c ()) b (a:Int) gi else (kw d.kM).bind λk=>bif !k then eS (λe f=>c ()) b (a:Int) gi else bif decide ((a:Int) > 0) then (cM b (ew .i64 (a:Int) 1)).bind λl=>eS (λe f=>c ()) b (a:Int) (decide (d.jW<=l.jW)) else eS (λe f=>c ()) b (a:Int) go
theorem Qj(a:List bV)(s:Unit)(k:Nat)(hn:a.length<=9223372036854775807)(hk:a.length < k):gq k a 0=Pu.bT (Qi a) (G6 a) a 0 s:=Pu.cn (λk s i=>gq k a i) hn (λ_ _ _=>rfl) s hk
def xP(a:bV)(q0:bD)(q1:Int):A' Bool:=
 (gz q0 a.jW).bind λb=>bif !b then ac gi else ac (a.jW == q1)
def eK  : A' Int:=
 ac (-1)
def b7(dd:Nat)(b:List bV)(p1_0:bD)(p1_1 a:Int):A' Int:=match dd with
  | 0=>cl
  | dd+1=>bif decide (a < (b.length:Int)) then (cM b a).bind λc=>(xP c p1_0 p1_1).bind λd=>bif d then ac a else b7 dd b p1_0 p1_1 (aS .i64 a 1) else eK
def dz(a:List bV)(p1_0:bD)(p1_1:Int):A' Int:=
 b7 u a p1_0 p1_1 0
def md(a:List bV)(p1_0:bD)(p1_1:Int)(s:Unit):A' Int:=eK
def gC(e:List bV)(p1_0:bD)(p1_1:Int)(a:bV)(b:Nat)(s:Unit)(c:Unit->A' Int):A' Int:=(xP a p1_0 p1_1).bind λd=>bif d then ac (b:Int) else c ()
theorem mf(a:List bV)(p1_0:bD)(p1_1:Int)(s:Unit)(k:Nat)(hn:a.length<=9223372036854775807)(hk:a.length < k):b7 k a p1_0 p1_1 0=Pu.bT (md a p1_0 p1_1) (gC a p1_0 p1_1) a 0 s:=Pu.cn (λk s i=>b7 k a p1_0 p1_1 i) hn (λ_ _ _=>rfl) s hk
def cD(a:List bV)(p1_0:bD)(p1_1:Int):A' Bool:=
 (dz a p1_0 p1_1).bind λb=>ac (decide (b>=0))
def oz(e:Bool)(f:bD)(d:Int)(a:aD):A' Bool:=
 bif e then bif decide (a.bn>=0) then bif decide (a.be>=0) then (cy a.aG 0 6).bind λg=>bif g then bif (a.aG == 6) == (d == 0) then (ov a).bind λi=>bif i then (Cx a.aZ).bind λb=>bif b then (cD a.aZ f d).bind λc=>ac (!c) else ac go else ac go else ac go else ac go else ac go else ac go else ac go
def AG(d:Bool)(c:bD)(a:Int)(b:aD):A' Bool:=
 bif d then ac go else bif !b.fJ then (yI b).bind λe=>ac e else bif a == 0 then bif b.bG == (-1) then oz gi c a b else bif a != 0 then (tW c b.bG a).bind λf=>oz f c a b else oz go c a b else bif a != 0 then (tW c b.bG a).bind λg=>oz g c a b else oz go c a b
def zF(a:bD)(b:Int)(c:aD):A' Bool:=
 (se a).bind λd=>bif !d then AG gi a b c else (gz a b).bind λe=>AG (!e) a b c
def zG(a:Int):A' Bool:=
 bif a == 0 then ac gi else ac (a == 1)
def tY(a:ed):A' Bool:=
 (Bw a.aR).bind λb=>bif b then (zG a.bW).bind λc=>bif c then (cy a.aT 0 240).bind λd=>ac d else ac go else ac go
def hP(a:ar)(b:Int):A' gs:=
 bif b == 0 then ac a.fA else ac a.fB
def EP(a:dv):A' Bool:=
 bif a.fm == 2 then bif a.HV == 0 then bif (a.fB.length:Int) == 0 then (tY a.fR).bind λb=>ac b else ac go else ac go else (zG a.fm).bind λc=>bif c then bif [a.fR.aR,a.fR.bW,a.fR.aT] == [0,0,0] then (cy a.HV 0 (ew .i64 240 (a.fB.length:Int))).bind λd=>ac d else ac go else ac go
def xQ(a:dv):A' Bool:=
 (EP a).bind λb=>ac (!b)
def eL  : A' Int:=
 ac (-1)
def b8(de:Nat)(b:List dv)(a:Int):A' Int:=match de with
  | 0=>cl
  | de+1=>bif decide (a < (b.length:Int)) then (cM b a).bind λc=>(xQ c).bind λd=>bif d then ac a else b8 de b (aS .i64 a 1) else eL
def dA(a:List dv):A' Int:=
 b8 u a 0
def mh(a:List dv)(s:Unit):A' Int:=eL
def gD(e:List dv)(a:dv)(b:Nat)(s:Unit)(c:Unit->A' Int):A' Int:=(xQ a).bind λd=>bif d then ac (b:Int) else c ()
theorem mi(a:List dv)(s:Unit)(k:Nat)(hn:a.length<=9223372036854775807)(hk:a.length < k):b8 k a 0=Pu.bT (mh a) (gD a) a 0 s:=Pu.cn (λk s i=>b8 k a i) hn (λ_ _ _=>rfl) s hk
def cE(a:List dv):A' Bool:=
 (dA a).bind λb=>ac (decide (b>=0))
def rh(a:ar)(b:Bool):A' Bool:=
 bif b then ac go else bif decide ((a.fP.length:Int)<=200) then (cE a.fP).bind λc=>ac (!c) else ac go
def sn(a:ar):A' Bool:=
 bif decide ((a.fA.length:Int) > 240) then rh a gi else bif decide ((a.fB.length:Int) > 240) then rh a gi else (tY a.fR).bind λb=>bif !b then rh a gi else (hP a a.fR.bW).bind λc=>rh a (decide (a.fR.aT > (c.length:Int)))
def wz(a b:af):A' Bool:=
 bif a.aR == b.aR then bif a.au == b.au then bif a.aT == b.aT then (ey a.aI b.aI).bind λc=>ac c else ac go else ac go else ac go
def AH(a:ar):A' (Int×gs):=
 (sn a).bind λc=>bif !c then ac (0,[]) else (hP a a.fR.bW).bind λb=>(dW (cR 0 a.fR.aT b.length)).bind λ_=>(fZ ((b.take (sY a.fR.aT)).drop (sY 0))).bind λd=>ac (a.fR.aR,d)
def FE(a b:gs):A' Bool:=
 ac ((strOfNums a).toList == (strOfNums b).toList)
def AI(a b:gs):A' Bool:=
 (FE a b).bind λc=>ac c
def zh(b:ar)(c:Int)(d:gs):A' Bool:=
 (AH b).bind λa=>bif a.1 == c then (AI a.2 d).bind λe=>ac e else ac go
def HY(a:ar):A' Int:=
 ac (ew .i64 1 a.fR.bW)
def wA(a:dv)(q0:Int):A' Bool:=
 ac (a.fm != q0)
def ek  : A' Int:=
 ac (-1)
def bS(cV:Nat)(b:List dv)(p1_0 a:Int):A' Int:=match cV with
  | 0=>cl
  | cV+1=>bif decide (a < (b.length:Int)) then (cM b a).bind λc=>(wA c p1_0).bind λd=>bif d then ac a else bS cV b p1_0 (aS .i64 a 1) else ek
def dq(a:List dv)(p1_0:Int):A' Int:=
 bS u a p1_0 0
def k9(a:List dv)(p1_0:Int)(s:Unit):A' Int:=ek
def lc(e:List dv)(p1_0:Int)(a:dv)(b:Nat)(s:Unit)(c:Unit->A' Int):A' Int:=(wA a p1_0).bind λd=>bif d then ac (b:Int) else c ()
theorem lf(a:List dv)(p1_0:Int)(s:Unit)(k:Nat)(hn:a.length<=9223372036854775807)(hk:a.length < k):bS k a p1_0 0=Pu.bT (k9 a p1_0) (lc a p1_0) a 0 s:=Pu.cn (λk s i=>bS k a p1_0 i) hn (λ_ _ _=>rfl) s hk
def ck(a:List dv)(p1_0:Int):A' Bool:=
 (dq a p1_0).bind λb=>ac (decide (b>=0))
def Cy(a:Int):A' Bool:=
 ac gi
def yK(a:ar)(b:Int):A' (Nat×ar):=
 bif b == 0 then ac (0,a) else ac (1,a)
def oV(a:dv)(b:Nat×ar)(c:gs):A' ar:=
 (dW (Oy a.HV c.length)).bind λ_=>ac (ar.mk b.2.fA (xV c a.fB (sY a.HV)) b.2.fR b.2.fP)
def i9(mR:Nat)(a:dv)(c:Nat×ar)(b:gs):A' ar:=match mR with
  | 0=>cl
  | mR+1=>bif decide ((b.length:Int) < (aS .i64 a.HV (a.fB.length:Int))) then (dW (decide ((b.length+([0]:gs).length)*1<=140737488355328))).bind λ_=>i9 mR a c (b++([0]:gs)) else oV a c b
def oX(a:dv)(c:gs)(b:Nat×ar):A' ar:=
 (dW (Oy a.HV c.length)).bind λ_=>ac (ar.mk (xV c a.fB (sY a.HV)) b.2.fB b.2.fR b.2.fP)
def ja(mS:Nat)(a:dv)(b:gs)(c:Nat×ar):A' ar:=match mS with
  | 0=>cl
  | mS+1=>bif decide ((b.length:Int) < (aS .i64 a.HV (a.fB.length:Int))) then (dW (decide ((b.length+([0]:gs).length)*1<=140737488355328))).bind λ_=>ja mS a (b++([0]:gs)) c else oX a b c
def ly(c:ar)(b:dv):A' ar:=
 bif b.fm == 2 then ac (ar.mk c.fA c.fB b.fR c.fP) else (yK c b.fm).bind λa=>bif zWg a.1 0 then ja u b a.2.fA a else bif zWg a.1 1 then i9 u b a a.2.fB else cl
def jC(a b:gs)(c d e:Int)(f:List dv):A' ar:=
 ac (ar.mk a b (ed.mk c d e) [])
def ef(xp:ar->Int->gs->gs->Int->Int->Int->List dv->A' ar)(i:ar)(a:Int)(b c:gs)(d e f:Int)(g:List dv):A' ar:=
 xp i (aS .i64 a 1) b c d e f g
def ct(dH:Nat)(j:ar)(b:Int)(c d:gs)(e f g:Int)(i:List dv):A' ar:=match dH with
  | 0=>cl
  | dH+1=>bif decide (b < (j.fP.length:Int)) then (cM j.fP b).bind λk=>(Cy b).bind λl=>bif l then (ly (ar.mk c d (ed.mk e f g) i) k).bind λa=>ef (ct dH) j b a.fA a.fB a.fR.aR a.fR.bW a.fR.aT a.fP else ef (ct dH) j b c d e f g i else jC c d e f g i
def iq(b:ar):A' ar:=
 (lN b).bind λa=>(sn b).bind λc=>bif !c then ac a else ct u b 0 a.fA a.fB a.fR.aR a.fR.bW a.fR.aT a.fP
def na(a:ar)(s:gs×gs×Int×Int×Int×(List dv)):A' ar:=jC s.1 s.2.1 s.2.2.1 s.2.2.2.1 s.2.2.2.2.1 s.2.2.2.2.2
def iW(l:ar)(b:dv)(c:Nat)(s:gs×gs×Int×Int×Int×(List dv))(m:(gs×gs×Int×Int×Int×(List dv))->A' ar):A' ar:=(Cy (c:Int)).bind λd=>bif d then (ly (ar.mk s.1 s.2.1 (ed.mk s.2.2.1 s.2.2.2.1 s.2.2.2.2.1) s.2.2.2.2.2) b).bind λa=>ef (λn o e f g i j k=>m (e,f,g,i,j,k)) l (c:Int) a.fA a.fB a.fR.aR a.fR.bW a.fR.aT a.fP else ef (λn o e f g i j k=>m (e,f,g,i,j,k)) l (c:Int) s.1 s.2.1 s.2.2.1 s.2.2.2.1 s.2.2.2.2.1 s.2.2.2.2.2
theorem xd(a:ar)(s:gs×gs×Int×Int×Int×(List dv))(k:Nat)(hn:a.fP.length<=9223372036854775807)(hk:a.fP.length < k):ct k a 0 s.1 s.2.1 s.2.2.1 s.2.2.2.1 s.2.2.2.2.1 s.2.2.2.2.2=Pu.bT (na a) (iW a) a.fP 0 s:=Pu.cn (λk s i=>ct k a i s.1 s.2.1 s.2.2.1 s.2.2.2.1 s.2.2.2.2.1 s.2.2.2.2.2) hn (λ_ _ _=>rfl) s hk
def G7(a:ar):A' ar:=
 (iq a).bind λb=>ac b
def tj(b a:gs):A' Bool:=
 bif decide ((b.length:Int)>=(a.length:Int)) then (dW (cR 0 (a.length:Int) b.length)).bind λ_=>(FE ((b.take (sY (a.length:Int))).drop (sY 0)) a).bind λc=>ac c else ac go
def lz(a:ar)(q0:Int)(q1:aW):A' Bool:=
 (hP a q0).bind λb=>(tj b q1.bE).bind λc=>ac c
def pY(b:Int)(a:ar)(f c:Int)(g:af)(d:aW):A' Bool:=
 bif b == 2 then (ck a.fP f).bind λi=>bif !i then (G7 a).bind λj=>(lz j c d).bind λk=>ac k else ac go else bif b == 3 then bif (a.fP.length:Int) == 0 then (lz a c d).bind λl=>ac l else ac go else bif b == 4 then bif (a.fP.length:Int) == 1 then (cM a.fP 0).bind λm=>bif m.fm == 2 then (cM a.fP 0).bind λe=>bif [e.fR.aR,e.fR.bW,e.fR.aT] == [g.aR,f,g.aT] then (lz a c d).bind λn=>ac n else ac go else ac go else ac go else ac go
def ri(a:ar)(c:af)(d:aW)(e:Int):A' Bool:=
 (HY a).bind λb=>bif b == 1 then pY e a b 1 c d else pY e a b 0 c d
def mL(c d:Bool)(b:ar)(e:Bool)(a:aD):A' Bool:=
 bif e then bif (b.fP.length:Int) == 0 then bif c then ac gi else ac d else ac go else bif a.aG == 1 then bif (b.fP.length:Int) == 0 then ac c else ac go else bif a.aG == 5 then bif (b.fP.length:Int) == 0 then ac d else ac go else bif c then (ri b a.aH a.bi a.aG).bind λf=>ac f else ac go
def mj(a:World)(d:Int):A' Bool:=
 (cM a.fN d).bind λb=>(cM a.fD d).bind λc=>(cM a.bt d).bind λg=>(zh c 0 g.fB).bind λe=>(zh c 1 a.bI).bind λf=>bif !b.fJ then mL e f c gi b else mL e f c (b.aG == 0) b
def vm(a:ak)(q0:World):A' Bool:=
 (gz q0.fT a.dy).bind λb=>bif !b then ac gi else (gz q0.fT a.s4).bind λc=>ac (!c)
def dJ  : A' Int:=
 ac (-1)
def bO(cJ:Nat)(b:List ak)(p1_0:World)(a:Int):A' Int:=match cJ with
  | 0=>cl
  | cJ+1=>bif decide (a < (b.length:Int)) then (cM b a).bind λc=>(vm c p1_0).bind λd=>bif d then ac a else bO cJ b p1_0 (aS .i64 a 1) else dJ
def c6(a:List ak)(p1_0:World):A' Int:=
 bO u a p1_0 0
def ka(a:List ak)(p1_0:World)(s:Unit):A' Int:=dJ
def fp(e:List ak)(p1_0:World)(a:ak)(b:Nat)(s:Unit)(c:Unit->A' Int):A' Int:=(vm a p1_0).bind λd=>bif d then ac (b:Int) else c ()
theorem kc(a:List ak)(p1_0:World)(s:Unit)(k:Nat)(hn:a.length<=9223372036854775807)(hk:a.length < k):bO k a p1_0 0=Pu.bT (ka a p1_0) (fp a p1_0) a 0 s:=Pu.cn (λk s i=>bO k a p1_0 i) hn (λ_ _ _=>rfl) s hk
def ca(a:List ak)(p1_0:World):A' Bool:=
 (c6 a p1_0).bind λb=>ac (decide (b>=0))
def pC(a:World):A' Bool:=
 (cM a.fN 0).bind λb=>bif b.fJ then (cM a.fD 0).bind λc=>(cM a.bt 0).bind λd=>(zh c 0 d.fB).bind λe=>bif e then (cM a.fD 0).bind λf=>bif (f.fP.length:Int) == 0 then bif decide ((a.bj.length:Int)<=400) then (ca a.bj a).bind λg=>bif !g then bif decide ((a.cY.length:Int)<=3000) then ac (decide (a.bk>=0)) else ac go else ac go else ac go else ac go else ac go else ac go
def yL(uw:World->Int->af->A' Bool)(b:World)(c:Int)(a:Bool)(d:af):A' Bool:=
 bif a then ac go else uw b (aS .i64 c 1) d
def iI(uw:World->Int->af->A' Bool)(a:Int)(b:World)(c:Bool)(e:af):A' Bool:=
 bif c then ac go else bif decide (a > 0) then (mj b a).bind λd=>yL uw b a (!d) e else yL uw b a go e
def gl(ik:Nat)(a:World)(b:Int)(d:af):A' Bool:=match ik with
  | 0=>cl
  | ik+1=>bif decide (b < (a.fN.length:Int)) then (cM a.fN b).bind λc=>(zF a.fT b c).bind λe=>bif !e then iI (gl ik) b a gi d else (cM a.fD b).bind λf=>(sn f).bind λg=>bif !g then iI (gl ik) b a gi d else bif c.aG != 0 then (wz c.aH d).bind λi=>iI (gl ik) b a (!i) d else iI (gl ik) b a go d else pC a
def jx(b:Bool)(a:World):A' Bool:=
 bif b then ac go else (BJ a).bind λc=>gl u a 0 c
def sL(a:World):A' Bool:=
 (zA a.fC).bind λb=>bif !b then jx gi a else (se a.fT).bind λc=>bif !c then jx gi a else (pQ a.fC.au (a.bI.length:Int)).bind λd=>bif !d then jx gi a else (qM a.fT a.bt).bind λe=>bif !e then jx gi a else bif (a.fN.length:Int) != (a.fT.bl.length:Int) then jx gi a else jx ((a.fD.length:Int) != (a.fT.bl.length:Int)) a
def NU(a:World)(b:af)(s:Unit):A' Bool:=pC a
def FF(b:World)(d:af)(a:aD)(c:Nat)(s:Unit)(e:Unit->A' Bool):A' Bool:=(zF b.fT (c:Int) a).bind λf=>bif !f then iI (λg i j=>e ()) (c:Int) b gi d else (cM b.fD (c:Int)).bind λk=>(sn k).bind λl=>bif !l then iI (λg i j=>e ()) (c:Int) b gi d else bif a.aG != 0 then (wz a.aH d).bind λm=>iI (λg i j=>e ()) (c:Int) b (!m) d else iI (λg i j=>e ()) (c:Int) b go d
theorem NV(a:World)(b:af)(s:Unit)(k:Nat)(hn:a.fN.length<=9223372036854775807)(hk:a.fN.length < k):gl k a 0 b=Pu.bT (NU a b) (FF a b) a.fN 0 s:=Pu.cn (λk s i=>gl k a i b) hn (λ_ _ _=>rfl) s hk
def wB(a:aD):A' Bool:=
 (nr a.aH (af.mk 0 0 0 [])).bind λb=>bif b then bif a.bi.bc == 0 then ac ((a.bi.bE.length:Int) == 0) else ac go else ac go
def EQ  : A' Bool:=
 ac gi
def c8(RV:List bV->Int->A' Bool)(b:List bV)(c:Int)(a:Bool):A' Bool:=
 bif a then ac go else RV b (aS .i64 c 1)
def eT(eI:Nat)(b:List bV)(a:Int):A' Bool:=match eI with
  | 0=>cl
  | eI+1=>bif decide (a < (b.length:Int)) then (cM b a).bind λp=>(bK p.jW 0 6).bind λq=>bif !q then c8 (eT eI) b a gi else bif decide (a > 0) then (cM b (ew .i64 a 1)).bind λr=>(cM b a).bind λs=>bif decide (r.jW>=s.jW) then c8 (eT eI) b a gi else (cM b a).bind λt=>(dh t.cW).bind λv=>bif !v then c8 (eT eI) b a gi else (cM b a).bind λc=>(dh c.cO).bind λd=>bif !d then c8 (eT eI) b a gi else (cM b a).bind λe=>(dh e.kM).bind λf=>bif !f then c8 (eT eI) b a gi else (cM b a).bind λg=>c8 (eT eI) b a (decide (g.pg < 0)) else (cM b a).bind λi=>(dh i.cW).bind λj=>bif !j then c8 (eT eI) b a gi else (cM b a).bind λk=>(dh k.cO).bind λl=>bif !l then c8 (eT eI) b a gi else (cM b a).bind λm=>(dh m.kM).bind λn=>bif !n then c8 (eT eI) b a gi else (cM b a).bind λo=>c8 (eT eI) b a (decide (o.pg < 0)) else EQ
def so(a:List bV):A' Bool:=
 eT u a 0
def Qk(a:List bV)(s:Unit):A' Bool:=EQ
def G8(b:List bV)(t:bV)(a:Nat)(s:Unit)(c:Unit->A' Bool):A' Bool:=(bK t.jW 0 6).bind λv=>bif !v then c8 (λd e=>c ()) b (a:Int) gi else bif decide ((a:Int) > 0) then (cM b (ew .i64 (a:Int) 1)).bind λw=>(cM b (a:Int)).bind λx=>bif decide (w.jW>=x.jW) then c8 (λd e=>c ()) b (a:Int) gi else (cM b (a:Int)).bind λy=>(dh y.cW).bind λz=>bif !z then c8 (λd e=>c ()) b (a:Int) gi else (cM b (a:Int)).bind λf=>(dh f.cO).bind λg=>bif !g then c8 (λd e=>c ()) b (a:Int) gi else (cM b (a:Int)).bind λi=>(dh i.kM).bind λj=>bif !j then c8 (λd e=>c ()) b (a:Int) gi else (cM b (a:Int)).bind λk=>c8 (λd e=>c ()) b (a:Int) (decide (k.pg < 0)) else (cM b (a:Int)).bind λl=>(dh l.cW).bind λm=>bif !m then c8 (λd e=>c ()) b (a:Int) gi else (cM b (a:Int)).bind λn=>(dh n.cO).bind λo=>bif !o then c8 (λd e=>c ()) b (a:Int) gi else (cM b (a:Int)).bind λp=>(dh p.kM).bind λq=>bif !q then c8 (λd e=>c ()) b (a:Int) gi else (cM b (a:Int)).bind λr=>c8 (λd e=>c ()) b (a:Int) (decide (r.pg < 0))
theorem Ql(a:List bV)(s:Unit)(k:Nat)(hn:a.length<=9223372036854775807)(hk:a.length < k):eT k a 0=Pu.bT (Qk a) (G8 a) a 0 s:=Pu.cn (λk s i=>eT k a i) hn (λ_ _ _=>rfl) s hk
def vq(a:aD):A' Bool:=
 bif a.aG == 0 then (wB a).bind λb=>ac b else bif a.aG == 1 then bif a.aH.aR != 0 then (pU a.aH a.bi).bind λc=>ac c else ac go else (bK a.aG 2 6).bind λd=>bif d then (BA a.aH a.bi).bind λe=>ac e else ac go
def rj(RW:Int->Int->bD->aD->A' Bool)(c a:Int)(b:Bool)(d:bD)(e:aD):A' Bool:=
 bif b then ac go else RW c (aS .i64 a 1) d e
def kx(oe:Nat)(c a:Int)(d:bD)(b:aD):A' Bool:=match oe with
  | 0=>cl
  | oe+1=>bif decide (a < (b.aZ.length:Int)) then (cM b.aZ a).bind λe=>bif e.jW == c then rj (kx oe) c a gi d b else (cM b.aZ a).bind λf=>rj (kx oe) c a (decide (f.jW>=(d.bl.length:Int))) d b else vq b
def di(b:Int)(a:Bool)(c:bD)(d:aD):A' Bool:=
 bif a then ac go else kx u b 0 c d
def AJ(b:Int)(e:Bool)(c:bD)(a:aD):A' Bool:=
 bif e then ac go else bif !a.fJ then bif a.bG == 0 then bif a.bn == 0 then (wB a).bind λf=>bif f then bif a.aG == 0 then bif (a.aZ.length:Int) == 0 then ac (a.be == 0) else ac go else ac go else ac go else ac go else ac go else bif b == 0 then bif a.bG != (-1) then di b gi c a else bif decide (b > 0) then (qh c a.bG b).bind λg=>bif !g then di b gi c a else bif decide (a.bn < 0) then di b gi c a else bif decide (a.be < 0) then di b gi c a else bif !((a.aG == 6) == (b == 0)) then di b gi c a else (so a.aZ).bind λi=>di b (!i) c a else bif decide (a.bn < 0) then di b gi c a else bif decide (a.be < 0) then di b gi c a else bif !((a.aG == 6) == (b == 0)) then di b gi c a else (so a.aZ).bind λj=>di b (!j) c a else bif decide (b > 0) then (qh c a.bG b).bind λk=>bif !k then di b gi c a else bif decide (a.bn < 0) then di b gi c a else bif decide (a.be < 0) then di b gi c a else bif !((a.aG == 6) == (b == 0)) then di b gi c a else (so a.aZ).bind λl=>di b (!l) c a else bif decide (a.bn < 0) then di b gi c a else bif decide (a.be < 0) then di b gi c a else bif !((a.aG == 6) == (b == 0)) then di b gi c a else (so a.aZ).bind λd=>di b (!d) c a
def zH(a:bD)(b:Int)(c:aD):A' Bool:=
 (pK a).bind λd=>bif !d then AJ b gi a c else (bK b 0 (ew .i64 (a.bl.length:Int) 1)).bind λe=>AJ b (!e) a c
def Qm(b:Int)(c:bD)(a:aD)(s:Unit):A' Bool:=vq a
def G9(a:Int)(b:bD)(c:aD)(d:bV)(e:Nat)(s:Unit)(g:Unit->A' Bool):A' Bool:=bif d.jW == a then rj (λi j k l=>g ()) a (e:Int) gi b c else (cM c.aZ (e:Int)).bind λf=>rj (λi j k l=>g ()) a (e:Int) (decide (f.jW>=(b.bl.length:Int))) b c
theorem Qn(b:Int)(c:bD)(a:aD)(s:Unit)(k:Nat)(hn:a.aZ.length<=9223372036854775807)(hk:a.aZ.length < k):kx k b 0 c a=Pu.bT (Qm b c a) (G9 b c a) a.aZ 0 s:=Pu.cn (λk s i=>kx k b i c a) hn (λ_ _ _=>rfl) s hk
def qo(b:ar)(c:Int)(d:gs):A' Bool:=
 (wm b).bind λa=>bif a.1 == c then (oo a.2 d).bind λe=>ac e else ac go
def xR(a:ar)(b:gs)(c:Int)(d:gs):A' Bool:=
 (qo a 0 b).bind λe=>bif e then ac gi else (qo a c d).bind λf=>ac f
def oA(b a:gs):A' Bool:=
 bif decide ((b.length:Int)>=(a.length:Int)) then (dW (cR 0 (a.length:Int) b.length)).bind λ_=>(oo ((b.take (sY (a.length:Int))).drop (sY 0)) a).bind λc=>ac c else ac go
def um(c:ar)(d:aW):A' Bool:=
 (tN c).bind λe=>(qi c).bind λf=>(sm e f).bind λa=>(oA a d.bE).bind λb=>ac b
def kA(qG:Nat)(b:Int)(a:ar)(c:aW):A' Bool:=match qG with
  | 0=>cl
  | qG+1=>bif decide (b < (a.fP.length:Int)) then (cM a.fP b).bind λd=>(qi a).bind λe=>bif d.fm != e then ac go else kA qG (aS .i64 b 1) a c else um a c
def rk(a:ar)(g:af)(c:aW)(d:Int):A' Bool:=
 (qi a).bind λj=>(sm a j).bind λi=>bif d == 2 then kA u 0 a c else bif d == 3 then bif (a.fP.length:Int) == 0 then (oA i c.bE).bind λk=>ac k else ac go else bif d == 4 then (qi a).bind λl=>bif (a.fP.length:Int) == 1 then (cM a.fP 0).bind λe=>bif e.fm == 2 then (cM a.fP 0).bind λb=>bif [b.fR.aR,b.fR.bW,b.fR.aT] == [g.aR,l,g.aT] then (oA i c.bE).bind λf=>ac f else ac go else ac go else ac go else ac go
def xe(a:ar)(b:aW)(s:Unit):A' Bool:=um a b
def DH(a:ar)(e:aW)(b:dv)(f:Nat)(s:Unit)(c:Unit->A' Bool):A' Bool:=(qi a).bind λd=>bif b.fm != d then ac go else c ()
theorem Lm(a:ar)(b:aW)(s:Unit)(k:Nat)(hn:a.fP.length<=9223372036854775807)(hk:a.fP.length < k):kA k 0 a b=Pu.bT (xe a b) (DH a b) a.fP 0 s:=Pu.cn (λk s i=>kA k i a b) hn (λ_ _ _=>rfl) s hk
def kB(b:World)(d:Int):A' Bool:=
 (cM b.fN d).bind λc=>(cM b.fD d).bind λa=>bif d == 0 then bif c.fJ then (cM b.bt 0).bind λi=>(qo a 0 i.fB).bind λj=>bif j then ac ((a.fP.length:Int) == 0) else ac go else ac go else (cM b.bt d).bind λk=>(xR a k.fB 1 b.bI).bind λl=>bif !l then ac go else bif c.aG == 0 then ac ((a.fP.length:Int) == 0) else bif c.aG == 1 then bif (a.fP.length:Int) == 0 then (cM b.bt d).bind λm=>(qo a 0 m.fB).bind λn=>ac n else ac go else bif c.aG == 5 then bif (a.fP.length:Int) == 0 then (qo a 1 b.bI).bind λo=>ac o else ac go else (cM b.bt d).bind λe=>(qo a 0 e.fB).bind λf=>bif f then (rk a c.aH c.bi c.aG).bind λg=>ac g else ac go
def C4  : A' Bool:=
 ac gi
def pD(PU:World->Int->A' Bool)(c:World)(a:Int)(b:Bool):A' Bool:=
 bif b then ac go else PU c (aS .i64 a 1)
def kX(mV:Nat)(b:World)(a:Int):A' Bool:=match mV with
  | 0=>cl
  | mV+1=>bif decide (a < (b.bj.length:Int)) then (cM b.bj a).bind λc=>(bK c.dy 0 (ew .i64 (b.fT.bl.length:Int) 1)).bind λd=>bif !d then pD (kX mV) b a gi else (cM b.bj a).bind λe=>(bK e.s4 0 (ew .i64 (b.fT.bl.length:Int) 1)).bind λf=>pD (kX mV) b a (!f) else C4
def tk(a:World):A' Bool:=
 kX u a 0
def gm(PV:World->Int->af->A' Bool)(b:World)(c:Int)(a:Bool)(d:af):A' Bool:=
 bif a then ac go else PV b (aS .i64 c 1) d
def gn(im:Nat)(a:World)(b:Int)(c:af):A' Bool:=match im with
  | 0=>cl
  | im+1=>bif decide (b < (a.fT.bl.length:Int)) then (cM a.fN b).bind λd=>(zH a.fT b d).bind λe=>bif !e then gm (gn im) a b gi c else (cM a.fD b).bind λf=>(kV f).bind λg=>bif !g then gm (gn im) a b gi c else (cM a.fN b).bind λi=>bif i.aG != 0 then (cM a.fN b).bind λj=>(nr j.aH c).bind λk=>bif !k then gm (gn im) a b gi c else (kB a b).bind λl=>gm (gn im) a b (!l) c else (kB a b).bind λm=>gm (gn im) a b (!m) c else tk a
def gp(a:World)(b:Bool):A' Bool:=
 bif b then ac go else (ki a).bind λc=>gn u a 0 c
def AK(a:World):A' Bool:=
 (zu a.fC).bind λb=>bif !b then gp a gi else (pK a.fT).bind λc=>bif !c then gp a gi else (nA a.fC.au (a.bI.length:Int)).bind λd=>bif !d then gp a gi else (vR a.bt (a.fT.bl.length:Int)).bind λe=>bif !e then gp a gi else bif (a.fN.length:Int) != (a.fT.bl.length:Int) then gp a gi else bif (a.fD.length:Int) != (a.fT.bl.length:Int) then gp a gi else bif decide ((a.bj.length:Int) > 400) then gp a gi else bif decide ((a.cY.length:Int) > 3000) then gp a gi else gp a (decide (a.bk < 0))
def NW(a:World)(s:Unit):A' Bool:=C4
def FG(a:World)(b:ak)(c:Nat)(s:Unit)(g:Unit->A' Bool):A' Bool:=(bK b.dy 0 (ew .i64 (a.fT.bl.length:Int) 1)).bind λd=>bif !d then pD (λi j=>g ()) a (c:Int) gi else (cM a.bj (c:Int)).bind λe=>(bK e.s4 0 (ew .i64 (a.fT.bl.length:Int) 1)).bind λf=>pD (λi j=>g ()) a (c:Int) (!f)
theorem NX(a:World)(s:Unit)(k:Nat)(hn:a.bj.length<=9223372036854775807)(hk:a.bj.length < k):kX k a 0=Pu.bT (NW a) (FG a) a.bj 0 s:=Pu.cn (λk s i=>kX k a i) hn (λ_ _ _=>rfl) s hk
def NY(a:World)(b:af)(s:Unit):A' Bool:=tk a
def FH(a:World)(c:af)(b:Nat)(s:Unit)(d:Unit->A' Bool):A' Bool:=(cM a.fN (b:Int)).bind λi=>(zH a.fT (b:Int) i).bind λj=>bif !j then gm (λe f g=>d ()) a (b:Int) gi c else (cM a.fD (b:Int)).bind λk=>(kV k).bind λl=>bif !l then gm (λe f g=>d ()) a (b:Int) gi c else (cM a.fN (b:Int)).bind λm=>bif m.aG != 0 then (cM a.fN (b:Int)).bind λn=>(nr n.aH c).bind λo=>bif !o then gm (λe f g=>d ()) a (b:Int) gi c else (kB a (b:Int)).bind λp=>gm (λe f g=>d ()) a (b:Int) (!p) c else (kB a (b:Int)).bind λq=>gm (λe f g=>d ()) a (b:Int) (!q) c
theorem NZ(a:World)(b:af)(s:Unit)(k:Nat)(hn:((a.fT.bl.length:Int):Int)<=9223372036854775807)(hk:sY (a.fT.bl.length:Int) < k):gn k a 0 b=Pu.rr (NY a b) (FH a b) (sY (a.fT.bl.length:Int)) 0 s:=Pu.ue (λk s i=>gn k a i b) hn (λ_ _ _=>rfl) s hk
def Cz(a:aD):A' Bool:=
 ac a.fJ
def gA(a:gs):A' gs:=
 ac a
def dT(wR:gs->World->Int->A' gs)(a:gs)(b:World)(c:Int):A' gs:=
 wR a b (aS .i64 c 1)
def cL(dC:Nat)(b:gs)(c:World)(a:Int):A' gs:=match dC with
  | 0=>cl
  | dC+1=>bif decide (a < (c.fN.length:Int)) then (cM c.fN a).bind λd=>(Cz d).bind λe=>bif e then (dW (decide ((b.length+([a]:gs).length)*8<=140737488355328))).bind λ_=>dT (cL dC) (b++([a]:gs)) c a else dT (cL dC) b c a else gA b
def ie(a:World):A' gs:=
 cL u ([]:gs) a 0
def mM(a:World)(s:gs):A' gs:=gA s
def mN(c:World)(e:aD)(a:Nat)(s:gs)(d:gs->A' gs):A' gs:=(Cz e).bind λf=>bif f then (dW (decide ((s.length+([(a:Int)]:gs).length)*8<=140737488355328))).bind λ_=>dT (λb g i=>d b) (s++([(a:Int)]:gs)) c (a:Int) else dT (λb g i=>d b) s c (a:Int)
theorem wC(a:World)(s:gs)(k:Nat)(hn:a.fN.length<=9223372036854775807)(hk:a.fN.length < k):cL k s a 0=Pu.bT (mM a) (mN a) a.fN 0 s:=Pu.cn (λk s i=>cL k s a i) hn (λ_ _ _=>rfl) s hk
def BK(a:World):A' gs:=
 (ie a).bind λb=>ac b
def DZ(a:gs):A' gs:=
 ac a
def wE(W7:gs->Int->World->A' gs)(a:gs)(b:Int)(c:World):A' gs:=
 W7 a (aS .i64 b 1) c
def pZ(rS:Nat)(b:gs)(a:Int)(c:World):A' gs:=match rS with
  | 0=>cl
  | rS+1=>bif decide (a < (c.fN.length:Int)) then (cM c.fN a).bind λd=>bif d.fJ then (dW (decide ((b.length+([a]:gs).length)*8<=140737488355328))).bind λ_=>wE (pZ rS) (b++([a]:gs)) a c else wE (pZ rS) b a c else DZ b
def Ha(a:World):A' gs:=
 pZ u ([]:gs) 0 a
def Jt(a:World)(s:gs):A' gs:=DZ s
def Ju(c:World)(e:aD)(a:Nat)(s:gs)(d:gs->A' gs):A' gs:=bif e.fJ then (dW (decide ((s.length+([(a:Int)]:gs).length)*8<=140737488355328))).bind λ_=>wE (λb f g=>d b) (s++([(a:Int)]:gs)) (a:Int) c else wE (λb f g=>d b) s (a:Int) c
theorem UK(a:World)(s:gs)(k:Nat)(hn:a.fN.length<=9223372036854775807)(hk:a.fN.length < k):pZ k s 0 a=Pu.bT (Jt a) (Ju a) a.fN 0 s:=Pu.cn (λk s i=>pZ k s i a) hn (λ_ _ _=>rfl) s hk
def xS(a:aD):A' Bool:=
 ac (a.aG == 5)
def fL(a:gs):A' gs:=
 ac a
def dB(uK:gs->World->Int->A' gs)(a:gs)(b:World)(c:Int):A' gs:=
 uK a b (aS .i64 c 1)
def cB(dt:Nat)(b:gs)(c:World)(a:Int):A' gs:=match dt with
  | 0=>cl
  | dt+1=>bif decide (a < (c.fN.length:Int)) then (cM c.fN a).bind λd=>(xS d).bind λe=>bif e then (dW (decide ((b.length+([a]:gs).length)*8<=140737488355328))).bind λ_=>dB (cB dt) (b++([a]:gs)) c a else dB (cB dt) b c a else fL b
def gJ(a:World):A' gs:=
 cB u ([]:gs) a 0
def lH(a:World)(s:gs):A' gs:=fL s
def lI(c:World)(e:aD)(a:Nat)(s:gs)(d:gs->A' gs):A' gs:=(xS e).bind λf=>bif f then (dW (decide ((s.length+([(a:Int)]:gs).length)*8<=140737488355328))).bind λ_=>dB (λb g i=>d b) (s++([(a:Int)]:gs)) c (a:Int) else dB (λb g i=>d b) s c (a:Int)
theorem uJ(a:World)(s:gs)(k:Nat)(hn:a.fN.length<=9223372036854775807)(hk:a.fN.length < k):cB k s a 0=Pu.bT (lH a) (lI a) a.fN 0 s:=Pu.cn (λk s i=>cB k s a i) hn (λ_ _ _=>rfl) s hk
def zI(a:World):A' gs:=
 (gJ a).bind λb=>ac b
def AL(a:gs):A' gs:=
 ac a
def rm(RS:gs->Int->World->A' gs)(a:gs)(b:Int)(c:World):A' gs:=
 RS a (aS .i64 b 1) c
def ml(oc:Nat)(b:gs)(a:Int)(c:World):A' gs:=match oc with
  | 0=>cl
  | oc+1=>bif decide (a < (c.fN.length:Int)) then (cM c.fN a).bind λd=>bif d.aG == 5 then (dW (decide ((b.length+([a]:gs).length)*8<=140737488355328))).bind λ_=>rm (ml oc) (b++([a]:gs)) a c else rm (ml oc) b a c else AL b
def CA(a:World):A' gs:=
 ml u ([]:gs) 0 a
def Hb(a:World)(s:gs):A' gs:=AL s
def Hc(c:World)(e:aD)(a:Nat)(s:gs)(d:gs->A' gs):A' gs:=bif e.aG == 5 then (dW (decide ((s.length+([(a:Int)]:gs).length)*8<=140737488355328))).bind λ_=>rm (λb f g=>d b) (s++([(a:Int)]:gs)) (a:Int) c else rm (λb f g=>d b) s (a:Int) c
theorem Qo(a:World)(s:gs)(k:Nat)(hn:a.fN.length<=9223372036854775807)(hk:a.fN.length < k):ml k s 0 a=Pu.bT (Hb a) (Hc a) a.fN 0 s:=Pu.cn (λk s i=>ml k s i a) hn (λ_ _ _=>rfl) s hk
def Mp  : A' Bool:=
 ac go
def zi(Ee:Nat)(a:gs)(c b:Int):A' Bool:=match Ee with
  | 0=>cl
  | Ee+1=>bif decide (b < (a.length:Int)) then (cM a b).bind λd=>bif d == c then ac gi else zi Ee a c (aS .i64 b 1) else Mp
def N0(a:gs)(b:Int):A' Bool:=
 zi u a b 0
def YX(a:gs)(b:Int)(s:Unit):A' Bool:=Mp
def YY(d:gs)(a b:Int)(e:Nat)(s:Unit)(c:Unit->A' Bool):A' Bool:=bif b == a then ac gi else c ()
theorem qg5(a:gs)(b:Int)(s:Unit)(k:Nat)(hn:a.length<=9223372036854775807)(hk:a.length < k):zi k a b 0=Pu.bT (YX a b) (YY a b) a 0 s:=Pu.cn (λk s i=>zi k a b i) hn (λ_ _ _=>rfl) s hk
def iP(b:Bool)(i a:World):A' Bool:=
 bif b then ac go else bif (a.fN.length:Int) == 0 then ac gi else (sL a).bind λc=>bif c then (BK a).bind λd=>bif (d.length:Int) == (a.fN.length:Int) then (zI a).bind λe=>bif (e.length:Int) == 0 then (BK i).bind λf=>(N0 f 0).bind λg=>ac g else ac go else ac go else ac go
def tZ(f:gs):A' Bool:=
 (Ny f).bind λv=>bif v then ac gi else (pP f).bind λa=>(nD a.1 a.2.1 a.2.2.1 a.2.2.2).bind λb=>(rc f).bind λc=>(vh f).bind λd=>(ou f).bind λe=>(je a.1 a.2.1 a.2.2.1 a.2.2.2).bind λw=>(vj b w).bind λx=>bif !x then iP gi d b else (sL c).bind λy=>(AK c).bind λg=>bif !(y == g) then iP gi d b else (sL d).bind λi=>bif !i then iP gi d b else (ri e.1 e.2.1 e.2.2.1 e.2.2.2).bind λj=>(rk e.1 e.2.1 e.2.2.1 e.2.2.2).bind λk=>bif !(j == k) then iP gi d b else (BK c).bind λl=>(Ha c).bind λm=>(qm l m).bind λn=>bif !n then iP gi d b else (zI c).bind λo=>(CA c).bind λp=>(qm o p).bind λq=>bif !q then iP gi d b else (BJ c).bind λr=>(ki c).bind λs=>(wx r s).bind λt=>iP (!t) d b
end
end Go.Tm
