/- Plain laws of the functions. -/
import Derived.Test.YthdbkkomigbflaaGreatCFnExactUselessD
set_option linter.unusedVariables false
set_option linter.unusedSimpArgs false
namespace Go.Tm.Pu
open Go.Tm
theorem lm {u:Nat} (hu:1099511627776≤u) {x:List Int} {n:Int} (h0:0≤n) (h1:n≤1048576) (hw:(Hs (lX .u8)) x):gO u x n=some (hP n x.length):=E8 h0 h1 hw.1
theorem lp {u:Nat} (hu:1099511627776≤u) {x:List Int} (h:x.length≤68719476736):iC u x=some x:=by
 have hlen:x.length≤68719476736:=by omega
 unfold iC
 rw [yd,bB (by rw [Int.toNat_natCast]; omega)]
 simp only [Option.bind_some,Int.toNat_natCast]
 rw [Ia u x _ u (by omega) (by omega),lH]
 ·rfl
 ·intro y i s k hx hi
  unfold BJ
  rw [br,List.getElem?_eq_getElem hi]; simp
theorem lq {u:Nat} (hu:1099511627776≤u) {x:List Int} (h:x.length≤68719476736):iL u x x=some true:=by
 have hlen:x.length≤68719476736:=by omega
 unfold iL
 simp only [bne_self_eq_false,cond_false]
 rw [IL u x x () u (by omega) (by omega),qs (xs:=x) _ x 0 (by simp)]
 ·rfl
 ·intro y i k hx
  unfold B1
  rw [br,hx]; simp
theorem Du (u:Nat) (x:c7):p8 u x=some x:=by
 unfold p8
 rfl
theorem Dv (u:Nat) (x:c7):qq u x x=some true:=by
 unfold qq
 simp []
def eZ (x:ca):Nat:=x.fB.length
theorem Sf {u:Nat} (hu:1099511627776≤u) {x:ca} {n:Int} (h0:0≤n) (h1:n≤1048576) (hw:ca.wf x):xn u x n=some (hP n (eZ x)):=by
 unfold xn eZ
 rw [lm hu h0 h1 hw.2.2.1]
 simp only [Option.bind_some]
 exact sB
theorem Sg {u:Nat} (hu:1099511627776≤u) {x:ca} (h:eZ x≤68719476736):xr u x=some x:=by
 unfold eZ at h
 unfold xr
 rw [lp hu (by omega),Du u _]; rfl
theorem Sh {u:Nat} (hu:1099511627776≤u) {x:ca} (h:eZ x≤68719476736):xL u x x=some true:=by
 unfold eZ at h
 unfold xL
 simp [lq hu (x:=x.fB) (by omega),Dv]
theorem Si (u:Nat) (x:Kid):xq u x=some x:=by
 unfold xq
 rfl
theorem Sj (u:Nat) (x:Kid):xK u x x=some true:=by
 unfold xK
 simp []
theorem Sk (u:Nat) (x:bN):xp u x=some x:=by
 unfold xp
 rfl
theorem Sl (u:Nat) (x:bN):xJ u x x=some true:=by
 unfold xJ
 simp []
theorem Qw {u:Nat} (hu:1099511627776≤u) {x:List Int} {n:Int} (h0:0≤n) (h1:n≤1048576) (hw:(Hs (lX .i64)) x):BF u x n=some (hP n x.length):=E8 h0 h1 hw.1
theorem Qx {u:Nat} (hu:1099511627776≤u) {x:List Int} (h:x.length≤68719476736):yq u x=some x:=by
 have hlen:x.length≤68719476736:=by omega
 unfold yq
 rw [yd,bB (by rw [Int.toNat_natCast]; omega)]
 simp only [Option.bind_some,Int.toNat_natCast]
 rw [Kr u x _ u (by omega) (by omega),lH]
 ·rfl
 ·intro y i s k hx hi
  unfold CH
  rw [br,List.getElem?_eq_getElem hi]; simp
theorem Qy {u:Nat} (hu:1099511627776≤u) {x:List Int} (h:x.length≤68719476736):yO u x x=some true:=by
 have hlen:x.length≤68719476736:=by omega
 unfold yO
 simp only [bne_self_eq_false,cond_false]
 rw [KX u x x () u (by omega) (by omega),qs (xs:=x) _ x 0 (by simp)]
 ·rfl
 ·intro y i k hx
  unfold Da
  rw [br,hx]; simp
def vd (x:co):Nat:=x.cx.length
theorem Qz {u:Nat} (hu:1099511627776≤u) {x:co} {n:Int} (h0:0≤n) (h1:n≤1048576) (hw:co.wf x):yo u x n=some (hP n (vd x)):=by
 unfold yo vd
 rw [Qw hu h0 h1 hw.1]
 simp only [Option.bind_some]
 exact sB
theorem QA {u:Nat} (hu:1099511627776≤u) {x:co} (h:vd x≤68719476736):yr u x=some x:=by
 unfold vd at h
 unfold yr
 rw [Qx hu (by omega)]; rfl
theorem QB {u:Nat} (hu:1099511627776≤u) {x:co} (h:vd x≤68719476736):yP u x x=some true:=by
 unfold vd at h
 unfold yP
 simp [Qy hu (x:=x.cx) (by omega)]
theorem QC (u:Nat) (x:vm):yp u x=some x:=by
 unfold yp
 rfl
theorem QD (u:Nat) (x:vm):yN u x x=some true:=by
 unfold yN
 simp []
theorem QE {u:Nat} (hu:1099511627776≤u) {x:List bN} {n:Int} (h0:0≤n) (h1:n≤1048576) (hw:(Hs bN.wf) x):BG u x n=some (hP n x.length):=E8 h0 h1 hw.1
theorem QF {u:Nat} (hu:1099511627776≤u) {x:List bN} (h:x.length≤68719476736):yu u x=some x:=by
 have hlen:x.length≤68719476736:=by omega
 unfold yu
 rw [yd,bB (by rw [Int.toNat_natCast]; omega)]
 simp only [Option.bind_some,Int.toNat_natCast]
 rw [Kt u x _ u (by omega) (by omega),lH]
 ·rfl
 ·intro y i s k hx hi
  unfold CI
  rw [Sk u _]
  rw [br,List.getElem?_eq_getElem hi]; simp
theorem QG {u:Nat} (hu:1099511627776≤u) {x:List bN} (h:x.length≤68719476736):yQ u x x=some true:=by
 have hlen:x.length≤68719476736:=by omega
 unfold yQ
 simp only [bne_self_eq_false,cond_false]
 rw [KZ u x x () u (by omega) (by omega),qs (xs:=x) _ x 0 (by simp)]
 ·rfl
 ·intro y i k hx
  unfold Db
  rw [br,hx]
  simp only [Option.bind_some]
  rw [Sl]; simp
def lL (x:af):Nat:=x.aD.length
theorem HE {u:Nat} (hu:1099511627776≤u) {x:af} {n:Int} (h0:0≤n) (h1:n≤1048576) (hw:af.wf x):pH u x n=some (hP n (lL x)):=by
 unfold pH lL
 rw [QE hu h0 h1 hw.2.2.2.1]
 simp only [Option.bind_some]
 exact sB
theorem HF {u:Nat} (hu:1099511627776≤u) {x:af} (h:lL x≤68719476736):pI u x=some x:=by
 unfold lL at h
 unfold pI
 rw [QF hu (by omega)]; rfl
theorem HG {u:Nat} (hu:1099511627776≤u) {x:af} (h:lL x≤68719476736):pS u x x=some true:=by
 unfold lL at h
 unfold pS
 simp [QG hu (x:=x.aD) (by omega)]
def ry (x:aX):Nat:=x.bg.length
theorem NY {u:Nat} (hu:1099511627776≤u) {x:aX} {n:Int} (h0:0≤n) (h1:n≤1048576) (hw:aX.wf x):rG u x n=some (hP n (ry x)):=by
 unfold rG ry
 rw [lm hu h0 h1 hw.2.1]
 simp only [Option.bind_some]
 exact sB
theorem NZ {u:Nat} (hu:1099511627776≤u) {x:aX} (h:ry x≤68719476736):vq u x=some x:=by
 unfold ry at h
 unfold vq
 rw [lp hu (by omega)]; rfl
theorem N0 {u:Nat} (hu:1099511627776≤u) {x:aX} (h:ry x≤68719476736):wx u x x=some true:=by
 unfold ry at h
 unfold wx
 simp [lq hu (x:=x.bg) (by omega)]
theorem QH {u:Nat} (hu:1099511627776≤u) {x:List Kid} {n:Int} (h0:0≤n) (h1:n≤1048576) (hw:(Hs Kid.wf) x):uH u x n=some (hP n x.length):=E8 h0 h1 hw.1
theorem QI {u:Nat} (hu:1099511627776≤u) {x:List Kid} (h:x.length≤68719476736):yv u x=some x:=by
 have hlen:x.length≤68719476736:=by omega
 unfold yv
 rw [yd,bB (by rw [Int.toNat_natCast]; omega)]
 simp only [Option.bind_some,Int.toNat_natCast]
 rw [Kv u x _ u (by omega) (by omega),lH]
 ·rfl
 ·intro y i s k hx hi
  unfold CJ
  rw [Si u _]
  rw [br,List.getElem?_eq_getElem hi]; simp
theorem QJ {u:Nat} (hu:1099511627776≤u) {x:List Kid} (h:x.length≤68719476736):yR u x x=some true:=by
 have hlen:x.length≤68719476736:=by omega
 unfold yR
 simp only [bne_self_eq_false,cond_false]
 rw [K1 u x x () u (by omega) (by omega),qs (xs:=x) _ x 0 (by simp)]
 ·rfl
 ·intro y i k hx
  unfold Dc
  rw [br,hx]
  simp only [Option.bind_some]
  rw [Sj]; simp
def dx (x:aA):Nat:=lL x.av+(ry x.a7+(x.aO.length))
theorem QK {u:Nat} (hu:1099511627776≤u) {x:aA} {n:Int} (h0:0≤n) (h1:n≤1048576) (hw:aA.wf x):uI u x n=some (hP n (dx x)):=by
 unfold uI dx
 rw [HE hu h0 h1 hw.2.2.2.1]
 simp only [Option.bind_some]
 exact ny (c:=ry x.a7+(x.aO.length)) (f:=fun r=>(rG u x.a7 r).bind fun r1=>bif decide (r1 < 0) then some (-1) else ((uH u x.aO r1).bind fun r2=>bif decide (r2 < 0) then some (-1) else (some r2))) (fun v0 h2v0 h3v0=>by rw [NY hu h2v0 (by omega) hw.2.2.2.2.1]; simp only [Option.bind_some]; exact ny (c:=x.aO.length) (f:=fun r=>(uH u x.aO r).bind fun r2=>bif decide (r2 < 0) then some (-1) else (some r2)) (fun v1 h2v1 h3v1=>by rw [QH hu h2v1 (by omega) hw.2.2.2.2.2.2.1]; simp only [Option.bind_some]; exact sB) h2v0) h0
theorem QL {u:Nat} (hu:1099511627776≤u) {x:aA} (h:dx x≤68719476736):uL u x=some x:=by
 unfold dx at h
 unfold uL
 rw [HF hu (by omega),NZ hu (by omega),QI hu (by omega)]; rfl
theorem QM {u:Nat} (hu:1099511627776≤u) {x:aA} (h:dx x≤68719476736):u2 u x x=some true:=by
 unfold dx at h
 unfold u2
 simp [HG hu (x:=x.av) (by omega),N0 hu (x:=x.a7) (by omega),QJ hu (x:=x.aO) (by omega)]
theorem QN {u:Nat} (hu:1099511627776≤u) {x:List ca} {n:Int} (h0:0≤n) (h1:n≤1048576) (hw:(Hs ca.wf) x):uJ u x n=some (hP n (fU eZ x)) :=
 Dh (c:=M7 eZ x) (f:=fun r=>mz u u x r 0) (fun hm r h2 h3=>by
  rw [Ko u x r u (by omega) (by omega)]
  exact E9 (f:=eZ) (fun s=>rfl) (fun y i s k hy hs0 hs1=>by unfold CG; rw [Sf hu hs0 hs1 (hw.2 y hy)]; rfl) x 0 r (fun _ h=>h) h2 (by omega)) h0 h1 hw.1
theorem QO {u:Nat} (hu:1099511627776≤u) {x:List ca} (h:Pu.fU eZ x≤68719476736):yw u x=some x:=by
 have hlen:x.length≤68719476736:=by have:=gF (f:=eZ) x; omega
 unfold yw
 rw [yd,bB (by rw [Int.toNat_natCast]; omega)]
 simp only [Option.bind_some,Int.toNat_natCast]
 rw [Kx u x _ u (by omega) (by omega),lH]
 ·rfl
 ·intro y i s k hx hi
  unfold CK
  rw [Sg hu (Nat.le_trans (gE (f:=eZ) hx) h)]
  rw [br,List.getElem?_eq_getElem hi]; simp
theorem QP {u:Nat} (hu:1099511627776≤u) {x:List ca} (h:Pu.fU eZ x≤68719476736):yS u x x=some true:=by
 have hlen:x.length≤68719476736:=by have:=gF (f:=eZ) x; omega
 unfold yS
 simp only [bne_self_eq_false,cond_false]
 rw [K3 u x x () u (by omega) (by omega),qs (xs:=x) _ x 0 (by simp)]
 ·rfl
 ·intro y i k hx
  unfold Dd
  rw [br,hx]
  simp only [Option.bind_some]
  rw [Sh hu (Nat.le_trans (gE (f:=eZ) (List.mem_of_getElem? hx)) h)]; simp
def dn (x:aG):Nat:=x.fA.length+(x.fB.length+(Pu.fU eZ x.fP))
theorem QQ {u:Nat} (hu:1099511627776≤u) {x:aG} {n:Int} (h0:0≤n) (h1:n≤1048576) (hw:aG.wf x):uK u x n=some (hP n (dn x)):=by
 unfold uK dn
 rw [lm hu h0 h1 hw.1]
 simp only [Option.bind_some]
 exact ny (c:=x.fB.length+(Pu.fU eZ x.fP)) (f:=fun r=>(gO u x.fB r).bind fun r1=>bif decide (r1 < 0) then some (-1) else ((uJ u x.fP r1).bind fun r2=>bif decide (r2 < 0) then some (-1) else (some r2))) (fun v0 h2v0 h3v0=>by rw [lm hu h2v0 (by omega) hw.2.1]; simp only [Option.bind_some]; exact ny (c:=Pu.fU eZ x.fP) (f:=fun r=>(uJ u x.fP r).bind fun r2=>bif decide (r2 < 0) then some (-1) else (some r2)) (fun v1 h2v1 h3v1=>by rw [QN hu h2v1 (by omega) hw.2.2.2.1]; simp only [Option.bind_some]; exact sB) h2v0) h0
theorem QR {u:Nat} (hu:1099511627776≤u) {x:aG} (h:dn x≤68719476736):uM u x=some x:=by
 unfold dn at h
 unfold uM
 rw [lp hu (by omega),lp hu (by omega),Du u _,QO hu (by omega)]; rfl
theorem QS {u:Nat} (hu:1099511627776≤u) {x:aG} (h:dn x≤68719476736):u6 u x x=some true:=by
 unfold dn at h
 unfold u6
 simp [lq hu (x:=x.fA) (by omega),lq hu (x:=x.fB) (by omega),Dv,QP hu (x:=x.fP) (by omega)]
theorem QT (u:Nat) (x:dC):uN u x=some x:=by
 unfold uN
 rfl
theorem QU (u:Nat) (x:dC):u7 u x x=some true:=by
 unfold u7
 simp []
def dt (x:ba):Nat:=x.fB.length
theorem N1 {u:Nat} (hu:1099511627776≤u) {x:ba} {n:Int} (h0:0≤n) (h1:n≤1048576) (hw:ba.wf x):rF u x n=some (hP n (dt x)):=by
 unfold rF dt
 rw [lm hu h0 h1 hw.1]
 simp only [Option.bind_some]
 exact sB
theorem N2 {u:Nat} (hu:1099511627776≤u) {x:ba} (h:dt x≤68719476736):rH u x=some x:=by
 unfold dt at h
 unfold rH
 rw [lp hu (by omega)]; rfl
theorem N3 {u:Nat} (hu:1099511627776≤u) {x:ba} (h:dt x≤68719476736):sv u x x=some true:=by
 unfold dt at h
 unfold sv
 simp [lq hu (x:=x.fB) (by omega)]
theorem LF {u:Nat} (hu:1099511627776≤u) {x:List ba} {n:Int} (h0:0≤n) (h1:n≤1048576) (hw:(Hs ba.wf) x):p6 u x n=some (hP n (fU dt x)) :=
 Dh (c:=M7 dt x) (f:=fun r=>jo u u x r 0) (fun hm r h2 h3=>by
  rw [G4 u x r u (by omega) (by omega)]
  exact E9 (f:=dt) (fun s=>rfl) (fun y i s k hy hs0 hs1=>by unfold AB; rw [N1 hu hs0 hs1 (hw.2 y hy)]; rfl) x 0 r (fun _ h=>h) h2 (by omega)) h0 h1 hw.1
theorem LG {u:Nat} (hu:1099511627776≤u) {x:List ba} (h:Pu.fU dt x≤68719476736):s0 u x=some x:=by
 have hlen:x.length≤68719476736:=by have:=gF (f:=dt) x; omega
 unfold s0
 rw [yd,bB (by rw [Int.toNat_natCast]; omega)]
 simp only [Option.bind_some,Int.toNat_natCast]
 rw [G6 u x _ u (by omega) (by omega),lH]
 ·rfl
 ·intro y i s k hx hi
  unfold AE
  rw [N2 hu (Nat.le_trans (gE (f:=dt) hx) h)]
  rw [br,List.getElem?_eq_getElem hi]; simp
theorem LH {u:Nat} (hu:1099511627776≤u) {x:List ba} (h:Pu.fU dt x≤68719476736):tu u x x=some true:=by
 have hlen:x.length≤68719476736:=by have:=gF (f:=dt) x; omega
 unfold tu
 simp only [bne_self_eq_false,cond_false]
 rw [Hh u x x () u (by omega) (by omega),qs (xs:=x) _ x 0 (by simp)]
 ·rfl
 ·intro y i k hx
  unfold A8
  rw [br,hx]
  simp only [Option.bind_some]
  rw [N3 hu (Nat.le_trans (gE (f:=dt) (List.mem_of_getElem? hx)) h)]; simp
theorem N4 {u:Nat} (hu:1099511627776≤u) {x:List aA} {n:Int} (h0:0≤n) (h1:n≤1048576) (hw:(Hs aA.wf) x):pp u x n=some (hP n (fU dx x)) :=
 Dh (c:=M7 dx x) (f:=fun r=>kW u u x r 0) (fun hm r h2 h3=>by
  rw [H6 u x r u (by omega) (by omega)]
  exact E9 (f:=dx) (fun s=>rfl) (fun y i s k hy hs0 hs1=>by unfold BH; rw [QK hu hs0 hs1 (hw.2 y hy)]; rfl) x 0 r (fun _ h=>h) h2 (by omega)) h0 h1 hw.1
theorem N5 {u:Nat} (hu:1099511627776≤u) {x:List aA} (h:Pu.fU dx x≤68719476736):vt u x=some x:=by
 have hlen:x.length≤68719476736:=by have:=gF (f:=dx) x; omega
 unfold vt
 rw [yd,bB (by rw [Int.toNat_natCast]; omega)]
 simp only [Option.bind_some,Int.toNat_natCast]
 rw [Ic u x _ u (by omega) (by omega),lH]
 ·rfl
 ·intro y i s k hx hi
  unfold BK
  rw [QL hu (Nat.le_trans (gE (f:=dx) hx) h)]
  rw [br,List.getElem?_eq_getElem hi]; simp
theorem N6 {u:Nat} (hu:1099511627776≤u) {x:List aA} (h:Pu.fU dx x≤68719476736):wy u x x=some true:=by
 have hlen:x.length≤68719476736:=by have:=gF (f:=dx) x; omega
 unfold wy
 simp only [bne_self_eq_false,cond_false]
 rw [IN u x x () u (by omega) (by omega),qs (xs:=x) _ x 0 (by simp)]
 ·rfl
 ·intro y i k hx
  unfold B2
  rw [br,hx]
  simp only [Option.bind_some]
  rw [QM hu (Nat.le_trans (gE (f:=dx) (List.mem_of_getElem? hx)) h)]; simp
theorem N7 {u:Nat} (hu:1099511627776≤u) {x:List aG} {n:Int} (h0:0≤n) (h1:n≤1048576) (hw:(Hs aG.wf) x):nH u x n=some (hP n (fU dn x)) :=
 Dh (c:=M7 dn x) (f:=fun r=>kX u u x r 0) (fun hm r h2 h3=>by
  rw [H8 u x r u (by omega) (by omega)]
  exact E9 (f:=dn) (fun s=>rfl) (fun y i s k hy hs0 hs1=>by unfold BI; rw [QQ hu hs0 hs1 (hw.2 y hy)]; rfl) x 0 r (fun _ h=>h) h2 (by omega)) h0 h1 hw.1
theorem N8 {u:Nat} (hu:1099511627776≤u) {x:List aG} (h:Pu.fU dn x≤68719476736):vu u x=some x:=by
 have hlen:x.length≤68719476736:=by have:=gF (f:=dn) x; omega
 unfold vu
 rw [yd,bB (by rw [Int.toNat_natCast]; omega)]
 simp only [Option.bind_some,Int.toNat_natCast]
 rw [Ie u x _ u (by omega) (by omega),lH]
 ·rfl
 ·intro y i s k hx hi
  unfold BL
  rw [QR hu (Nat.le_trans (gE (f:=dn) hx) h)]
  rw [br,List.getElem?_eq_getElem hi]; simp
theorem N9 {u:Nat} (hu:1099511627776≤u) {x:List aG} (h:Pu.fU dn x≤68719476736):wz u x x=some true:=by
 have hlen:x.length≤68719476736:=by have:=gF (f:=dn) x; omega
 unfold wz
 simp only [bne_self_eq_false,cond_false]
 rw [IQ u x x () u (by omega) (by omega),qs (xs:=x) _ x 0 (by simp)]
 ·rfl
 ·intro y i k hx
  unfold B3
  rw [br,hx]
  simp only [Option.bind_some]
  rw [QS hu (Nat.le_trans (gE (f:=dn) (List.mem_of_getElem? hx)) h)]; simp
def cU (x:au):Nat:=x.fB.length
theorem LI {u:Nat} (hu:1099511627776≤u) {x:au} {n:Int} (h0:0≤n) (h1:n≤1048576) (hw:au.wf x):p7 u x n=some (hP n (cU x)):=by
 unfold p7 cU
 rw [lm hu h0 h1 hw.2.2.1]
 simp only [Option.bind_some]
 exact sB
theorem LJ {u:Nat} (hu:1099511627776≤u) {x:au} (h:cU x≤68719476736):p9 u x=some x:=by
 unfold cU at h
 unfold p9
 rw [lp hu (by omega)]; rfl
theorem LK {u:Nat} (hu:1099511627776≤u) {x:au} (h:cU x≤68719476736):qr u x x=some true:=by
 unfold cU at h
 unfold qr
 simp [lq hu (x:=x.fB) (by omega)]
theorem JD {u:Nat} (hu:1099511627776≤u) {x:List au} {n:Int} (h0:0≤n) (h1:n≤1048576) (hw:(Hs au.wf) x):iB u x n=some (hP n (fU cU x)) :=
 Dh (c:=M7 cU x) (f:=fun r=>iA u u x r 0) (fun hm r h2 h3=>by
  rw [Gd u x r u (by omega) (by omega)]
  exact E9 (f:=cU) (fun s=>rfl) (fun y i s k hy hs0 hs1=>by unfold zS; rw [LI hu hs0 hs1 (hw.2 y hy)]; rfl) x 0 r (fun _ h=>h) h2 (by omega)) h0 h1 hw.1
theorem JE {u:Nat} (hu:1099511627776≤u) {x:List au} (h:Pu.fU cU x≤68719476736):qQ u x=some x:=by
 have hlen:x.length≤68719476736:=by have:=gF (f:=cU) x; omega
 unfold qQ
 rw [yd,bB (by rw [Int.toNat_natCast]; omega)]
 simp only [Option.bind_some,Int.toNat_natCast]
 rw [Gf u x _ u (by omega) (by omega),lH]
 ·rfl
 ·intro y i s k hx hi
  unfold zT
  rw [LJ hu (Nat.le_trans (gE (f:=cU) hx) h)]
  rw [br,List.getElem?_eq_getElem hi]; simp
theorem JF {u:Nat} (hu:1099511627776≤u) {x:List au} (h:Pu.fU cU x≤68719476736):rp u x x=some true:=by
 have hlen:x.length≤68719476736:=by have:=gF (f:=cU) x; omega
 unfold rp
 simp only [bne_self_eq_false,cond_false]
 rw [Gn u x x () u (by omega) (by omega),qs (xs:=x) _ x 0 (by simp)]
 ·rfl
 ·intro y i k hx
  unfold z9
  rw [br,hx]
  simp only [Option.bind_some]
  rw [LK hu (Nat.le_trans (gE (f:=cU) (List.mem_of_getElem? hx)) h)]; simp
theorem Oa {u:Nat} (hu:1099511627776≤u) {x:List dC} {n:Int} (h0:0≤n) (h1:n≤1048576) (hw:(Hs dC.wf) x):jM u x n=some (hP n x.length):=E8 h0 h1 hw.1
theorem Ob {u:Nat} (hu:1099511627776≤u) {x:List dC} (h:x.length≤68719476736):vz u x=some x:=by
 have hlen:x.length≤68719476736:=by omega
 unfold vz
 rw [yd,bB (by rw [Int.toNat_natCast]; omega)]
 simp only [Option.bind_some,Int.toNat_natCast]
 rw [Ig u x _ u (by omega) (by omega),lH]
 ·rfl
 ·intro y i s k hx hi
  unfold BM
  rw [QT u _]
  rw [br,List.getElem?_eq_getElem hi]; simp
theorem Oc {u:Nat} (hu:1099511627776≤u) {x:List dC} (h:x.length≤68719476736):wB u x x=some true:=by
 have hlen:x.length≤68719476736:=by omega
 unfold wB
 simp only [bne_self_eq_false,cond_false]
 rw [IS u x x () u (by omega) (by omega),qs (xs:=x) _ x 0 (by simp)]
 ·rfl
 ·intro y i k hx
  unfold B4
  rw [br,hx]
  simp only [Option.bind_some]
  rw [QU]; simp
def eU (x:World):Nat:=vd x.fT+(x.jj.length+(Pu.fU dt x.f6+(Pu.fU dx x.fN+(Pu.fU dn x.fD+(Pu.fU cU x.dX+(x.p5.length))))))
theorem Od {u:Nat} (hu:1099511627776≤u) {x:World} {n:Int} (h0:0≤n) (h1:n≤1048576) (hw:World.wf x):vp u x n=some (hP n (eU x)):=by
 unfold vp eU
 rw [Qz hu h0 h1 hw.2.1]
 simp only [Option.bind_some]
 exact ny (c:=x.jj.length+(Pu.fU dt x.f6+(Pu.fU dx x.fN+(Pu.fU dn x.fD+(Pu.fU cU x.dX+(x.p5.length)))))) (f:=fun r=>(gO u x.jj r).bind fun r1=>bif decide (r1 < 0) then some (-1) else ((p6 u x.f6 r1).bind fun r2=>bif decide (r2 < 0) then some (-1) else ((pp u x.fN r2).bind fun r3=>bif decide (r3 < 0) then some (-1) else ((nH u x.fD r3).bind fun r4=>bif decide (r4 < 0) then some (-1) else ((iB u x.dX r4).bind fun r5=>bif decide (r5 < 0) then some (-1) else ((jM u x.p5 r5).bind fun r6=>bif decide (r6 < 0) then some (-1) else (some r6))))))) (fun v0 h2v0 h3v0=>by rw [lm hu h2v0 (by omega) hw.2.2.1]; simp only [Option.bind_some]; exact ny (c:=Pu.fU dt x.f6+(Pu.fU dx x.fN+(Pu.fU dn x.fD+(Pu.fU cU x.dX+(x.p5.length))))) (f:=fun r=>(p6 u x.f6 r).bind fun r2=>bif decide (r2 < 0) then some (-1) else ((pp u x.fN r2).bind fun r3=>bif decide (r3 < 0) then some (-1) else ((nH u x.fD r3).bind fun r4=>bif decide (r4 < 0) then some (-1) else ((iB u x.dX r4).bind fun r5=>bif decide (r5 < 0) then some (-1) else ((jM u x.p5 r5).bind fun r6=>bif decide (r6 < 0) then some (-1) else (some r6)))))) (fun v1 h2v1 h3v1=>by rw [LF hu h2v1 (by omega) hw.2.2.2.1]; simp only [Option.bind_some]; exact ny (c:=Pu.fU dx x.fN+(Pu.fU dn x.fD+(Pu.fU cU x.dX+(x.p5.length)))) (f:=fun r=>(pp u x.fN r).bind fun r3=>bif decide (r3 < 0) then some (-1) else ((nH u x.fD r3).bind fun r4=>bif decide (r4 < 0) then some (-1) else ((iB u x.dX r4).bind fun r5=>bif decide (r5 < 0) then some (-1) else ((jM u x.p5 r5).bind fun r6=>bif decide (r6 < 0) then some (-1) else (some r6))))) (fun v2 h2v2 h3v2=>by rw [N4 hu h2v2 (by omega) hw.2.2.2.2.1]; simp only [Option.bind_some]; exact ny (c:=Pu.fU dn x.fD+(Pu.fU cU x.dX+(x.p5.length))) (f:=fun r=>(nH u x.fD r).bind fun r4=>bif decide (r4 < 0) then some (-1) else ((iB u x.dX r4).bind fun r5=>bif decide (r5 < 0) then some (-1) else ((jM u x.p5 r5).bind fun r6=>bif decide (r6 < 0) then some (-1) else (some r6)))) (fun v3 h2v3 h3v3=>by rw [N7 hu h2v3 (by omega) hw.2.2.2.2.2.1]; simp only [Option.bind_some]; exact ny (c:=Pu.fU cU x.dX+(x.p5.length)) (f:=fun r=>(iB u x.dX r).bind fun r5=>bif decide (r5 < 0) then some (-1) else ((jM u x.p5 r5).bind fun r6=>bif decide (r6 < 0) then some (-1) else (some r6))) (fun v4 h2v4 h3v4=>by rw [JD hu h2v4 (by omega) hw.2.2.2.2.2.2.1]; simp only [Option.bind_some]; exact ny (c:=x.p5.length) (f:=fun r=>(jM u x.p5 r).bind fun r6=>bif decide (r6 < 0) then some (-1) else (some r6)) (fun v5 h2v5 h3v5=>by rw [Oa hu h2v5 (by omega) hw.2.2.2.2.2.2.2.1]; simp only [Option.bind_some]; exact sB) h2v4) h2v3) h2v2) h2v1) h2v0) h0
theorem Oe {u:Nat} (hu:1099511627776≤u) {x:World} (h:eU x≤68719476736):pq u x=some x:=by
 unfold eU at h
 unfold pq
 rw [QC u _,QA hu (by omega),lp hu (by omega),LG hu (by omega),N5 hu (by omega),N8 hu (by omega),JE hu (by omega),Ob hu (by omega)]; rfl
theorem Of {u:Nat} (hu:1099511627776≤u) {x:World} (h:eU x≤68719476736):wC u x x=some true:=by
 unfold eU at h
 unfold wC
 simp [QD,QB hu (x:=x.fT) (by omega),lq hu (x:=x.jj) (by omega),LH hu (x:=x.f6) (by omega),N6 hu (x:=x.fN) (by omega),N9 hu (x:=x.fD) (by omega),JF hu (x:=x.dX) (by omega),Oc hu (x:=x.p5) (by omega)]
def aq (n a b:Int):Bool:=decide (a≤n) && decide (n≤b)
def fV (size n:Int):Bool:=aq size 2 6 && aq n 0 (40*size)
def dj (size n:Int):Int:=if fV size n then (n+size - 1) / size else 0
def cT (size n i:Int):Int×Int:=if aq i 0 (dj size n - 1) then (i*size,min size (n - i*size)) else (0,0)
theorem ce {n a b:Int} (h:aq n a b=true):a≤n∧n≤b:=by simpa [aq] using h
theorem UY {n a b:Int} (h:aq n a b=false):n < a∨b < n:=by
 simp [aq] at h; omega
theorem bM (u:Nat) (n a b:Int):bH u n a b=some (aq n a b):=by
 unfold bH aq
 by_cases h:a≤n <;> simp [h]
theorem bX (u:Nat) (n a b:Int):bF u n a b=some (aq n a b):=by
 unfold bF aq
 by_cases h:a≤n <;> simp [h]
theorem wY (u:Nat) (s n:Int):pg u s n=some (fV s n):=by
 unfold pg fV
 simp only [bM,Option.bind_some]
 cases h:aq s 2 6 with
 | false=>simp
 | true =>
  have:=ce h
  simp (disch:=omega) only [cond_true,Bool.true_and,lx]
theorem wZ (u:Nat) (s n:Int):o9 u s n=some (fV s n):=by
 unfold o9 fV
 simp only [bX,Option.bind_some]
 cases h:aq s 2 6 with
 | false=>simp
 | true =>
  have:=ce h
  simp (disch:=omega) only [cond_true,Bool.true_and,lx]
  rw [Int.mul_comm]
theorem Dw {s n:Int} (h:fV s n=true):2≤s∧s≤6∧0≤n∧n≤40*s:=by
 simp [fV,aq] at h; omega
def Ay (a b:Int):Int:=if aq a 0 1000000000000 && aq b 1 1000000000000 then (a+b - 1) / b else 0
theorem Og (u:Nat) (a b:Int):vY u a b=some (Ay a b):=by
 unfold vY Ay ua
 simp only [bM,Option.bind_some]
 cases h:aq a 0 1000000000000 with
 | false=>simp
 | true =>
  cases h2:aq b 1 1000000000000 with
  | false=>simp
  | true =>
   have:=ce h
   have:=ce h2
   have hb:(b == 0)=false:=by simp; omega
   simp (disch:=omega) [dW,dJ,cH,PF,hb]
theorem Oh (u:Nat) (a b:Int):vC u a b=some (Ay a b):=by
 unfold vC Ay tN
 simp only [bX,Option.bind_some]
 cases h:aq a 0 1000000000000 with
 | false=>simp
 | true =>
  cases h2:aq b 1 1000000000000 with
  | false=>simp
  | true =>
   have:=ce h
   have:=ce h2
   have hb:(b == 0)=false:=by simp; omega
   simp (disch:=omega) [dW,dJ,cH,PF,hb]
theorem MB {s n:Int} (h:fV s n=true):Ay n s=(n+s - 1) / s:=by
 have:=Dw h
 have h1:aq n 0 1000000000000=true:=by simp [aq]; omega
 have h2:aq s 1 1000000000000=true:=by simp [aq]; omega
 simp [Ay,h1,h2]
theorem w4 (u:Nat) (s n:Int):pi u s n=some (dj s n):=by
 unfold pi dj
 simp only [wY,Og,Option.bind_some]
 cases h:fV s n with
 | false=>simp
 | true=>simp [MB h]
theorem ki (u:Nat) (s n:Int):pa u s n=some (dj s n):=by
 unfold pa dj
 simp only [wZ,Oh,Option.bind_some]
 cases h:fV s n with
 | false=>simp
 | true=>simp [MB h]
theorem gU (s n:Int):0≤dj s n∧dj s n≤40:=by
 unfold dj
 split
 ·rename_i h
  have h:=Dw h
  refine ⟨Int.ediv_nonneg (by omega) (by omega),?_⟩
  have:(n+s - 1) / s < 41:=Int.ediv_lt_of_lt_mul (by omega) (by omega)
  omega
 ·omega
theorem LL {s n i:Int} (h:aq i 0 (dj s n - 1)=true):fV s n=true∧0≤i∧i≤39:=by
 have h1:=ce h
 have:=gU s n
 refine ⟨?_,by omega,by omega⟩
 cases h2:fV s n with
 | true=>rfl
 | false=>simp [dj,h2] at h1; omega
theorem LM {s i:Int} (h1:2≤s) (h2:s≤6) (h3:0≤i) (h4:i≤39):0≤i*s∧i*s≤234 :=
 ⟨Int.mul_nonneg h3 (by omega),Int.le_trans (Int.mul_le_mul h4 h2 (by omega) (by omega)) (by omega)⟩
theorem oX (u:Nat) (s n i:Int):jc u s n i=some (cT s n i):=by
 unfold jc cT
 have hb:=gU s n
 simp (disch:=omega) only [w4,bM,Option.bind_some,cH]
 cases h:aq i 0 (dj s n - 1) with
 | false=>simp
 | true =>
  have ⟨h1,h2,h3⟩:=LL h
  have h1:=Dw h1
  have h4:=LM (s:=s) (i:=i) (by omega) (by omega) h2 h3
  simp (disch:=omega) [lx,cH]
  omega
theorem Sm (u:Nat) (a b:Int):AJ u a b=some (min a b):=by
 unfold AJ
 by_cases h:b < a <;> simp [h] <;> omega
theorem mO (u:Nat) (s n i:Int):f8 u s n i=some (cT s n i):=by
 unfold f8 cT
 have hb:=gU s n
 simp (disch:=omega) only [ki,bX,Option.bind_some,cH]
 cases h:aq i 0 (dj s n - 1) with
 | false=>simp
 | true =>
  have ⟨h1,h2,h3⟩:=LL h
  have h1:=Dw h1
  have h4:=LM (s:=s) (i:=i) (by omega) (by omega) h2 h3
  simp (disch:=omega) [lx,cH,Sm]
def aF (b:List Int):Prop:=∀ x∈b,0≤x∧x≤255
def sD:List Int→Int→Int→Int×Int
 | [],x,y=>(x,y)
 | c :: b,x,y=>sD b ((x+c) % 251) ((y+(x+c) % 251) % 251)
def cu (b:List Int):Int:=(sD b 0 0).1+251*(sD b 0 0).2
theorem Fs (b:List Int):∀ (x y:Int),0≤x→x < 251→0≤y→y < 251→0≤(sD b x y).1∧(sD b x y).1 < 251∧0≤(sD b x y).2∧(sD b x y).2 < 251:=by
 induction b with
 | nil=>intro x y h1 h2 h3 h4; exact ⟨h1,h2,h3,h4⟩
 | cons c b ih =>
  intro x y h1 h2 h3 h4
  exact ih _ _ (by omega) (by omega) (by omega) (by omega)
theorem D2 (b:List Int):0≤cu b∧cu b≤63000:=by
 have:=Fs b 0 0 (by omega) (by omega) (by omega) (by omega)
 unfold cu; omega
theorem Sn (u:Nat):∀ (p b:List Int) (i:Nat) (x y:Int),aF b→0≤x→x < 251→0≤y→y < 251 →
  bt (CM u p) (xu u p) b i (x,y)=qR u (sD b x y).1 (sD b x y).2:=by
 intro p b
 induction b with
 | nil=>intros; rfl
 | cons c b ih =>
  intro i x y hb h1 h2 h3 h4
  have hc:=hb c (by simp)
  have e1:ru .i64 (aW .i64 x (IntKind.wrap .i64 c)) 251=(x+c) % 251:=by
   rw [wrap_i64 (by omega) (by omega),dJ (by omega) (by omega),Dg (by omega)]
  have e2:ru .i64 (aW .i64 y ((x+c) % 251)) 251=(y+(x+c) % 251) % 251:=by
   rw [dJ (by omega) (by omega),Dg (by omega)]
  simp only [bt,xu,e1,e2]
  exact ih (i+1) _ _ (fun z hz=>hb z (by simp [hz])) (by omega) (by omega) (by omega) (by omega)
theorem So (u:Nat):∀ (p b:List Int) (i:Nat) (x y:Int),aF b→0≤x→x < 251→0≤y→y < 251 →
  bt (C3 u p) (xD u p) b i (x,y)=ra u (sD b x y).1 (sD b x y).2:=by
 intro p b
 induction b with
 | nil=>intros; rfl
 | cons c b ih =>
  intro i x y hb h1 h2 h3 h4
  have hc:=hb c (by simp)
  have e1:ru .i64 (aW .i64 x (IntKind.wrap .i64 c)) 251=(x+c) % 251:=by
   rw [wrap_i64 (by omega) (by omega),dJ (by omega) (by omega),Dg (by omega)]
  have e2:ru .i64 (aW .i64 y ((x+c) % 251)) 251=(y+(x+c) % 251) % 251:=by
   rw [dJ (by omega) (by omega),Dg (by omega)]
  simp only [bt,xD,e1,e2]
  exact ih (i+1) _ _ (fun z hz=>hb z (by simp [hz])) (by omega) (by omega) (by omega) (by omega)
theorem w5 {u:Nat} (hu:1099511627776≤u) {b:List Int} (hb:aF b) (hl:b.length≤1073741824):pb u b=some (cu b):=by
 unfold pb
 rw [Ky u b (0,0) u (by omega) (by omega),Sn u b b 0 0 0 hb (by omega) (by omega) (by omega) (by omega)]
 have:=Fs b 0 0 (by omega) (by omega) (by omega) (by omega)
 unfold qR cu
 simp (disch:=omega) only [lx,dJ]
theorem Tf {n m:Int} (hm:0 < m):(n.tmod m+m).tmod m=n % m:=by
 rcases Int.le_total 0 n with h | h
 ·rw [Int.tmod_eq_emod_of_nonneg h,Int.tmod_eq_emod_of_nonneg (by have:=Int.emod_nonneg n (show m≠0 by omega); omega)]
  simp
 ·have h1:n.tmod m=-((-n) % m):=by
   rw [show n=-(-n) by omega,Int.neg_tmod,Int.tmod_eq_emod_of_nonneg (by omega)]; simp
  have h2:=Int.emod_nonneg (-n) (show m≠0 by omega)
  have h3:=Int.emod_lt_of_pos (-n) hm
  rw [h1,Int.tmod_eq_emod_of_nonneg (by omega)]
  have:(-((-n) % m)+m) % m=n % m:=by
   have e:-n=m*(-n / m)+(-n) % m:=(Int.mul_ediv_add_emod (-n) m).symm
   have e2:-((-n) % m)+m=n+m*(-n / m+1):=by
    rw [Int.mul_add]; omega
   rw [e2,Int.add_mul_emod_self_left]
  exact this
theorem QV {n m:Int} (hm:0 < m):-m < n.tmod m∧n.tmod m < m:=by
 rcases Int.le_total 0 n with h | h
 ·rw [Int.tmod_eq_emod_of_nonneg h]
  have h2:=Int.emod_nonneg n (show m≠0 by omega)
  have h3:=Int.emod_lt_of_pos n hm
  omega
 ·have h1:n.tmod m=-((-n) % m):=by
   rw [show n=-(-n) by omega,Int.neg_tmod,Int.tmod_eq_emod_of_nonneg (by omega)]; simp
  have h2:=Int.emod_nonneg (-n) (show m≠0 by omega)
  have h3:=Int.emod_lt_of_pos (-n) hm
  omega
theorem TO (u:Nat) (n m:Int):Au u n m=some (if aq m 1 1000000000000 then n % m else 0):=by
 unfold Au
 simp only [bM,Option.bind_some]
 cases h:aq m 1 1000000000000 with
 | false=>simp
 | true =>
  have h3:=ce h
  have hb:(m == 0)=false:=by simp; omega
  have h4:=QV (n:=n) (m:=m) (by omega)
  simp only [hb,Bool.not_true,cond_false,Bool.not_false,UR,Option.bind_some]
  have e1:ru .i64 n m=n.tmod m:=rfl
  rw [e1,dJ (by omega) (by omega)]
  show some ((n.tmod m+m).tmod m)=_
  rw [Tf (by omega)]; simp
theorem TP (u:Nat) (x y:Int):C0 u x y=some (x % 251+251*(y % 251)):=by
 unfold C0
 have h:aq 251 1 1000000000000=true:=by decide
 simp only [TO,Option.bind_some,h,if_true]
 simp (disch:=omega) only [lx,dJ]
theorem Bj {u:Nat} (hu:1099511627776≤u) {b:List Int} (hb:aF b) (hl:b.length≤1073741824):pj u b=some (cu b):=by
 unfold pj
 rw [KN u b (0,0) u (by omega) (by omega),So u b b 0 0 0 hb (by omega) (by omega) (by omega) (by omega)]
 have:=Fs b 0 0 (by omega) (by omega) (by omega) (by omega)
 unfold ra cu
 simp only [TP,Option.bind_some]
 congr 1
 omega
def kj:Nat→Int→List Int
 | 0,_=>[]
 | n+1,s=>kj n (s / 256)++[s % 256]
def tD:Nat→Int→Option (List Int)
 | 0,s=>if s=1 then some [] else none
 | n+1,s=>if s=1 then some [] else if s < 256 then none else (tD n (s / 256)).map (·++[s % 256])
def cd (s:Int):List Int×Bool:=if s < 1 then ([],false) else match tD 6 s with | some b=>(b,true) | none=>([],false)
def Cc:Nat→Int→Nat
 | 0,_=>0
 | k+1,t=>if 1 < t then Cc k (t / 256)+1 else 0
def um:Nat→Int→Int
 | 0,t=>t
 | k+1,t=>if 1 < t then um k (t / 256) else t
theorem Yp:∀ (k:Nat) (t:Int),Cc k t≤k:=by
 intro k
 induction k with
 | zero=>intro t; simp [Cc]
 | succ k ih=>intro t; unfold Cc; have:=ih (t / 256); split <;> omega
theorem QW:∀ (k:Nat) (t:Int),um k t=t / 256 ^ Cc k t:=by
 intro k
 induction k with
 | zero=>intro t; simp [um,Cc]
 | succ k ih =>
  intro t
  unfold um Cc
  split
  ·rw [ih,Int.ediv_ediv_of_nonneg (by omega),Int.pow_succ,Int.mul_comm]
  ·simp
theorem LN:∀ (k:Nat) (t:Int),0≤t→tD k t=if um k t=1 then some (kj (Cc k t) t) else none:=by
 intro k
 induction k with
 | zero=>intro t h; simp [tD,um,Cc,kj]
 | succ k ih =>
  intro t h
  unfold tD um Cc
  by_cases h1:t=1
  ·subst h1; simp [kj]
  ·rw [if_neg h1]
   by_cases h2:1 < t
   ·simp only [if_pos h2]
    by_cases h3:t < 256
    ·have:t / 256=0:=Int.ediv_eq_zero_of_lt h h3
     rw [if_pos h3,this]
     have:um k 0=0:=by rw [QW]; simp
     rw [this]; simp
    ·rw [if_neg h3,ih _ (by omega)]
     split <;> simp [kj]
   ·have:t=0:=by omega
    subst this; simp
theorem Yq:∀ (k:Nat) (t:Int),0≤t→t / 256 ^ k≤um k t:=by
 intro k
 induction k with
 | zero=>intro t h; simp [um]
 | succ k ih =>
  intro t h
  unfold um
  split
  ·have:=ih (t / 256) (by omega)
   rwa [Int.ediv_ediv_of_nonneg (by omega),Int.mul_comm,← Int.pow_succ] at this
  ·exact Int.ediv_le_self _ h
theorem TQ:∀ (n:Nat) (s:Int),aF (kj n s):=by
 intro n
 induction n with
 | zero=>intro s x hx; simp [kj] at hx
 | succ n ih =>
  intro s x hx
  simp only [kj,List.mem_append,List.mem_singleton] at hx
  rcases hx with h | h
  ·exact ih _ x h
  ·omega
theorem Sp:∀ (n:Nat) (s:Int),(kj n s).length=n:=by
 intro n
 induction n with
 | zero=>intro s; rfl
 | succ n ih=>intro s; simp [kj,ih]
theorem D3 {s:Int} {b:List Int} (h:cd s=(b,true)):1≤s∧s / 256 ^ b.length=1∧b=kj b.length s∧b.length≤6:=by
 unfold cd at h
 split at h
 ·cases h
 ·rename_i h1
  rw [LN 6 s (by omega)] at h
  have he:=QW 6 s
  have hn:=Yp 6 s
  by_cases h2:um 6 s=1
  ·simp only [h2,if_true,Prod.mk.injEq,and_true] at h
   subst h
   rw [Sp]
   exact ⟨by omega,by rw [← he]; exact h2,rfl,hn⟩
  ·simp [h2] at h
theorem tE (s:Int):aF (cd s).1∧(cd s).1.length≤6:=by
 match h:cd s with
 | (b,true) =>
  have h:=D3 h
  exact ⟨by rw [h.2.2.1]; exact TQ _ _,h.2.2.2⟩
 | (b,false) =>
  have:b=[]:=by
   unfold cd at h
   split at h
   ·simp at h; exact h.symm ▸ rfl
   ·split at h <;> simp at h; exact h.symm ▸ rfl
  subst this
  exact ⟨by simp [aF],by simp⟩
theorem Y9 (a:Int) (h:0≤a):IntKind.wrap .u8 (fE .i64 a 255)=a % 256:=by
 have:fE .i64 a 255=a % 256:=by
  unfold fE
  have e:(BitVec.ofInt (IntKind.bits .i64) a &&& BitVec.ofInt (IntKind.bits .i64) 255).toNat=(a % 256).toNat:=by
   change (BitVec.ofInt 64 a &&& BitVec.ofInt 64 255).toNat=(a % 256).toNat
   rw [BitVec.toNat_and,BitVec.toNat_ofInt,BitVec.toNat_ofInt,show ((255:Int) % ((2 ^ 64:Nat):Int)).toNat=2 ^ 8 - 1 by decide,Nat.and_two_pow_sub_one_eq_mod]
   omega
  rw [e]
  exact (wrap_i64 (by omega) (by omega)).trans (by omega)
 rw [this,uk]; omega
theorem HH (u:Nat):∀ (k n:Nat) (s:Int) (acc:List Int),n < k→1≤s→s < 256 ^ n*2→acc.length+n≤1000 →
  na u k s acc=some (match tD n s with | some b=>(b++acc,true) | none=>([],false)):=by
 intro k
 induction k with
 | zero=>intro n s acc h; omega
 | succ k ih =>
  intro n s acc hk h1 h2 h3
  unfold na
  by_cases h4:s=1
  ·subst h4
   cases n <;> simp [tD,zj]
  ·have h5:s > 1:=by omega
   cases n with
   | zero=>simp at h2; omega
   | succ n =>
    simp only [h5,decide_true,cond_true,tD,if_neg h4]
    by_cases h6:s < 256
    ·simp [h6]
    ·have hw:([IntKind.wrap .u8 (fE .i64 s 255)])=[s % 256]:=by rw [Y9 _ (by omega)]
     simp only [h6,decide_false,cond_false,if_false,qac,hw]
     rw [bB (by simp; omega)]
     simp only [Option.bind_some]
     rw [ih n (s / 256) _ (by omega) (by omega) (by rw [Int.pow_succ] at h2; omega) (by simp; omega)]
     cases tD n (s / 256) <;> simp
theorem UZ {s:Int} (h:562949953421311 < s):cd s=([],false):=by
 unfold cd
 rw [if_neg (by omega),LN 6 s (by omega)]
 have:=Yq 6 s (by omega)
 have e:(256:Int) ^ 6=281474976710656:=by decide
 rw [e] at this
 rw [if_neg (by omega)]
theorem zL {u:Nat} (hu:1099511627776≤u) (s:Int):pr u s=some (cd s):=by
 unfold pr
 simp only [bX,Option.bind_some]
 cases h:aq s 1 562949953421311 with
 | false =>
  rcases UY h with h | h
  ·simp [cd,h]
  ·rw [UZ h]; simp
 | true =>
  have h:=ce h
  have e:(256:Int) ^ 6=281474976710656:=by decide
  simp only [Bool.not_true,cond_false]
  rw [HH u u 6 s [] (by omega) (by omega) (by rw [e]; omega) (by simp)]
  unfold cd
  rw [if_neg (by omega)]
  cases tD 6 s <;> simp
theorem VS (s:Int) (j:Nat) (h:j≤8):n4 .i64 s (8*(j:Int))=s / 256 ^ j:=by
 have:=TB .i64 s (8*j) (by simp [IntKind.bits]; omega)
 rw [show ((8*j:Nat):Int)=8*(j:Int) by simp] at this
 rw [this,show (256:Int)=2 ^ 8 by decide,← Int.pow_mul]
theorem Xw {α ρ:Type} {fin:List α→Option ρ} {body:Nat→List α→(List α→Option ρ)→Option ρ} (f:Nat→α) (n:Nat) (hb:∀ i s k,i < n→s.length=n→body i s k=k (s.set i (f i))) :
  ∀ (m i:Nat) (s:List α),i+m=n→s.length=n→s.take i=(List.range i).map f→pT fin body m i s=fin ((List.range n).map f):=by
 intro m
 induction m with
 | zero =>
  intro i s h1 h2 h3
  simp only [pT]
  congr 1
  rw [List.take_of_length_le (by omega)] at h3
  rw [h3,show i=n by omega]
 | succ m ih =>
  intro i s h1 h2 h3
  simp only [pT]
  rw [hb i s _ (by omega) h2]
  refine ih (i+1) _ (by omega) (by simp [h2]) ?_
  rw [List.take_add_one,List.take_set_of_le (Nat.le_refl i),h3,List.getElem?_set_self (by omega),List.range_succ,List.map_append]
  rfl
theorem TR:∀ (n:Nat) (s:Int),kj n s=(List.range n).map fun i=>s / 256 ^ (n - 1 - i) % 256:=by
 intro n
 induction n with
 | zero=>intro s; rfl
 | succ n ih =>
  intro s
  rw [kj,ih,List.range_succ,List.map_append]
  congr 1
  ·apply List.map_congr_left
   intro i hi
   have hi:i < n:=by simpa using hi
   rw [Int.ediv_ediv_of_nonneg (by omega),Int.mul_comm,← Int.pow_succ,show (n - 1 - i).succ=n+1 - 1 - i by omega]
  ·simp
theorem HI {u:Nat} (hu:1099511627776≤u) (s:Int) (n:Nat) (hn:n≤6):pO u s (n:Int)=some (if 1≤s∧s / 256 ^ n=1 then (kj n s,true) else ([],false)):=by
 unfold pO
 by_cases h1:s < 1
 ·have:¬ (1≤s):=by omega
  simp [h1,this,nk]
 ·rw [lx (by omega) (by omega),VS _ _ (by omega),bB (by omega)]
  by_cases h2:s / 256 ^ n=1
  ·have h3:(1:Int)≤s:=by omega
   simp only [h1,decide_false,cond_false,Option.bind_some,h2,h3,true_and,if_true]
   unfold nk
   rw [show ((1:Int) != 1)=false by decide]
   simp only [cond_false,beq_self_eq_true,Bool.or_true,Bool.and_true,Int.toNat_natCast]
   rw [bB (by omega),bB (by omega)]
   simp only [Option.bind_some]
   rw [Iy u s n _ u (by simp; omega) (by simp; omega)]
   simp only [List.length_replicate,Int.toNat_natCast]
   rw [Xw (fun i=>s / 256 ^ (n - 1 - i) % 256) n _ n 0 _ (by omega) (by simp) (by simp),← TR]
   ·rfl
   ·intro i t k hi ht
    unfold BT
    have e:cy .i64 (cy .i64 (n:Int) 1) (i:Int)=((n - 1 - i:Nat):Int):=by
     rw [cH (a:=(n:Int)) (by omega) (by omega),cH (by omega) (by omega)]; omega
    rw [e,lx (by omega) (by omega),VS _ _ (by omega),bB (by omega),uk,br,List.getElem?_eq_getElem (by omega)]
    simp
  ·have:(s / 256 ^ n != 1)=true:=by simpa using h2
   simp only [h1,decide_false,cond_false,Option.bind_some,this]
   simp [nk,h2]
theorem HJ {u:Nat} (hu:1099511627776≤u) (s:Int):∀ (m n k:Nat),n+m=6→m < k→gQ u k s (n:Int)=pO u s ((n+Cc m (s / 256 ^ n):Nat):Int):=by
 intro m
 induction m with
 | zero =>
  intro n k h1 h2
  obtain ⟨k,rfl⟩:∃ j,k=j+1:=⟨k - 1,by omega⟩
  unfold gQ
  have:¬ ((n:Int) < 6):=by omega
  simp [this,pP,Cc]
 | succ m ih =>
  intro n k h1 h2
  obtain ⟨k,rfl⟩:∃ j,k=j+1:=⟨k - 1,by omega⟩
  unfold gQ
  have h3:(n:Int) < 6:=by omega
  rw [lx (by omega) (by omega),VS _ _ (by omega),bB (by omega)]
  simp only [h3,decide_true,cond_true,Option.bind_some,pP,Cc]
  by_cases h4:s / 256 ^ n > 1
  ·have h4':1 < s / 256 ^ n:=h4
   simp only [h4,decide_true,cond_true,h4',if_true]
   rw [jx (by omega),ih (n+1) k (by omega) (by omega),Int.pow_succ,← Int.ediv_ediv_of_nonneg (Int.le_of_lt (Int.pow_pos (by omega)))]
   congr 1
   omega
  ·have h4':¬ 1 < s / 256 ^ n:=h4
   simp only [h4,decide_false,cond_false,h4',if_false]
   simp
theorem ED {u:Nat} (hu:1099511627776≤u) (s:Int):nJ u s=some (cd s):=by
 unfold nJ
 have:=HJ hu s 6 0 u (by omega) (by omega)
 simp only [Int.natCast_zero,Int.pow_zero,Int.ediv_one,Nat.zero_add] at this
 rw [this,HI hu s _ (Yp 6 s)]
 unfold cd
 by_cases h:s < 1
 ·have:¬ (1≤s):=by omega
  simp [h,this]
 ·rw [if_neg h,LN 6 s (by omega),QW]
  have:1≤s:=by omega
  by_cases h2:s / 256 ^ Cc 6 s=1 <;> simp [h2,this]
def oY:List Int→Int→Int
 | [],s=>s
 | c :: b,s=>oY b (256*s+c)
def eg (b:List Int):bN:=if 6 < b.length then ⟨0,0⟩ else ⟨cu b,oY b 1⟩
theorem Yr (a b:List Int):∀ s,oY (a++b) s=oY b (oY a s):=by
 induction a with
 | nil=>intro s; rfl
 | cons c a ih=>intro s; exact ih _
theorem U0:∀ (n:Nat) (s:Int),s / 256 ^ n=1→oY (kj n s) 1=s:=by
 intro n
 induction n with
 | zero=>intro s h; simpa [kj,oY] using h.symm
 | succ n ih =>
  intro s h
  rw [kj,Yr,ih]
  ·simp only [oY]; omega
  ·rw [Int.ediv_ediv_of_nonneg (by omega),Int.mul_comm,← Int.pow_succ]; exact h
theorem Cx {s:Int} {b:List Int} (h:cd s=(b,true)):eg b=⟨cu b,s⟩:=by
 have ⟨h1,h2,h3,h4⟩:=D3 h
 unfold eg
 have:=U0 b.length s h2
 rw [← h3] at this
 rw [if_neg (by omega),this]
theorem VT:∀ (b:List Int) (s:Int) (n:Nat),aF b→0≤s→s < 256 ^ n*2→0≤oY b s∧oY b s < 256 ^ (n+b.length)*2:=by
 intro b
 induction b with
 | nil=>intro s n _ h1 h2; exact ⟨h1,h2⟩
 | cons c b ih =>
  intro s n hb h1 h2
  have hc:=hb c (by simp)
  have:=ih (256*s+c) (n+1) (fun z hz=>hb z (by simp [hz])) (by omega) (by rw [Int.pow_succ]; omega)
  simp only [List.length_cons,oY]
  rwa [show n+(b.length+1)=n+1+b.length by omega]
theorem TS (u:Nat):∀ (p b:List Int) (i:Nat) (s:Int) (n:Nat),aF b→0≤s→s < 256 ^ n*2→n+b.length≤6 →
  bt (Ef u p) (zi u p) b i s=s4 u p (oY b s):=by
 intro p b
 induction b with
 | nil=>intros; rfl
 | cons c b ih =>
  intro i s n hb h1 h2 h3
  have hc:=hb c (by simp)
  simp only [List.length_cons] at h3
  have hp:(256:Int) ^ n≤1099511627776:=by
   rcases (show n=0∨n=1∨n=2∨n=3∨n=4∨n=5 by omega) with rfl | rfl | rfl | rfl | rfl | rfl <;> decide
  simp only [bt,zi]
  rw [wrap_i64 (by omega) (by omega),lx (by omega) (by omega),dJ (by omega) (by omega)]
  exact ih (i+1) _ (n+1) (fun z hz=>hb z (by simp [hz])) (by omega) (by rw [Int.pow_succ]; omega) (by omega)
theorem n8 {u:Nat} (hu:1099511627776≤u) {b:List Int} (hb:aF b) (hl:b.length≤1073741824):gZ u b=some (eg b):=by
 unfold gZ eg
 by_cases h:6 < b.length
 ·have:(b.length:Int) > 6:=by omega
  simp [h,this]
 ·have:¬ ((b.length:Int) > 6):=by omega
  simp only [this,decide_false,cond_false,h,if_false]
  rw [MS u b 1 u (by omega) (by omega),TS u b b 0 1 0 hb (by omega) (by decide) (by omega)]
  unfold s4
  rw [w5 hu hb hl]
  rfl
def yY (size len:Int) (i:Nat) (s:bN):Bool:=(cd s.fS).2 && ((cd s.fS).1.length == (cT size len i).2) && (cu (cd s.fS).1 == s.fW)
def oZ (size len:Int):List bN→Nat→Bool
 | [],_=>true
 | s :: l,i=>yY size len i s && oZ size len l (i+1)
def cS (m:af):Bool :=
 if m.aP=0 then m.aS == 0 && m.aY == 0 && m.aD.length == 0
 else aq m.aP 1 1000000 && fV m.aS m.aY && ((m.aD.length:Int) == dj m.aS m.aY) && oZ m.aS m.aY m.aD 0
theorem Cy (a b:Int):(a != b)=!(a == b):=rfl
theorem TT {u:Nat} (hu:1099511627776≤u) (m:af):∀ (l:List bN) (i:Nat),bt (Ej u m) (zw u m) l i ()=some (oZ m.aS m.aY l i):=by
 intro l
 induction l with
 | nil=>intro i; rfl
 | cons s l ih =>
  intro i
  have hb:=tE s.fS
  simp only [bt,zw,ED hu,oX,Option.bind_some,oZ,yY,lF,ih,Bj hu hb.1 (show _≤_ by omega),Cy]
  cases (cd s.fS).2 <;> cases (((cd s.fS).1.length:Int) == (cT m.aS m.aY ↑i).2) <;> cases (cu (cd s.fS).1 == s.fW) <;> simp
theorem TU {u:Nat} (hu:1099511627776≤u) (m:af):∀ (l:List bN) (i:Nat),l=m.aD.drop i→bt (Eg u m) (zk u m) l i ()=some (oZ m.aS m.aY l i):=by
 intro l
 induction l with
 | nil=>intro i _; rfl
 | cons s l ih =>
  intro i hd
  have hb:=tE s.fS
  have hx:m.aD[i]?=some s:=by
   have:=congrArg List.head? hd
   simpa [List.head?_drop] using this.symm
  have hl:l=m.aD.drop (i+1):=by
   have:=congrArg List.tail hd
   simpa [List.tail_drop] using this
  simp only [bt,zk,zL hu,mO,Option.bind_some,oZ,yY,lE,ih (i+1) hl,n8 hu hb.1 (show _≤_ by omega),Cy,br,hx]
  cases h:(cd s.fS).2 with
  | false=>simp
  | true =>
   have h2:=Cx (s:=s.fS) (b:=(cd s.fS).1) (by rw [← h])
   rw [h2]
   have h3:(([cu (cd s.fS).1,s.fS]:List Int) == [s.fW,s.fS])=(cu (cd s.fS).1 == s.fW):=by simp
   simp only [h3]
   cases (((cd s.fS).1.length:Int) == (cT m.aS m.aY ↑i).2) <;> cases (cu (cd s.fS).1 == s.fW) <;> simp
theorem n9 {u:Nat} (hu:1099511627776≤u) (m:af) (hl:m.aD.length≤1073741824):mG u m=some (cS m):=by
 unfold mG cS iH ti
 simp only [bM,wY,w4,Option.bind_some,Cy,M0 u m () u (by omega) (by omega),TT hu]
 have e0:(((m.aD.length:Int)) == 0)=(m.aD.length == 0):=by rw [Bool.eq_iff_iff]; simp
 by_cases h:m.aP=0
 ·have:aq m.aP 1 1000000=false:=by rw [h]; rfl
  simp only [h,if_true,beq_self_eq_true,cond_true,e0] at this ⊢
  cases (m.aS == 0) <;> cases (m.aY == 0) <;> cases (m.aD.length == 0) <;> simp [this]
 ·have:(m.aP == 0)=false:=by simpa using h
  simp only [h,if_false,this,cond_false,Option.bind_some]
  cases aq m.aP 1 1000000 <;> cases fV m.aS m.aY <;> cases ((m.aD.length:Int) == dj m.aS m.aY) <;> simp
theorem iz {u:Nat} (hu:1099511627776≤u) (m:af) (hl:m.aD.length≤1073741824):jq u m=some (cS m):=by
 unfold jq cS s5
 simp only [bX,wZ,ki,Option.bind_some,Cy,MT u m () u (by omega) (by omega),TU hu m m.aD 0 (by simp)]
 have e0:(((m.aD.length:Int)) == 0)=(m.aD.length == 0):=by rw [Bool.eq_iff_iff]; simp
 by_cases h:m.aP=0
 ·simp only [h,if_true,beq_self_eq_true,cond_true,e0]
  cases (m.aS == 0) <;> cases (m.aY == 0) <;> cases (m.aD.length == 0) <;> simp
 ·have:(m.aP == 0)=false:=by simpa using h
  simp only [h,if_false,this,cond_false,Option.bind_some]
  cases aq m.aP 1 1000000 <;> cases fV m.aS m.aY <;> cases ((m.aD.length:Int) == dj m.aS m.aY) <;> simp
def cV:Nat→Int→List Int
 | 0,n=>[n % 256]
 | k+1,n=>if n≤127 then [n % 256] else (n % 128+128) :: cV k (n / 128)
def aQ (b:List Int) (n:Int):List Int:=if aq n 0 1000000000000 then b++cV 9 n else b
theorem Zv:∀ a:Nat,a < 256→(a ||| 128)=a % 128+128:=by decide +kernel
theorem ZJ (a:Int) (h1:0≤a) (h2:a < 256):sZ .u8 a 128=a % 128+128:=by
 unfold sZ
 have e:(BitVec.ofInt (IntKind.bits .u8) a ||| BitVec.ofInt (IntKind.bits .u8) 128).toNat=(a % 128+128).toNat:=by
  change (BitVec.ofInt 8 a ||| BitVec.ofInt 8 128).toNat=_
  rw [BitVec.toNat_or,BitVec.toNat_ofInt,BitVec.toNat_ofInt,show ((128:Int) % ((2 ^ 8:Nat):Int)).toNat=128 by decide,Zv _ (by omega)]
  omega
 rw [e,uk]; omega
theorem TV (a:Int):fE .i64 a 127=a % 128:=by
 unfold fE
 have e:(BitVec.ofInt (IntKind.bits .i64) a &&& BitVec.ofInt (IntKind.bits .i64) 127).toNat=(a % 128).toNat:=by
  change (BitVec.ofInt 64 a &&& BitVec.ofInt 64 127).toNat=(a % 128).toNat
  rw [BitVec.toNat_and,BitVec.toNat_ofInt,BitVec.toNat_ofInt,show ((127:Int) % ((2 ^ 64:Nat):Int)).toNat=2 ^ 7 - 1 by decide,Nat.and_two_pow_sub_one_eq_mod]
  omega
 rw [e]
 exact (wrap_i64 (by omega) (by omega)).trans (by omega)
theorem WS (a:Int) (h1:0≤a) (h2:a < 256):sZ .i64 a 128=a % 128+128:=by
 unfold sZ
 have e:(BitVec.ofInt (IntKind.bits .i64) a ||| BitVec.ofInt (IntKind.bits .i64) 128).toNat=(a % 128+128).toNat:=by
  change (BitVec.ofInt 64 a ||| BitVec.ofInt 64 128).toNat=_
  rw [BitVec.toNat_or,BitVec.toNat_ofInt,BitVec.toNat_ofInt,show ((128:Int) % ((2 ^ 64:Nat):Int)).toNat=128 by decide,show (a % ((2 ^ 64:Nat):Int)).toNat=a.toNat by omega,Zv _ (by omega)]
  omega
 rw [e]
 exact (wrap_i64 (by omega) (by omega)).trans (by omega)
theorem D4:∀ (k:Nat) (n:Int),(cV k n).length≤k+1:=by
 intro k
 induction k with
 | zero=>intro n; simp [cV]
 | succ k ih =>
  intro n
  unfold cV
  have:=ih (n / 128)
  split <;> simp <;> omega
theorem Tg:∀ (k:Nat) (n:Int),aF (cV k n):=by
 intro k
 induction k with
 | zero=>intro n x hx; simp [cV] at hx; omega
 | succ k ih =>
  intro n x hx
  unfold cV at hx
  split at hx
  ·simp at hx; omega
  ·rcases List.mem_cons.1 hx with h | h
   ·omega
   ·exact ih _ x h
theorem Ft {a b:List Int} (h:aF a) (k:aF b):aF (a++b):=by
 intro x hx
 rcases List.mem_append.1 hx with g | g
 ·exact h x g
 ·exact k x g
theorem Fu (u:Nat):∀ (j k:Nat) (n:Int) (b:List Int),n < 128 ^ (j+1)→j < k→b.length+j≤1099511627776→iK u k b n=some (b++cV j n):=by
 intro j
 induction j with
 | zero =>
  intro k n b h1 h2 h3
  obtain ⟨k,rfl⟩:∃ i,k=i+1:=⟨k - 1,by omega⟩
  unfold iK
  have:¬ (n≥128):=by simp at h1; omega
  simp only [this,decide_false,cond_false,qF,cV,uk]
  rw [bB (by simp; omega)]; rfl
 | succ j ih =>
  intro k n b h1 h2 h3
  obtain ⟨k,rfl⟩:∃ i,k=i+1:=⟨k - 1,by omega⟩
  unfold iK
  by_cases h:n≥128
  ·have h':¬ n≤127:=by omega
   simp only [h,decide_true,cond_true,cV,h',if_false,uk,Yg]
   rw [bB (by simp; omega),ZJ _ (by omega) (by omega)]
   simp only [Option.bind_some]
   rw [ih k (n / 128) _ (by rw [Int.pow_succ] at h1; omega) (by omega) (by simp; omega),show n % 256 % 128=n % 128 by omega]
   simp
  ·have h':n≤127:=by omega
   simp only [h,decide_false,cond_false,cV,h',if_true,qF,uk]
   rw [bB (by simp; omega)]; rfl
theorem Gs (u:Nat):∀ (j k:Nat) (n:Int) (b:List Int),n < 128 ^ (j+1)→j < k→b.length+j≤1099511627776→jr u k b n=some (b++cV j n):=by
 intro j
 induction j with
 | zero =>
  intro k n b h1 h2 h3
  obtain ⟨k,rfl⟩:∃ i,k=i+1:=⟨k - 1,by omega⟩
  unfold jr
  have:¬ (n > 127):=by simp at h1; omega
  simp only [this,decide_false,cond_false,rP,cV,uk]
  rw [bB (by simp; omega)]; rfl
 | succ j ih =>
  intro k n b h1 h2 h3
  obtain ⟨k,rfl⟩:∃ i,k=i+1:=⟨k - 1,by omega⟩
  unfold jr
  by_cases h:n > 127
  ·have h':¬ n≤127:=by omega
   simp only [h,decide_true,cond_true,cV,h',if_false,uk,Yg,TV]
   rw [bB (by simp; omega),WS _ (by omega) (by omega)]
   simp only [Option.bind_some]
   rw [ih k (n / 128) _ (by rw [Int.pow_succ] at h1; omega) (by omega) (by simp; omega),show (n % 128 % 128+128) % 256=n % 128+128 by omega]
   simp
  ·have h':n≤127:=by omega
   simp only [h,decide_false,cond_false,cV,h',if_true,rP,uk]
   rw [bB (by simp; omega)]; rfl
theorem JG (u:Nat):∀ (j k:Nat) (n:Int) (b:List Int),n < 128 ^ (j+1)→j < k→b.length+j≤1099511627776→mE u k n b=some (b++cV j n):=by
 intro j
 induction j with
 | zero =>
  intro k n b h1 h2 h3
  obtain ⟨k,rfl⟩:∃ i,k=i+1:=⟨k - 1,by omega⟩
  unfold mE
  have:¬ (n > 127):=by simp at h1; omega
  simp only [this,decide_false,cond_false,vN,cV,uk]
  rw [bB (by simp; omega)]; rfl
 | succ j ih =>
  intro k n b h1 h2 h3
  obtain ⟨k,rfl⟩:∃ i,k=i+1:=⟨k - 1,by omega⟩
  unfold mE
  by_cases h:n > 127
  ·have h':¬ n≤127:=by omega
   simp only [h,decide_true,cond_true,cV,h',if_false,uk,Yg,TV]
   rw [bB (by simp; omega),WS _ (by omega) (by omega)]
   simp only [Option.bind_some]
   rw [ih k (n / 128) _ (by rw [Int.pow_succ] at h1; omega) (by omega) (by simp; omega),show (n % 128 % 128+128) % 256=n % 128+128 by omega]
   simp
  ·have h':n≤127:=by omega
   simp only [h,decide_false,cond_false,cV,h',if_true,vN,uk]
   rw [bB (by simp; omega)]; rfl
theorem ZK:(128:Int) ^ (9+1)=1180591620717411303424:=by decide
theorem Cd {u:Nat} (hu:1099511627776≤u) {b:List Int} {n:Int} (hl:b.length≤1073741824) (hn:n≤9223372036854775807):oL u b n=some (b++cV 9 n) :=
 Fu u 9 u n b (by rw [ZK]; omega) (by omega) (by omega)
theorem LO {u:Nat} (hu:1099511627776≤u) {b:List Int} {n:Int} (hl:b.length≤1073741824) (hn:n≤9223372036854775807):s9 u b n=some (b++cV 9 n) :=
 Gs u 9 u n b (by rw [ZK]; omega) (by omega) (by omega)
theorem gL (u:Nat) {b:List Int} (hl:b.length≤1073741824):gj u b=some b:=by
 unfold gj
 rw [bB (by simp; omega),bB (by simp; omega)]
 simp [dW]
theorem dL {u:Nat} (hu:1099511627776≤u) {b:List Int} {n:Int} (hl:b.length≤1073741824):eK u b n=some (aQ b n):=by
 unfold eK aQ
 simp only [gL u hl,bM,Option.bind_some]
 cases h:aq n 0 1000000000000 with
 | false=>simp
 | true=>have:=ce h; simp [Cd hu hl (show n≤9223372036854775807 by omega)]
theorem dM {u:Nat} (hu:1099511627776≤u) {b:List Int} {n:Int} (hl:b.length≤1073741824):dY u b n=some (aQ b n):=by
 unfold dY aQ
 rw [bB (by simp; omega)]
 simp only [bX,Option.bind_some,List.nil_append]
 cases h:aq n 0 1000000000000 with
 | false=>simp
 | true=>have:=ce h; simp [JG u 9 u n b (by rw [ZK]; omega) (by omega) (by omega)]
theorem bh (b:List Int) (n:Int):(aQ b n).length≤b.length+10:=by
 unfold aQ
 have:=D4 9 n
 split <;> simp <;> omega
def nz (b:List Int):List bN→List Int
 | []=>b
 | s :: l=>nz (b++cV 9 s.fS) l
def rz (b:List Int) (m:af):List Int:=if cS m then nz (aQ (aQ (aQ b m.aP) m.aS) m.aY) m.aD else b
def yf (m:af):Prop:=∀ s∈m.aD,s.fS≤9223372036854775807
theorem ve {m:af} (h:cS m=true):m.aD.length≤40:=by
 unfold cS at h
 split at h
 ·simp only [Bool.and_eq_true,beq_iff_eq] at h
  have:=h.2
  omega
 ·have:=gU m.aS m.aY
  simp only [Bool.and_eq_true,beq_iff_eq] at h
  omega
theorem Sq {u:Nat} (hu:1099511627776≤u) (m:af):∀ (l:List bN) (i:Nat) (b:List Int),(∀ s∈l,s.fS≤9223372036854775807)→b.length+10*l.length≤1073741824 →
  bt (C7 u m) (xH u m) l i b=some (nz b l):=by
 intro l
 induction l with
 | nil=>intros; rfl
 | cons s l ih =>
  intro i b h1 h2
  simp only [List.length_cons] at h2
  have h3:=D4 9 s.fS
  simp only [bt,xH,Cd hu (show b.length≤1073741824 by omega) (h1 s (by simp)),Option.bind_some,nz]
  exact ih (i+1) _ (fun z hz=>h1 z (by simp [hz])) (by simp; omega)
theorem Sr {u:Nat} (hu:1099511627776≤u) (m:af):∀ (l:List bN) (i:Nat) (b:List Int),(∀ s∈l,s.fS≤9223372036854775807)→b.length+10*l.length≤1073741824 →
  bt (CW u m) (xA u m) l i b=some (nz b l):=by
 intro l
 induction l with
 | nil=>intros; rfl
 | cons s l ih =>
  intro i b h1 h2
  simp only [List.length_cons] at h2
  have h3:=D4 9 s.fS
  simp only [bt,xA,LO hu (show b.length≤1073741824 by omega) (h1 s (by simp)),Option.bind_some,nz]
  exact ih (i+1) _ (fun z hz=>h1 z (by simp [hz])) (by simp; omega)
theorem QX {u:Nat} (hu:1099511627776≤u) {b:List Int} {m:af} (hl:b.length≤536870912) (hm:m.aD.length≤1073741824) (hw:yf m):yK u b m=some (rz b m):=by
 unfold yK rz
 have h1:=bh b m.aP
 have h2:=bh (aQ b m.aP) m.aS
 have h3:=bh (aQ (aQ b m.aP) m.aS) m.aY
 rw [n9 hu m hm]
 cases h:cS m with
 | false=>simp [gL u (show b.length≤1073741824 by omega)]
 | true =>
  have h4:=ve h
  simp only [Option.bind_some,Bool.not_true,cond_false,if_true]
  rw [dL hu (by omega)]; simp only [Option.bind_some]
  rw [dL hu (by omega)]; simp only [Option.bind_some]
  rw [dL hu (by omega)]; simp only [Option.bind_some]
  rw [KV u m _ u (by omega) (by omega),Sq hu m _ _ _ hw (by omega)]
theorem QY {u:Nat} (hu:1099511627776≤u) {b:List Int} {m:af} (hl:b.length≤536870912) (hm:m.aD.length≤1073741824) (hw:yf m):yD u b m=some (rz b m):=by
 unfold yD rz
 have h1:=bh b m.aP
 have h2:=bh (aQ b m.aP) m.aS
 have h3:=bh (aQ (aQ b m.aP) m.aS) m.aY
 rw [bB (by simp; omega),iz hu m hm]
 simp only [List.nil_append,Option.bind_some]
 cases h:cS m with
 | false=>simp
 | true =>
  have h4:=ve h
  simp only [Option.bind_some,Bool.not_true,cond_false,if_true]
  rw [dM hu (by omega)]; simp only [Option.bind_some]
  rw [dM hu (by omega)]; simp only [Option.bind_some]
  rw [dM hu (by omega)]; simp only [Option.bind_some]
  rw [KL u m _ u (by omega) (by omega),Sr hu m _ _ _ hw (by omega)]
theorem yg {a:Int} (h1:0≤a) (h2:a < 18446744073709551616):(BitVec.ofInt 64 a).toNat=a.toNat:=by
 rw [BitVec.toNat_ofInt]; omega
theorem F7 {a b:Nat} (h1:a < 9223372036854775808) (h2:b < 9223372036854775808):sZ .i64 (a:Int) (b:Int)=((a ||| b:Nat):Int):=by
 unfold sZ
 have e:(BitVec.ofInt (IntKind.bits .i64) (a:Int) ||| BitVec.ofInt (IntKind.bits .i64) (b:Int)).toNat=a ||| b:=by
  change (BitVec.ofInt 64 (a:Int) ||| BitVec.ofInt 64 (b:Int)).toNat=_
  rw [BitVec.toNat_or,yg (by omega) (by omega),yg (by omega) (by omega)]; rfl
 rw [e]
 have:a ||| b < 2 ^ 63:=Nat.or_lt_two_pow (by omega) (by omega)
 exact wrap_i64 (by omega) (by omega)
theorem U1 {a b:Nat} (h1:a < 9223372036854775808) (h2:b < 9223372036854775808):fE .i64 (a:Int) (b:Int)=((a &&& b:Nat):Int):=by
 unfold fE
 have e:(BitVec.ofInt (IntKind.bits .i64) (a:Int) &&& BitVec.ofInt (IntKind.bits .i64) (b:Int)).toNat=a &&& b:=by
  change (BitVec.ofInt 64 (a:Int) &&& BitVec.ofInt 64 (b:Int)).toNat=_
  rw [BitVec.toNat_and,yg (by omega) (by omega),yg (by omega) (by omega)]; rfl
 rw [e]
 have:a &&& b≤a:=Nat.and_le_left
 exact wrap_i64 (by omega) (by omega)
theorem LP {i:Nat} (h:i≤62):i7 .i64 1 (i:Int)=((2 ^ i:Nat):Int):=by
 unfold i7
 rw [show min (Int.toNat (i:Int)) (IntKind.bits .i64)=i by simp [IntKind.bits]; omega]
 have h1:(2:Nat) ^ i≤2 ^ 62:=Nat.pow_le_pow_right (by omega) h
 have h2:(1:Int)*2 ^ i=((2 ^ i:Nat):Int):=by simp
 rw [h2]
 generalize (2:Nat) ^ i=p at h1
 exact wrap_i64 (by omega) (by omega)
theorem U2 {a i:Nat} (h:i≤64):n4 .i64 (a:Int) (i:Int)=((a / 2 ^ i:Nat):Int):=by
 rw [TB .i64 _ i h]; simp
def bE (s:Int):Bool:=aq s 0 1099511627775
def iV (i:Int):Bool:=aq i 0 39
def eh (s i:Int):Bool:=bE s && iV i && s.toNat.testBit i.toNat
theorem lM (u:Nat) (s:Int):dr u s=some (bE s):=by simp [dr,bM,bE]
theorem jW (u:Nat) (s:Int):cz u s=some (bE s):=by simp [cz,bX,bE]
theorem Oi (u:Nat) (s:Int):pz u s=some (iV s):=by simp [pz,bM,iV]
theorem Ys {s i:Int} (hs:bE s=true) (hi:iV i=true):(fE .i64 (n4 .i64 s i) 1 == 1)=s.toNat.testBit i.toNat:=by
 have h1:=ce hs
 have h2:=ce hi
 obtain ⟨a,rfl⟩:=Int.eq_ofNat_of_zero_le h1.1
 obtain ⟨n,rfl⟩:=Int.eq_ofNat_of_zero_le h2.1
 rw [U2 (by omega)]
 have h3:a / 2 ^ n≤a:=Nat.div_le_self a _
 rw [show (1:Int)=((1:Nat):Int) by rfl,U1 (by omega) (by omega),Nat.and_one_is_mod]
 simp only [Int.toNat_natCast,Nat.testBit_eq_decide_div_mod_eq]
 generalize a / 2 ^ n=z
 rw [Bool.eq_iff_iff,beq_iff_eq,decide_eq_true_eq]; omega
theorem qv (u:Nat) (s i:Int):fp u s i=some (eh s i):=by
 unfold fp eh
 simp only [lM,Oi,Option.bind_some]
 cases h1:bE s with
 | false=>simp
 | true =>
  cases h2:iV i with
  | false=>simp
  | true =>
   have h3:=ce h2
   rw [bB (by omega)]
   simp [Ys h1 h2]
theorem qw (u:Nat) (s i:Int):fX u s i=some (eh s i):=by
 unfold fX eh
 simp only [jW,bX,Option.bind_some]
 cases h1:bE s with
 | false=>simp
 | true =>
  change ((bif true then (bif iV i then _ else _) else _):Option Bool)=_
  cases h2:iV i with
  | false=>simp
  | true =>
   have h3:=ce h2
   simp only [cond_true]
   rw [bB (by omega)]
   simp [Ys h1 h2]
def lY (s:Int):List Int:=if bE s then ((List.range 40).filter fun i=>s.toNat.testBit i).map Int.ofNat else []
theorem MC {α ρ:Type} {fin:List α→Option ρ} {body:Nat→List α→(List α→Option ρ)→Option ρ} (f:Nat→Bool) (g:Nat→α) (n c:Nat) (hb:∀ i s k,i < n→s.length≤c+i→body i s k=k (if f i then s++[g i] else s)) :
  ∀ (m i:Nat) (s:List α),i+m=n→s.length≤c+i→pT fin body m i s=fin (s++(((List.range' i m).filter f).map g)):=by
 intro m
 induction m with
 | zero=>intro i s h1 h2; simp [pT]
 | succ m ih =>
  intro i s h1 h2
  simp only [pT]
  rw [hb i s _ (by omega) h2]
  cases hf:f i with
  | true =>
   simp only [if_true]
   rw [ih (i+1) _ (by omega) (by simp; omega),List.range'_succ,List.filter_cons,hf]
   simp
  | false =>
   simp only [Bool.false_eq_true,if_false]
   rw [ih (i+1) _ (by omega) (by omega),List.range'_succ,List.filter_cons,hf]
   simp
theorem Oj {u:Nat} (hu:1099511627776≤u) (s:Int):wo u s=some (lY s):=by
 unfold wo
 rw [IF u s [] u (by omega) (by omega),MC (fun i=>eh s i) (fun i=>(i:Int)) 40 0 _ (Int.toNat 40) 0 [] (by decide) (by simp)]
 ·unfold BY uh lY
  rw [show Int.toNat 40=40 by rfl,← List.range_eq_range']
  cases h:bE s with
  | false=>simp [eh,h]
  | true =>
   simp only [List.nil_append,if_true]
   congr 2
   apply List.filter_congr
   intro i hi
   have hi:i < 40:=by simpa using hi
   have:iV (i:Int)=true:=by simp [iV,aq]; omega
   simp [eh,h,this]
 ·intro i t k hi ht
  unfold BZ
  rw [qv]
  simp only [Option.bind_some]
  cases eh s i with
  | false=>simp [k9]
  | true =>
   simp only [cond_true,if_true]
   rw [bB (by simp; omega)]
   simp [k9]
theorem Ok {u:Nat} (hu:1099511627776≤u) (s:Int):vP u s=some (lY s):=by
 unfold vP
 rw [Is u s [] u (by omega) (by omega),MC (fun i=>eh s i) (fun i=>(i:Int)) 40 0 _ (Int.toNat 40) 0 [] (by decide) (by simp)]
 ·unfold BR tR lY
  rw [show Int.toNat 40=40 by rfl,← List.range_eq_range']
  cases h:bE s with
  | false=>simp [eh,h]
  | true =>
   simp only [List.nil_append,if_true]
   congr 2
   apply List.filter_congr
   intro i hi
   have hi:i < 40:=by simpa using hi
   have:iV (i:Int)=true:=by simp [iV,aq]; omega
   simp [eh,h,this]
 ·intro i t k hi ht
  unfold BS
  rw [qw]
  simp only [Option.bind_some]
  cases eh s i with
  | false=>simp [kY]
  | true =>
   simp only [cond_true,if_true]
   rw [bB (by simp; omega)]
   simp [kY]
theorem Yt {s c:Int} (h1:0≤s) (h2:s < 36028797018963968) (h3:0≤c) (h4:c≤255):sZ .i64 (i7 .i64 s 8) c=256*s+c:=by
 obtain ⟨a,rfl⟩:=Int.eq_ofNat_of_zero_le h1
 obtain ⟨b,rfl⟩:=Int.eq_ofNat_of_zero_le h3
 have e:i7 .i64 (a:Int) 8=((a*256:Nat):Int):=by
  unfold i7
  rw [show min (Int.toNat (8:Int)) (IntKind.bits .i64)=8 by rfl]
  rw [wrap_i64 (by omega) (by omega)]; omega
 rw [e,F7 (by omega) (by omega)]
 have h5:=Nat.shiftLeft_add_eq_or_of_lt (b:=b) (i:=8) (by omega) a
 rw [Nat.shiftLeft_eq,show (2:Nat) ^ 8=256 from rfl] at h5
 rw [← h5]; omega
theorem TW (u:Nat):∀ (p b:List Int) (i:Nat) (s:Int) (n:Nat),aF b→0≤s→s < 256 ^ n*2→n+b.length≤6 →
  bt (Ei u p) (zt u p) b i s=th u p (oY b s):=by
 intro p b
 induction b with
 | nil=>intros; rfl
 | cons c b ih =>
  intro i s n hb h1 h2 h3
  have hc:=hb c (by simp)
  simp only [List.length_cons] at h3
  have hp:(256:Int) ^ n≤1099511627776:=by
   rcases (show n=0∨n=1∨n=2∨n=3∨n=4∨n=5 by omega) with rfl | rfl | rfl | rfl | rfl | rfl <;> decide
  simp only [bt,zt]
  rw [wrap_i64 (by omega) (by omega),Yt (by omega) (by omega) (by omega) (by omega)]
  exact ih (i+1) _ (n+1) (fun z hz=>hb z (by simp [hz])) (by omega) (by rw [Int.pow_succ]; omega) (by omega)
theorem tF {u:Nat} (hu:1099511627776≤u) {b:List Int} (hb:aF b) (hl:b.length≤1073741824):kZ u b=some (eg b):=by
 unfold kZ eg
 by_cases h:6 < b.length
 ·have:(b.length:Int) > 6:=by omega
  simp [h,this]
 ·have:¬ ((b.length:Int) > 6):=by omega
  simp only [this,decide_false,cond_false,h,if_false]
  rw [MZ u b 1 u (by omega) (by omega),TW u b b 0 1 0 hb (by omega) (by decide) (by omega)]
  unfold th
  rw [Bj hu hb hl]
  rfl
def M.win (b:List Int) (i n:Nat):List Int:=(b.take (i+n)).drop i
theorem QZ (b:List Int) (i n:Nat):M.win b i n=(b.drop i).take n:=by
 unfold M.win; rw [List.drop_take]; congr 1; omega
theorem nS {b:List Int} (h:aF b) (i n:Nat):aF (M.win b i n):=fun x hx=>h x (List.mem_of_mem_take (List.mem_of_mem_drop hx))
theorem D5 {b:List Int} {i n:Nat} (h:i+n≤b.length):(M.win b i n).length=n:=by
 unfold M.win; rw [List.length_drop,List.length_take]; omega
theorem Q0 (b:List Int) (i n:Nat):(M.win b i n).length≤n:=by
 unfold M.win; rw [List.length_drop,List.length_take]; omega
theorem eL {a b n:Nat} (h1:a≤b) (h2:b≤n):dW (dU (a:Int) (b:Int) (n:Int))=some ():=by
 have:dU (a:Int) (b:Int) (n:Int)=true:=by simp [dU]; omega
 rw [this]; rfl
theorem rA {a b:Nat} (h:a+b≤9223372036854775807):aW .i64 (a:Int) (b:Int)=((a+b:Nat):Int):=by
 rw [dJ (by omega) (by omega)]; omega
theorem GP (u:Nat) {b:List Int} {i n:Nat} (h:i+n≤b.length) (hl:b.length≤1073741824):ux u b i n=some (M.win b i n,true):=by
 unfold ux tg
 have h1:aq (i:Int) 0 (b.length:Int)=true:=by simp [aq]; omega
 have h2:aq (n:Int) 0 ((b.length:Int) - (i:Int))=true:=by simp [aq]; omega
 simp only [bM,h1,Option.bind_some,cH (a:=(b.length:Int)) (b:=(i:Int)) (by omega) (by omega),h2,Bool.not_true,cond_false]
 rw [rA (by omega),eL (by omega) h]
 simp only [Option.bind_some,Int.toNat_natCast]
 rw [gL u (by simp; omega)]
 rfl
def qx (b:List Int) (size i:Int):List Int×Bool :=
 let s:=cT size b.length i
 if s.2=0 then ([],false) else (M.win b s.1.toNat s.2.toNat,true)
theorem w6 {size n i:Int} (hn:0≤n):0≤(cT size n i).1∧0≤(cT size n i).2∧(cT size n i).2≤6∧(cT size n i).1+(cT size n i).2≤n:=by
 unfold cT
 split
 ·rename_i h
  have ⟨h1,h2,h3⟩:=LL h
  have h4:=Dw h1
  have h5:=(ce h).2
  unfold dj at h5
  rw [if_pos h1] at h5
  have h6:=LM h4.1 h4.2.1 h2 h3
  have h7:i*size≤n:=by
   have h8:i+1≤(n+size - 1) / size:=by omega
   have h9:(i+1)*size≤n+size - 1:=(Int.le_ediv_iff_mul_le (by omega)).1 h8
   rw [Int.add_mul] at h9
   omega
  dsimp only
  omega
 ·dsimp only; omega
theorem GQ {b:List Int} (hb:aF b) (size i:Int):aF (qx b size i).1∧(qx b size i).1.length≤6:=by
 have h:=w6 (size:=size) (n:=b.length) (i:=i) (by omega)
 unfold qx
 dsimp only
 split
 ·exact ⟨by simp [aF],by simp⟩
 ·refine ⟨nS hb _ _,?_⟩
  have:=Q0 b (cT size b.length i).1.toNat (cT size b.length i).2.toNat
  dsimp only
  omega
theorem Ol (u:Nat) {b:List Int} (hl:b.length≤1073741824) (size i:Int):rY u b size i=some (qx b size i):=by
 have h:=w6 (size:=size) (n:=b.length) (i:=i) (by omega)
 unfold rY qx
 simp only [oX,Option.bind_some]
 generalize cT size b.length i=s at h
 obtain ⟨a,n⟩:=s
 dsimp only at h ⊢
 by_cases h0:n=0
 ·simp [h0]
 ·have:(n == 0)=false:=by simpa using h0
  obtain ⟨x,rfl⟩:=Int.eq_ofNat_of_zero_le h.1
  obtain ⟨y,rfl⟩:=Int.eq_ofNat_of_zero_le h.2.1
  simp only [this,cond_false,h0,if_false]
  rw [GP u (by omega) hl]
  rfl
theorem Om (u:Nat) {b:List Int} (hl:b.length≤1073741824) (size i:Int):rI u b size i=some (qx b size i):=by
 have h:=w6 (size:=size) (n:=b.length) (i:=i) (by omega)
 unfold rI qx
 simp only [mO,Option.bind_some]
 generalize cT size b.length i=s at h
 obtain ⟨a,n⟩:=s
 dsimp only at h ⊢
 by_cases h0:n=0
 ·simp [h0]
 ·have:(n == 0)=false:=by simpa using h0
  obtain ⟨x,rfl⟩:=Int.eq_ofNat_of_zero_le h.1
  obtain ⟨y,rfl⟩:=Int.eq_ofNat_of_zero_le h.2.1
  simp only [this,cond_false,h0,if_false]
  rw [rA (by omega),eL (by omega) (by omega)]
  simp only [Option.bind_some,Int.toNat_natCast]
  rw [bB (by simp; omega)]
  rfl
def Dx (b:List Int) (size:Int):List bN:=(List.range (dj size b.length).toNat).map fun (i:Nat)=>eg (qx b size i).1
theorem MD {α ρ:Type} {fin:List α→Option ρ} {body:Nat→List α→(List α→Option ρ)→Option ρ} (g:Nat→α) (n:Nat) (hb:∀ i s k,i < n→s.length=i→body i s k=k (s++[g i])) :
  pT fin body n 0 []=fin ((List.range n).map g):=by
 have:∀ (m i:Nat) (s:List α),i+m=n→s.length=i→pT fin body m i s=fin (s++(List.range' i m).map g):=by
  intro m
  induction m with
  | zero=>intro i s h1 h2; simp [pT]
  | succ m ih =>
   intro i s h1 h2
   simp only [pT]
   rw [hb i s _ (by omega) h2,ih (i+1) _ (by omega) (by simp [h2]),List.range'_succ]
   simp
 rw [this n 0 [] (by omega) rfl,← List.range_eq_range']
 simp
theorem Fv {u:Nat} (hu:1099511627776≤u) {b:List Int} (hb:aF b) (hl:b.length≤1073741824) (size:Int):uX u b size=some (Dx b size):=by
 unfold uX
 have hr:=gU size b.length
 rw [w4]
 simp only [Option.bind_some]
 rw [KP u b size _ [] u (by omega) (by omega),MD (fun i=>eg (qx b size i).1)]
 ·rfl
 ·intro i s k hi hs
  unfold C4
  have h:=GQ hb size (i:Int)
  rw [Ol u hl]
  simp only [Option.bind_some]
  rw [tF hu h.1 (by omega)]
  simp only [Option.bind_some]
  rw [bB (by simp; omega)]
  rfl
theorem Fw {u:Nat} (hu:1099511627776≤u) {b:List Int} (hb:aF b) (hl:b.length≤1073741824) (size:Int):uP u b size=some (Dx b size):=by
 unfold uP
 have hr:=gU size b.length
 rw [rx (n:=dj size b.length) (fin:=AK u) (body:=fun i (s:List bN) k=>(rI u b size (i:Int)).bind fun r8=>(gZ u r8.1).bind fun r9=>(dW (decide ((s.length+([r9]).length)*16≤140737488355328))).bind fun _=>k (s++[r9]))
  (fun k (s:List bN) i=>om u k b size s i) (by omega) (fun k s i=>by rw [om,ki]; rfl) [] (by omega),MD (fun i=>eg (qx b size i).1)]
 ·rfl
 ·intro i s k hi hs
  have h:=GQ hb size (i:Int)
  rw [Om u hl]
  simp only [Option.bind_some]
  rw [n8 hu h.1 (by omega)]
  simp only [Option.bind_some]
  rw [bB (by simp; omega)]
  rfl
def JH (gen:Int) (b:List Int) (size:Int):af:=if aq gen 1 1000000 && fV size b.length then ⟨gen,size,b.length,Dx b size⟩ else ⟨0,0,0,[]⟩
theorem Ss {u:Nat} (hu:1099511627776≤u) {b:List Int} (hb:aF b) (hl:b.length≤1073741824) (gen size:Int):AZ u gen b size=some (JH gen b size):=by
 unfold AZ xX JH
 simp only [bM,wY,Option.bind_some,Fv hu hb hl]
 cases aq gen 1 1000000 <;> cases fV size b.length <;> simp
theorem Su {u:Nat} (hu:1099511627776≤u) {b:List Int} (hb:aF b) (hl:b.length≤1073741824) (gen size:Int):AL u gen b size=some (JH gen b size):=by
 unfold AL xT JH
 simp only [bX,wZ,Option.bind_some,Fw hu hb hl]
 cases aq gen 1 1000000 <;> cases fV size b.length <;> simp
def HK:List Int→Int
 | []=>0
 | c :: b=>c+HK b
def Oo:List Int→Int
 | []=>0
 | c :: b=>((b.length:Int)+1)*c+Oo b
theorem Xx:∀ (b:List Int) (x y:Int),sD b x y=match b with | []=>(x,y) | _=>((x+HK b) % 251,(y+b.length*x+Oo b) % 251):=by
 intro b
 induction b with
 | nil=>intro x y; rfl
 | cons c b ih =>
  intro x y
  simp only [sD]
  rw [ih]
  cases b with
  | nil=>simp [HK,Oo,Int.add_assoc]
  | cons d b =>
   simp only [HK,Oo,List.length_cons]
   refine Prod.ext ?_ ?_
   ·dsimp only; omega
   ·dsimp only
    have e:((b.length:Int)+1)*((x+c) % 251) % 251=((b.length:Int)+1)*(x+c) % 251:=by rw [Int.mul_emod,Int.emod_emod_of_dvd _ (Int.dvd_refl 251),← Int.mul_emod]
    have e1:((b.length:Int)+1)*(x+c)=((b.length:Int)+1)*x+((b.length:Int)+1)*c:=Int.mul_add _ _ _
    have e2:((b.length:Int)+1+1)*x=((b.length:Int)+1)*x+x:=by rw [Int.add_mul]; omega
    have e3:((b.length:Int)+1+1)*c=((b.length:Int)+1)*c+c:=by rw [Int.add_mul]; omega
    push_cast
    rw [e2,e3]
    rw [e1] at e
    generalize ((b.length:Int)+1)*((x+c) % 251)=p at *
    generalize ((b.length:Int)+1)*x=q at *
    generalize ((b.length:Int)+1)*c=r at *
    generalize ((b.length:Int)+1)*d=t at *
    omega
theorem Q1 {b:List Int}:cu b=HK b % 251+251*(Oo b % 251):=by
 unfold cu
 rw [Xx]
 cases b with
 | nil=>simp [HK,Oo]
 | cons c b=>dsimp only; simp
theorem ZL (b:List Int) (d:Int):HK (b++[d])=HK b+d:=by
 induction b with
 | nil=>simp [HK]
 | cons c b ih=>simp only [List.cons_append,HK,ih]; omega
theorem ZM (b:List Int) (d:Int):Oo (b++[d])=Oo b+HK b+d:=by
 induction b with
 | nil=>simp [HK,Oo]
 | cons c b ih =>
  simp only [List.cons_append,HK,Oo,ih,List.length_append,List.length_singleton]
  push_cast
  rw [Int.add_mul ((b.length:Int)+1) 1 c]
  omega
theorem TX (u:Nat) (n m:Int):xB u n m=some (if aq m 1 1000000000000 then n % m else 0):=by
 unfold xB
 simp only [bX,Option.bind_some]
 cases h:aq m 1 1000000000000 with
 | false=>simp
 | true =>
  have h3:=ce h
  have hb:(m == 0)=false:=by simp; omega
  have h4:=QV (n:=n) (m:=m) (by omega)
  simp only [hb,Bool.not_true,cond_false,Bool.not_false,UR,Option.bind_some]
  have e1:ru .i64 n m=n.tmod m:=rfl
  rw [e1,dJ (by omega) (by omega)]
  show some ((n.tmod m+m).tmod m)=_
  rw [Tf (by omega)]; simp
theorem JI (u:Nat) (w:Int):As u w=some (aq w 0 63000):=by simp [As,bX]
theorem HL (u:Nat) {w:Int} (h:aq w 0 63000=true):pM u w=some (w % 251,w / 251):=by
 unfold pM
 have:=ce h
 rw [JI,h]
 simp (disch:=omega) [Dg,PF]
theorem TY (u:Nat) {c d:Int} {m:List Int} (hc:0≤c∧c≤255) (hd:0≤d∧d≤255) (hm:m.length≤5):At u (cu (c :: m)) ((m.length:Int)+1) c d=some (cu (m++[d])):=by
 unfold At rQ
 have h0:=D2 (c :: m)
 have h1:aq (cu (c :: m)) 0 63000=true:=by simp [aq]; omega
 have h2:aq ((m.length:Int)+1) 1 1000000000000=true:=by simp [aq]; omega
 have h3:aq c 0 255=true:=by simp [aq]; omega
 have h4:aq d 0 255=true:=by simp [aq]; omega
 have h5:aq 251 1 1000000000000=true:=by decide
 have h6:((m.length:Int)+1)*c≤6*255:=Int.mul_le_mul (by omega) (by omega) (by omega) (by omega)
 have h7:0≤((m.length:Int)+1)*c:=Int.mul_nonneg (by omega) (by omega)
 simp only [JI,bX,h1,h2,h3,h4,Option.bind_some,Bool.not_true,cond_false,HL u h1,TX,h5,if_true]
 rw [Dg (by omega),Int.emod_eq_of_lt (a:=(m.length:Int)+1) (by omega) (by omega)]
 have e:=Q1 (b:=c :: m)
 have e2:=Q1 (b:=m++[d])
 rw [e2,ZL,ZM]
 simp only [HK,Oo] at e
 rw [lx (a:=(m.length:Int)+1) (b:=c) (by omega) (by omega)]
 generalize cu (c :: m)=w at *
 generalize ((m.length:Int)+1)*c=q at *
 generalize HK m=sx at *
 generalize Oo m=sy at *
 rw [cH (a:=w / 251) (by omega) (by omega),cH (a:=w % 251) (by omega) (by omega),dJ (a:=w % 251 - c) (by omega) (by omega)]
 rw [dJ (a:=(w / 251 - q) % 251) (by omega) (by omega)]
 rw [lx (by omega) (by omega),dJ (by omega) (by omega)]
 congr 1
 omega
theorem Yu {b:List Int} {i n:Nat} {c:Int} (hc:b[i]?=some c):M.win b i (n+1)=c :: M.win b (i+1) n:=by
 rw [QZ,QZ]
 obtain ⟨h,rfl⟩:=List.getElem?_eq_some_iff.1 hc
 rw [List.drop_eq_getElem_cons h,List.take_succ_cons]
theorem Yv {b:List Int} {i n:Nat} {d:Int} (hd:b[i+n]?=some d):M.win b i (n+1)=M.win b i n++[d]:=by
 rw [QZ,QZ,List.take_add_one]
 congr 1
 rw [List.getElem?_drop,hd]; rfl
def sE (b:List Int) (n:Nat):List Int:=if n≤b.length then (List.range (b.length+1 - n)).map fun i=>cu (M.win b i n) else []
theorem HM (u:Nat) {b:List Int} (hb:aF b) (hl:b.length≤1073741824) {n:Nat} (h1:1≤n) (h2:n≤6):∀ (m k j:Nat),n+j+m=b.length→m < k →
  gP u k b n ((List.range (j+1)).map fun i=>cu (M.win b i n)) (cu (M.win b j n)) ((n+j:Nat):Int)=some ((List.range (j+1+m)).map fun i=>cu (M.win b i n)):=by
 intro m
 induction m with
 | zero =>
  intro k j h3 h4
  obtain ⟨k,rfl⟩:∃ i,k=i+1:=⟨k - 1,by omega⟩
  unfold gP
  have:¬ (((n+j:Nat):Int) < (b.length:Int)):=by omega
  simp only [this,decide_false,cond_false,tU,Nat.add_zero]
 | succ m ih =>
  intro k j h3 h4
  obtain ⟨k,rfl⟩:∃ i,k=i+1:=⟨k - 1,by omega⟩
  unfold gP
  have h5:((n+j:Nat):Int) < (b.length:Int):=by omega
  have e:cy .i64 ((n+j:Nat):Int) (n:Int)=(j:Int):=by rw [cH (by omega) (by omega)]; omega
  simp only [h5,decide_true,cond_true,e,br]
  have hc:=List.getElem?_eq_getElem (l:=b) (i:=j) (by omega)
  have hd:=List.getElem?_eq_getElem (l:=b) (i:=n+j) (by omega)
  rw [hc,hd]
  simp only [Option.bind_some]
  have hcb:=hb _ (List.getElem_mem (l:=b) (n:=j) (by omega))
  have hdb:=hb _ (List.getElem_mem (l:=b) (n:=n+j) (by omega))
  rw [wrap_i64 (n:=b[j]) (by omega) (by omega),wrap_i64 (n:=b[n+j]) (by omega) (by omega)]
  obtain ⟨n,rfl⟩:∃ i,n=i+1:=⟨n - 1,by omega⟩
  have e1:=Yu (n:=n) hc
  have e2:M.win b (j+1) (n+1)=M.win b (j+1) n++[b[n+1+j]]:=Yv (by rw [show j+1+n=n+1+j by omega]; exact hd)
  have hw:(M.win b (j+1) n).length=n:=D5 (by omega)
  have hroll:=TY u (c:=b[j]) (d:=b[n+1+j]) (m:=M.win b (j+1) n) hcb hdb (by omega)
  rw [hw,← e1,← e2] at hroll
  rw [show ((n+1:Nat):Int)=(n:Int)+1 by omega,hroll]
  simp only [Option.bind_some]
  rw [bB (by simp; omega)]
  simp only [Option.bind_some]
  rw [show (List.map (fun i=>cu (M.win b i (n+1))) (List.range (j+1))++[cu (M.win b (j+1) (n+1))])=(List.range (j+1+1)).map fun i=>cu (M.win b i (n+1)) by rw [List.range_succ (n:=j+1),List.map_append]; rfl]
  rw [jx (by omega)]
  have:=ih k (j+1) (by omega) (by omega)
  rw [show ((n+1:Nat):Int)=(n:Int)+1 by omega] at this
  rw [show n+1+j+1=n+1+(j+1) by omega,this,show j+1+1+m=j+1+(m+1) by omega]
theorem Oq {u:Nat} (hu:1099511627776≤u) {b:List Int} (hb:aF b) (hl:b.length≤1073741824) {n:Nat} (h1:1≤n) (h2:n≤6):vQ u b n=some (sE b n):=by
 unfold vQ tW sE
 have h3:¬ ((n:Int) < 1):=by omega
 simp only [h3,decide_false,cond_false]
 by_cases h4:n≤b.length
 ·have h5:¬ ((n:Int) > (b.length:Int)):=by omega
  simp only [h5,decide_false,cond_false,h4,if_true]
  rw [show (0:Int)=((0:Nat):Int) by rfl,eL (by omega) h4]
  simp only [Option.bind_some,Int.toNat_natCast]
  have e:List.drop 0 (List.take n b)=M.win b 0 n:=by simp [M.win]
  rw [e,w5 hu (nS hb _ _) (by have:=Q0 b 0 n; omega)]
  simp only [Option.bind_some]
  rw [bB (by simp)]
  have:=HM u hb hl h1 h2 (b.length - n) u 0 (by omega) (by omega)
  simp only [Nat.add_zero,Nat.zero_add] at this
  rw [show (List.range 1).map (fun i=>cu (M.win b i n))=[cu (M.win b 0 n)] by rfl] at this
  simp only [Option.bind_some,List.nil_append]
  rw [this,show 1+(b.length - n)=b.length+1 - n by omega]
 ·have h5:((n:Int) > (b.length:Int)):=by omega
  simp [h5,h4]
def f0 (b:List Int) (s:bN) (n:Nat):Nat→Nat→Int
 | 0,_=>-1
 | c+1,i=>if eg (M.win b i n)=s then i else f0 b s n c (i+1)
def vg (b:List Int) (s:bN) (n:Int):Int:=if aq n 1 6 then f0 b s n.toNat (b.length+1 - n.toNat) 0 else -1
theorem Q2 (b:List Int) (s:bN) (n:Nat):∀ c i,-1≤f0 b s n c i∧f0 b s n c i < i+c:=by
 intro c
 induction c with
 | zero=>intro i; simp [f0]; omega
 | succ c ih =>
  intro i
  unfold f0
  have:=ih (i+1)
  split <;> omega
theorem Ce (x y:bN):(([x.fW,x.fS]:List Int) == [y.fW,y.fS])=decide (x=y):=by
 obtain ⟨a,b⟩:=x
 obtain ⟨c,d⟩:=y
 rw [Bool.eq_iff_iff]; simp
theorem HN {u:Nat} (hu:1099511627776≤u) {b:List Int} (hb:aF b) (hl:b.length≤1073741824) (s:bN) {n:Nat} (h1:1≤n) (h2:n≤6):∀ (c k i:Nat),i+c=b.length+1 - n∨(c=0∧b.length+1 - n≤i)→i≤1073741824→c < k →
  la u k b n i s=some (f0 b s n c i):=by
 intro c
 induction c with
 | zero =>
  intro k i h3 hi h4
  obtain ⟨k,rfl⟩:∃ i,k=i+1:=⟨k - 1,by omega⟩
  unfold la
  rw [rA (by omega)]
  have:¬ (((i+n:Nat):Int)≤(b.length:Int)):=by omega
  simp only [this,decide_false,cond_false,zy,f0]
 | succ c ih =>
  intro k i h3 hi h4
  obtain ⟨k,rfl⟩:∃ i,k=i+1:=⟨k - 1,by omega⟩
  unfold la
  rw [rA (by omega)]
  have h5:(((i+n:Nat):Int)≤(b.length:Int)):=by omega
  simp only [h5,decide_true,cond_true,Int.toNat_natCast]
  rw [eL (by omega) (by omega)]
  simp only [Option.bind_some]
  change ((kZ u (M.win b i n)).bind _)=_
  rw [tF hu (nS hb _ _) (by have:=Q0 b i n; omega)]
  simp only [Option.bind_some,Ce,f0]
  by_cases h6:eg (M.win b i n)=s
  ·simp [h6]
  ·simp only [h6,decide_false,cond_false,if_false]
   rw [jx (by omega)]
   exact ih k (i+1) (by omega) (by omega) (by omega)
theorem Ot {u:Nat} (hu:1099511627776≤u) {b:List Int} (hb:aF b) (hl:b.length≤1073741823) (s:bN) (n:Int):wq u b s n=some (vg b s n):=by
 unfold wq vg
 rw [bM]
 simp only [Option.bind_some]
 cases h:aq n 1 6 with
 | false=>simp
 | true =>
  have h:=ce h
  obtain ⟨n,rfl⟩:=Int.eq_ofNat_of_zero_le (show 0≤n by omega)
  simp only [Bool.not_true,cond_false,if_true,Int.toNat_natCast]
  exact HN hu hb (by omega) s (by omega) (by omega) (b.length+1 - n) u 0 (by omega) (by omega) (by omega)
theorem VU {b:List Int} (h:b.length≤6):(eg b).fW=cu b:=by
 unfold eg; rw [if_neg (by omega)]
theorem HO {u:Nat} (hu:1099511627776≤u) {b:List Int} (hb:aF b) (hl:b.length≤1073741823) (s:bN) {n:Nat} (h1:1≤n) (h2:n≤6):∀ (c k i:Nat),i+c=b.length+1 - n→c < k →
  ez u k b n (sE b n) i s=some (f0 b s n c i):=by
 have hlen:(sE b n).length=b.length+1 - n:=by
  unfold sE
  split
  ·simp
  ·simp; omega
 intro c
 induction c with
 | zero =>
  intro k i h3 h4
  obtain ⟨k,rfl⟩:∃ i,k=i+1:=⟨k - 1,by omega⟩
  unfold ez
  have:¬ ((i:Int) < ((sE b n).length:Int)):=by omega
  simp only [this,decide_false,cond_false,tX,f0]
 | succ c ih =>
  intro k i h3 h4
  obtain ⟨k,rfl⟩:∃ i,k=i+1:=⟨k - 1,by omega⟩
  unfold ez
  have h5:((i:Int) < ((sE b n).length:Int)):=by omega
  have hx:(sE b n)[i]?=some (cu (M.win b i n)):=by
   unfold sE
   rw [if_pos (by omega),List.getElem?_map,List.getElem?_range (by omega)]; rfl
  simp only [h5,decide_true,cond_true,br,hx,Option.bind_some]
  rw [rA (by omega),eL (by omega) (by omega)]
  simp only [Option.bind_some,Int.toNat_natCast]
  change (bif _ then ((gZ u (M.win b i n)).bind _) else _)=_
  rw [n8 hu (nS hb _ _) (by have:=Q0 b i n; omega)]
  simp only [Option.bind_some,Ce,f0,nh,cond_false,jx (show i < 9223372036854775807 by omega),ih k (i+1) (by omega) (by omega)]
  by_cases h6:eg (M.win b i n)=s
  ·have h7:cu (M.win b i n)=s.fW:=by rw [← h6,VU (by have:=Q0 b i n; omega)]
   simp [h6,h7]
  ·cases cu (M.win b i n) == s.fW <;> simp [h6]
theorem Ou {u:Nat} (hu:1099511627776≤u) {b:List Int} (hb:aF b) (hl:b.length≤1073741823) (s:bN) (n:Int):vR u b s n=some (vg b s n):=by
 unfold vR vg
 rw [bX]
 simp only [Option.bind_some]
 cases h:aq n 1 6 with
 | false=>simp
 | true =>
  have h:=ce h
  obtain ⟨n,rfl⟩:=Int.eq_ofNat_of_zero_le (show 0≤n by omega)
  simp only [Bool.not_true,cond_false,if_true,Int.toNat_natCast]
  rw [Oq hu hb (by omega) (by omega) (by omega)]
  exact HO hu hb (by omega) s (by omega) (by omega) (b.length+1 - n) u 0 (by omega) (by omega)
def dy (b:List Int) (m:af) (i:Nat):Int:=match m.aD[i]? with
 | some s=>vg b s (cT m.aS m.aY i).2
 | none=>-1
theorem Ov {u:Nat} (hu:1099511627776≤u) {b:List Int} (hb:aF b) (hl:b.length≤1073741823) {m:af} (hm:m.aD.length≤1073741824) (i:Nat):sm u b m i=some (dy b m i):=by
 unfold sm dy
 rw [oX]
 simp only [Option.bind_some]
 rw [cH (by omega) (by omega),bM]
 by_cases h:i < m.aD.length
 ·have h1:aq (i:Int) 0 ((m.aD.length:Int) - 1)=true:=by simp [aq]; omega
  simp only [h1,Option.bind_some,Bool.not_true,cond_false,br,List.getElem?_eq_getElem h,Ot hu hb hl]
 ·have h1:aq (i:Int) 0 ((m.aD.length:Int) - 1)=false:=by simp [aq]; omega
  simp only [h1,Option.bind_some,Bool.not_false,cond_true,List.getElem?_eq_none (show m.aD.length≤i by omega)]
theorem Ow {u:Nat} (hu:1099511627776≤u) {b:List Int} (hb:aF b) (hl:b.length≤1073741823) {m:af} (hm:m.aD.length≤1073741824) (i:Nat):rS u b m i=some (dy b m i):=by
 unfold rS tY dy
 rw [mO]
 simp only [Option.bind_some,Ou hu hb hl,br]
 by_cases h:i < m.aD.length
 ·have h1:¬ ((i:Int)≥(m.aD.length:Int)):=by omega
  simp only [List.getElem?_eq_getElem h,Option.bind_some,h1,decide_false,cond_false,cond_true]
  by_cases h2:(cT m.aS m.aY i).2=0
  ·have:vg b m.aD[i] 0=-1:=by simp [vg,aq]
   simp [h2,this]
  ·have:((cT m.aS m.aY i).2 == 0)=false:=by simpa using h2
   simp [this]
 ·have h1:((i:Int)≥(m.aD.length:Int)):=by omega
  simp only [List.getElem?_eq_none (show m.aD.length≤i by omega),h1,decide_true,cond_true]
  cases ((cT m.aS m.aY i).2 == 0) <;> simp
theorem Ox (u:Nat) {n:Nat} (h:n≤40):rK u n=some ((2 ^ n - 1:Nat):Int):=by
 unfold rK
 have h1:aq (n:Int) 0 40=true:=by simp [aq]; omega
 rw [bX,h1]
 simp only [Option.bind_some,Bool.not_true,cond_false]
 have h2:(2:Nat) ^ n≤2 ^ 40:=Nat.pow_le_pow_right (by omega) h
 have h3:0 < (2:Nat) ^ n:=Nat.pow_pos (by omega)
 rw [bB (by omega),LP (by omega)]
 generalize (2:Nat) ^ n=p at *
 rw [cH (by omega) (by omega)]
 simp only [Option.bind_some]
 congr 1
 omega
theorem Bk {b:List Int} (h:Hs (lX .u8) b):aF b:=fun x hx=>h.2 x hx
theorem Q3:∀ (l:List bN) (b:List Int),(nz b l).length≤b.length+10*l.length:=by
 intro l
 induction l with
 | nil=>intro b; simp [nz]
 | cons s l ih =>
  intro b
  have h1:=ih (b++cV 9 s.fS)
  have h2:=D4 9 s.fS
  simp only [nz,List.length_cons,List.length_append] at h1 ⊢
  omega
def Q4 (old:List ba):Prop:=∀ x∈old,aF x.fB∧x.fB.length≤1048576
theorem Za {l:List ba} (h:Hs ba.wf l) (hb:fU dt l≤1048576):Q4 l:=fun x hx=>by
 have h1:x.fB.length≤fU dt l:=gE (f:=dt) hx
 exact ⟨Bk (h.2 x hx).1,by omega⟩
theorem F8 (b:Bool):(bif b then some true else some false)=some b:=by cases b <;> rfl
def Bl {α:Type} (f:α→α→Bool):List α→List α→Bool
 | x :: xs,y :: ys=>f x y && Bl f xs ys
 | _,_=>true
def M.same {α:Type} (f:α→α→Bool) (xs ys:List α):Bool:=(xs.length == ys.length) && Bl f xs ys
theorem D6 {α:Type} {fin:Unit→Option Bool} {body:α→Nat→Unit→(Unit→Option Bool)→Option Bool} (f:α→α→Bool) {xs ys:List α} (h:xs.length=ys.length) (hb:∀ x y i k,xs[i]?=some x→ys[i]?=some y→body x i () k=bif f x y then k () else some false) :
  bt fin body xs 0 ()=bif Bl f xs ys then fin () else some false:=by
 have:∀ (l m:List α) (i:Nat),l=xs.drop i→m=ys.drop i→bt fin body l i ()=bif Bl f l m then fin () else some false:=by
  intro l
  induction l with
  | nil=>intro m i _ _; simp [bt,Bl]
  | cons x l ih =>
   intro m i h1 h2
   have hlt:i < xs.length:=by have:=congrArg List.length h1; simp at this; omega
   cases m with
   | nil=>have:=congrArg List.length h2; simp at this; omega
   | cons y m =>
    have hx:xs[i]?=some x:=by have:=congrArg List.head? h1; simpa [List.head?_drop] using this.symm
    have hy:ys[i]?=some y:=by have:=congrArg List.head? h2; simpa [List.head?_drop] using this.symm
    have hl:l=xs.drop (i+1):=by have:=congrArg List.tail h1; simpa [List.tail_drop] using this
    have hm:m=ys.drop (i+1):=by have:=congrArg List.tail h2; simpa [List.tail_drop] using this
    simp only [bt,Bl]
    rw [hb x y i _ hx hy,ih m (i+1) hl hm]
    cases f x y <;> simp
 exact this xs ys 0 (by simp) (by simp)
def lN (a b:List Int):Bool:=(strOfNums a).toList == (strOfNums b).toList
theorem w7 (u:Nat) (a b:List Int):ou u a b=some (lN a b):=rfl
theorem qI (u:Nat) (a b:List Int):oI u a b=some (lN a b):=rfl
theorem WT (x y:Kid):(([x.fd,x.bx,x.bL,x.qP,x.c8]:List Int) == [y.fd,y.bx,y.bL,y.qP,y.c8])=decide (x=y):=by
 obtain ⟨a0,a1,a2,a3,a4⟩:=x
 obtain ⟨b0,b1,b2,b3,b4⟩:=y
 rw [Bool.eq_iff_iff]; simp
theorem VW (x y:c7):(([x.aP,x.cL,x.aY]:List Int) == [y.aP,y.cL,y.aY])=decide (x=y):=by
 obtain ⟨a0,a1,a2⟩:=x
 obtain ⟨b0,b1,b2⟩:=y
 rw [Bool.eq_iff_iff]; simp
theorem lO {u:Nat} (hu:1099511627776≤u) {a b:List bN} (ha:a.length≤1048576):da u a b=some (M.same (fun x y=>decide (x=y)) a b):=by
 unfold da M.same
 by_cases h:a.length=b.length
 ·have h1:((a.length:Int) != (b.length:Int))=false:=by simp [h]
  simp only [h1,cond_false]
  rw [se u a b () u (by omega) (by omega),D6 (fun x y=>decide (x=y)) h (fun x y i k hx hy=>by unfold kx; rw [br,hy]; simp only [Option.bind_some,Ce]; cases decide (x=y) <;> rfl)]
  simp only [h,beq_self_eq_true,Bool.true_and]
  exact F8 _
 ·have h1:((a.length:Int) != (b.length:Int))=true:=by simp; omega
  have h2:(a.length == b.length)=false:=by simpa using h
  simp [h1,h2]
theorem tG {u:Nat} (hu:1099511627776≤u) {a b:List Kid} (ha:a.length≤1048576):dI u a b=some (M.same (fun x y=>decide (x=y)) a b):=by
 unfold dI M.same
 by_cases h:a.length=b.length
 ·have h1:((a.length:Int) != (b.length:Int))=false:=by simp [h]
  simp only [h1,cond_false]
  rw [su u a b () u (by omega) (by omega),D6 (fun x y=>decide (x=y)) h (fun x y i k hx hy=>by unfold kC; rw [br,hy]; simp only [Option.bind_some,WT]; cases decide (x=y) <;> rfl)]
  simp only [h,beq_self_eq_true,Bool.true_and]
  exact F8 _
 ·have h1:((a.length:Int) != (b.length:Int))=true:=by simp; omega
  have h2:(a.length == b.length)=false:=by simpa using h
  simp [h1,h2]
theorem Bm {u:Nat} (hu:1099511627776≤u) {a b:List bN} (ha:a.length≤1048576):m9 u a b=some (M.same (fun x y=>decide (x=y)) a b):=by
 unfold m9 M.same
 by_cases h:a.length=b.length
 ·have h1:((a.length:Int) != (b.length:Int))=false:=by simp [h]
  simp only [h1,cond_false]
  rw [ET u a b () u (by omega) (by omega),D6 (fun x y=>decide (x=y)) h (fun x y i k hx hy=>by unfold yy; rw [br,hy]; simp only [Option.bind_some,Ce]; cases decide (x=y) <;> rfl)]
  simp only [h,beq_self_eq_true,Bool.true_and]
  exact F8 _
 ·have h1:((a.length:Int) != (b.length:Int))=true:=by simp; omega
  have h2:(a.length == b.length)=false:=by simpa using h
  simp [h1,h2]
def er (a b:af):Bool:=(a.aP == b.aP) && (a.aS == b.aS) && (a.aY == b.aY) && M.same (fun x y=>decide (x=y)) a.aD b.aD
theorem zM {u:Nat} (hu:1099511627776≤u) {a b:af} (ha:a.aD.length≤1048576):nK u a b=some (er a b):=by
 unfold nK er
 rw [lO hu ha]
 cases a.aP == b.aP <;> cases a.aS == b.aS <;> cases a.aY == b.aY <;> simp
theorem pW {u:Nat} (hu:1099511627776≤u) {a b:af} (ha:a.aD.length≤1048576):jN u a b=some (er a b):=by
 unfold jN er
 rw [Bm hu ha]
 cases a.aP == b.aP <;> cases a.aS == b.aS <;> cases a.aY == b.aY <;> simp
def uG (a b:aA):Bool:=(a.fM == b.fM) && (a.bf == b.bf) && (a.be == b.be) && er a.av b.av && (a.a7.aT == b.a7.aT) && lN a.a7.bg b.a7.bg && (a.aJ == b.aJ) && M.same (fun x y=>decide (x=y)) a.aO b.aO && (a.a8 == b.a8)
theorem LQ {u:Nat} (hu:1099511627776≤u) {a b:aA} (ha:a.av.aD.length≤1048576) (hk:a.aO.length≤1048576):qp u a b=some (uG a b):=by
 unfold qp uG
 rw [zM hu ha,qI,tG hu hk]
 simp only [Option.bind_some]
 cases a.fM == b.fM <;> cases a.bf == b.bf <;> cases a.be == b.be <;> cases er a.av b.av <;> cases a.a7.aT == b.a7.aT <;> cases lN a.a7.bg b.a7.bg <;> cases a.aJ == b.aJ <;> cases M.same (fun x y=>decide (x=y)) a.aO b.aO <;> rfl
theorem LR {u:Nat} (hu:1099511627776≤u) {a b:aA} (ha:a.av.aD.length≤1048576) (hk:a.aO.length≤1048576):qk u a b=some (uG a b):=by
 unfold qk d8
 rw [pW hu ha,w7]
 simp only [Option.bind_some,Cy,cond_true]
 have e:a.aO.length=b.aO.length→js u u 0 a b=some (Bl (fun x y=>decide (x=y)) a.aO b.aO):=fun h=>by
  rw [Ha u a b () u (by omega) (by omega),D6 (fun x y=>decide (x=y)) h (fun x y i k hx hy=>by unfold AX; rw [br,hy]; simp only [Option.bind_some,WT]; cases decide (x=y) <;> rfl)]
  exact F8 _
 unfold uG M.same
 by_cases h:a.aO.length=b.aO.length
 ·have h1:((a.aO.length:Int) == (b.aO.length:Int))=true:=by simp [h]
  have h2:(a.aO.length == b.aO.length)=true:=by simpa using h
  simp only [e h,h1,h2]
  cases a.fM == b.fM <;> cases a.bf == b.bf <;> cases a.be == b.be <;> cases er a.av b.av <;> cases a.a7.aT == b.a7.aT <;> cases lN a.a7.bg b.a7.bg <;> cases a.aJ == b.aJ <;> cases a.a8 == b.a8 <;> simp
 ·have h1:((a.aO.length:Int) == (b.aO.length:Int))=false:=by simp; omega
  have h2:(a.aO.length == b.aO.length)=false:=by simpa using h
  simp only [h1,h2]
  cases a.fM == b.fM <;> cases a.bf == b.bf <;> cases a.be == b.be <;> cases er a.av b.av <;> cases a.a7.aT == b.a7.aT <;> cases lN a.a7.bg b.a7.bg <;> cases a.aJ == b.aJ <;> simp
def Xy (l:List aA):Prop:=∀ x∈l,x.av.aD.length≤1048576∧x.aO.length≤1048576
def Xz (l:List aG):Prop:=∀ x∈l,x.fP.length≤1048576
structure M.WorldOk (w:World):Prop where
 up:w.fT.cx.length≤1048576
 new:w.jj.length≤1048576
 old:w.f6.length≤1048576
 oldB:Q4 w.f6
 n:w.fN.length≤1048576
 nodes:Xy w.fN
 d:w.fD.length≤1048576
 disks:Xz w.fD
 net:w.dX.length≤1048576
 log:w.p5.length≤1048576
theorem worldOk {w:World} (hw:World.wf w) (hb:eU w≤1048576):M.WorldOk w:=by
 have h0:=hb
 unfold eU at h0
 have h1:=gF (f:=dt) w.f6
 have h2:=gF (f:=dx) w.fN
 have h3:=gF (f:=dn) w.fD
 have h4:=gF (f:=cU) w.dX
 obtain ⟨_,_,_,h5,_⟩:=hw
 have e1:vd w.fT=w.fT.cx.length:=rfl
 refine ⟨by omega,by omega,by omega,Za h5 (by omega),by omega,fun x hx=>?_,by omega,fun x hx=>?_,by omega,by omega⟩
 ·have h6:=gE (f:=dx) hx
  unfold dx lL at h6
  have h7:dx x=x.av.aD.length+(x.a7.bg.length+x.aO.length):=rfl
  have h8:=gE (f:=dx) hx
  omega
 ·have h8:=gE (f:=dn) hx
  have h7:dn x=x.fA.length+(x.fB.length+fU eZ x.fP):=rfl
  have h9:=gF (f:=eZ) x.fP
  omega
theorem JJ (a b:Nat):((a:Int) == (b:Int))=(a == b):=by rw [Bool.eq_iff_iff,beq_iff_eq,beq_iff_eq]; omega
def dD {α:Type} (f:α→Bool):List α→Nat→Int
 | [],_=>-1
 | x :: l,i=>if f x then i else dD f l (i+1)
theorem lP {α:Type} {fin:Unit→Option Int} {body:α→Nat→Unit→(Unit→Option Int)→Option Int} (f:α→Bool) {xs:List α} (hf:fin ()=some (-1)) (hb:∀ x i k,x∈xs→body x i () k=bif f x then some (i:Int) else k ()) :
  bt fin body xs 0 ()=some (dD f xs 0):=by
 have:∀ (l:List α) (i:Nat),(∀ y∈l,y∈xs)→bt fin body l i ()=some (dD f l i):=by
  intro l
  induction l with
  | nil=>intro i _; exact hf
  | cons x l ih =>
   intro i h
   simp only [bt,dD]
   rw [hb x i _ (h x (by simp)),ih (i+1) (fun y hy=>h y (by simp [hy]))]
   cases f x <;> simp
 exact this xs 0 (fun _ h=>h)
theorem rB {α:Type} (f:α→Bool):∀ (l:List α) (i:Nat),decide (dD f l i≥0)=l.any f:=by
 intro l
 induction l with
 | nil=>intro i; rfl
 | cons x l ih =>
  intro i
  rw [List.any_cons,← ih (i+1),Bool.eq_iff_iff]
  simp only [decide_eq_true_eq,Bool.or_eq_true]
  by_cases h:f x=true
  ·simp [dD,h]
  ·simp [dD,h]
def mP (r:c7):Bool:=aq r.aP 0 1000000 && aq r.cL 0 1 && aq r.aY 0 240
theorem Dy (u:Nat) (r:c7):qd u r=some (mP r):=by
 unfold qd mP
 simp only [bX,Option.bind_some]
 cases aq r.aP 0 1000000 <;> cases aq r.cL 0 1 <;> rfl
theorem Fx (u:Nat) (n:Int):uZ u n=some (aq n 0 1):=by
 unfold uZ aq
 by_cases h0:n=0
 ·subst h0; rfl
 ·by_cases h1:n=1
  ·subst h1; rfl
  ·have e0:(n == 0)=false:=by simpa using h0
   have e1:(n == 1)=false:=by simpa using h1
   simp only [e0,e1,cond_false]
   by_cases h:0≤n
   ·have:¬ n≤1:=by omega
    simp [this]
   ·simp [h]
theorem Dz (u:Nat) (r:c7):qo u r=some (mP r):=by
 unfold qo uy mP
 simp only [bM,Fx,Option.bind_some]
 cases aq r.aP 0 1000000 <;> cases aq r.cL 0 1 <;> rfl
def iQ (d:aG) (n:Int):List Int:=if n=0 then d.fA else d.fB
theorem D7 (u:Nat) (d:aG) (n:Int):eQ u d n=some (iQ d n):=by
 unfold eQ iQ
 by_cases h:n=0
 ·simp [h]
 ·have:(n == 0)=false:=by simpa using h
  simp [h,this]
theorem Aq (u:Nat) (d:aG) {n:Int} (h:aq n 0 1=true):pe u d n=some (iQ d n):=by
 unfold pe iQ
 have:=ce h
 by_cases h0:n=0
 ·subst h0; rfl
 ·have:n=1:=by omega
  subst this; rfl
def mX (p:ca):Bool:=if p.d1=2 then (p.Cl == 0) && (p.fB.length == 0) && mP p.fR else aq p.d1 0 1 && decide (p.fR=⟨0,0,0⟩) && aq p.Cl 0 (240 - p.fB.length)
theorem ME (x:c7):(([x.aP,x.cL,x.aY]:List Int) == [0,0,0])=decide (x=⟨0,0,0⟩):=VW x ⟨0,0,0⟩
theorem Sv (u:Nat) {p:ca} (h:p.fB.length≤1048576):A3 u p=some (mX p):=by
 unfold A3 mX
 rw [cH (by omega) (by omega)]
 simp only [Dz,Fx,bM,Option.bind_some,ME]
 have e:((p.fB.length:Int) == 0)=(p.fB.length == 0):=JJ _ 0
 by_cases h2:p.d1=2
 ·simp only [h2,beq_self_eq_true,cond_true,if_true,e]
  cases p.Cl == 0 <;> cases p.fB.length == 0 <;> rfl
 ·have:(p.d1 == 2)=false:=by simpa using h2
  simp only [this,cond_false,h2,if_false]
  cases aq p.d1 0 1 <;> cases decide (p.fR=⟨0,0,0⟩) <;> rfl
theorem GR (u:Nat) {p:ca} (h:p.fB.length≤1048576):ut u p=some (mX p):=by
 unfold ut mX
 simp only [Dy,bX,Option.bind_some,ME]
 have e:((p.fB.length:Int) == 0)=(p.fB.length == 0):=JJ _ 0
 by_cases h2:p.d1=2
 ·simp only [h2,beq_self_eq_true,cond_true,if_true,e]
  cases p.Cl == 0 <;> cases p.fB.length == 0 <;> rfl
 ·have:(p.d1 == 2)=false:=by simpa using h2
  simp only [this,cond_false,h2,if_false]
  cases h3:aq p.Cl 0 240 with
  | false =>
   have h4:aq p.Cl 0 (240 - p.fB.length)=false:=by
    have:=UY h3
    simp [aq]; omega
   rw [h4]
   cases aq p.d1 0 1 <;> cases decide (p.fR=⟨0,0,0⟩) <;> rfl
  | true =>
   have h3:=ce h3
   rw [cH (by omega) (by omega)]
   have h4:aq p.Cl 0 (240 - p.fB.length)=decide ((p.fB.length:Int)≤240 - p.Cl):=by
    rw [Bool.eq_iff_iff]; simp [aq]; omega
   rw [h4]
   cases aq p.d1 0 1 <;> cases decide (p.fR=⟨0,0,0⟩) <;> cases decide ((p.fB.length:Int)≤240 - p.Cl) <;> rfl
def em (d:aG):Bool:=decide (d.fA.length≤240) && decide (d.fB.length≤240) && mP d.fR && decide (d.fR.aY≤(iQ d d.fR.cL).length) && decide (d.fP.length≤200) && d.fP.all mX
structure M.DOk (d:aG):Prop where
 a:d.fA.length≤1048576
 b:d.fB.length≤1048576
 p:d.fP.length≤1048576
 puts:∀ x∈d.fP,x.fB.length≤1048576
theorem dok {d:aG} (h:dn d≤1048576):M.DOk d:=by
 have e:dn d=d.fA.length+(d.fB.length+fU eZ d.fP):=rfl
 have:=gF (f:=eZ) d.fP
 refine ⟨by omega,by omega,by omega,fun x hx=>?_⟩
 have h1:x.fB.length≤fU eZ d.fP:=gE (f:=eZ) hx
 omega
theorem Oy {u:Nat} (hu:1099511627776≤u) {l:List ca} (hl:l.length≤1048576) (hp:∀ x∈l,x.fB.length≤1048576):b6 u l=some (l.any fun x=>!mX x):=by
 unfold b6 cC
 rw [kd u l () u (by omega) (by omega),lP (fun x=>!mX x) rfl (fun x i k hx=>by unfold ek tk; rw [Sv u (hp x hx)]; rfl)]
 simp only [Option.bind_some,rB]
theorem Fy {α:Type} (f:α→Bool) (l:List α):(!(l.any fun x=>!f x))=l.all f:=by
 induction l with
 | nil=>rfl
 | cons x l ih=>simp only [List.any_cons,List.all_cons,Bool.not_or,Bool.not_not,ih]
theorem Yw (a b:Int):decide (a > b)=!decide (a≤b):=by
 by_cases h:a≤b
 ·have:¬ a > b:=by omega
  simp [h,this]
 ·have:a > b:=by omega
  simp [h,this]
theorem LS (a b:Nat):decide ((a:Int)≤(b:Int))=decide (a≤b):=by rw [decide_eq_decide]; omega
theorem Bn {u:Nat} (hu:1099511627776≤u) {d:aG} (hd:M.DOk d):pk u d=some (em d):=by
 unfold pk oH em
 simp only [Dz,D7,Oy hu hd.p hd.puts,Option.bind_some,Fy,Yw]
 have e1:decide ((d.fA.length:Int)≤240)=decide (d.fA.length≤240):=LS _ 240
 have e2:decide ((d.fB.length:Int)≤240)=decide (d.fB.length≤240):=LS _ 240
 have e3:decide ((d.fP.length:Int)≤200)=decide (d.fP.length≤200):=LS _ 200
 rw [e1,e2,e3]
 cases decide (d.fA.length≤240) <;> cases decide (d.fB.length≤240) <;> cases mP d.fR <;> cases decide (d.fR.aY≤(iQ d d.fR.cL).length) <;> cases decide (d.fP.length≤200) <;> rfl
theorem LT {u:Nat} (hu:1099511627776≤u) {d:aG} (hd:M.DOk d):mA u u 0 d=some (d.fP.all mX):=by
 have:=hd.p
 rw [KG u d () u (by omega) (by omega)]
 have:∀ (l:List ca) (i:Nat),(∀ y∈l,y∈d.fP)→bt (CR u d) (xw u d) l i ()=some (l.all mX):=by
  intro l
  induction l with
  | nil=>intro i _; rfl
  | cons x l ih =>
   intro i h
   simp only [bt,xw,GR u (hd.puts x (h x (by simp))),Option.bind_some,List.all_cons]
   rw [ih (i+1) (fun y hy=>h y (by simp [hy]))]
   cases mX x <;> rfl
 exact this _ 0 (fun _ h=>h)
theorem yh {r:c7} (h:mP r=true):aq r.cL 0 1=true∧0≤r.aY∧r.aY≤240:=by
 unfold mP at h
 simp only [Bool.and_eq_true] at h
 exact ⟨h.1.2,(ce h.2).1,(ce h.2).2⟩
theorem Bo {u:Nat} (hu:1099511627776≤u) {d:aG} (hd:M.DOk d):pf u d=some (em d):=by
 unfold pf mB em
 have e1:decide ((d.fA.length:Int)≤240)=decide (d.fA.length≤240):=LS _ 240
 have e2:decide ((d.fB.length:Int)≤240)=decide (d.fB.length≤240):=LS _ 240
 have e3:decide ((d.fP.length:Int)≤200)=decide (d.fP.length≤200):=LS _ 200
 simp only [Dy,LT hu hd,Option.bind_some,Yw,e1,e2,e3,cond_true]
 cases h:mP d.fR with
 | false=>cases decide (d.fA.length≤240) <;> cases decide (d.fB.length≤240) <;> rfl
 | true =>
  rw [Aq u d (yh h).1]
  simp only [Option.bind_some]
  cases decide (d.fA.length≤240) <;> cases decide (d.fB.length≤240) <;> cases decide (d.fR.aY≤(iQ d d.fR.cL).length) <;> cases decide (d.fP.length≤200) <;> rfl
def eI (d:aG):Int×List Int:=if em d then (d.fR.aP,(iQ d d.fR.cL).take d.fR.aY.toNat) else (0,[])
theorem Ar {d:aG} (h:em d=true):mP d.fR=true∧d.fR.aY≤(iQ d d.fR.cL).length∧d.fA.length≤240∧d.fB.length≤240∧d.fP.length≤200:=by
 unfold em at h
 simp only [Bool.and_eq_true,decide_eq_true_eq] at h
 obtain ⟨⟨⟨⟨⟨h1,h2⟩,h3⟩,h4⟩,h5⟩,h6⟩:=h
 exact ⟨h3,h4,h1,h2,h5⟩
theorem LU {d:aG} (h:em d=true) (n:Int):(iQ d n).length≤240:=by
 have:=Ar h
 unfold iQ; split <;> omega
theorem zN {u:Nat} (hu:1099511627776≤u) {d:aG} (hd:M.DOk d):pB u d=some (eI d):=by
 unfold pB eI
 rw [Bn hu hd,D7]
 simp only [Option.bind_some]
 cases h:em d with
 | false=>rfl
 | true =>
  have h1:=Ar h
  have h2:=yh h1.1
  have h3:=LU h d.fR.cL
  obtain ⟨n,hn⟩:=Int.eq_ofNat_of_zero_le h2.2.1
  simp only [Bool.not_true,cond_false,if_true]
  rw [hn] at h1 ⊢
  rw [show (0:Int)=((0:Nat):Int) by rfl,eL (by omega) (by omega)]
  simp only [Option.bind_some,Int.toNat_natCast,List.drop_zero]
  rw [gL u (by simp; omega)]; rfl
theorem EE {u:Nat} (hu:1099511627776≤u) {d:aG} (hd:M.DOk d):rM u d=some (eI d):=by
 unfold rM eI
 rw [Bo hu hd]
 simp only [Option.bind_some]
 cases h:em d with
 | false=>rfl
 | true =>
  have h1:=Ar h
  have h2:=yh h1.1
  have h3:=LU h d.fR.cL
  obtain ⟨n,hn⟩:=Int.eq_ofNat_of_zero_le h2.2.1
  rw [Aq u d h2.1]
  simp only [Bool.not_true,cond_false,if_true,Option.bind_some]
  rw [hn] at h1 ⊢
  rw [show (0:Int)=((0:Nat):Int) by rfl,eL (by omega) (by omega)]
  simp only [Option.bind_some,Int.toNat_natCast,List.drop_zero]
  rw [bB (by simp; omega)]; rfl
def M.holds (d:aG) (gen:Int) (b:List Int):Bool:=((eI d).1 == gen) && lN (eI d).2 b
theorem GS {u:Nat} (hu:1099511627776≤u) {d:aG} (hd:M.DOk d) (gen:Int) (b:List Int):uA u d gen b=some (M.holds d gen b):=by
 unfold uA M.holds
 rw [zN hu hd]
 simp only [Option.bind_some,qI]
 cases (eI d).1 == gen <;> rfl
theorem yi {u:Nat} (hu:1099511627776≤u) {d:aG} (hd:M.DOk d) (gen:Int) (b:List Int):nU u d gen b=some (M.holds d gen b):=by
 unfold nU M.holds
 rw [EE hu hd]
 simp only [Option.bind_some,w7]
 cases (eI d).1 == gen <;> rfl
structure M.DsOk (w:World):Prop where
 d:w.fD.length≤1048576
 old:w.f6.length≤1048576
 ok:∀ x∈w.fD,M.DOk x
theorem qaE {w:World} (h:eU w≤1048576):M.DsOk w:=by
 have h0:=h
 unfold eU at h0
 have h1:=gF (f:=dt) w.f6
 have h3:=gF (f:=dn) w.fD
 refine ⟨by omega,by omega,fun x hx=>dok ?_⟩
 have:=gE (f:=dn) hx
 omega
structure M.NdOk (w:World):Prop where
 new:aF w.jj
 newL:w.jj.length≤1048576
 old:w.f6.length≤1048576
 oldB:Q4 w.f6
theorem qaF {w:World} (hw:World.wf w) (h:eU w≤1048576):M.NdOk w:=⟨Bk hw.2.2.1,(worldOk hw h).new,(worldOk hw h).old,(worldOk hw h).oldB⟩
def un (w:World):af:=JH 1 w.jj w.fC.aS
theorem Sw {u:Nat} (hu:1099511627776≤u) {w:World} (hw:M.NdOk w):A0 u w=some (un w):=by
 unfold A0
 have:=hw.newL
 rw [Ss hu hw.new (by omega)]; rfl
theorem Sy {u:Nat} (hu:1099511627776≤u) {w:World} (hw:M.NdOk w):AM u w=some (un w):=by
 unfold AM
 have:=hw.newL
 rw [Su hu hw.new (by omega)]; rfl
theorem Q5 {u:Nat} (hu:1099511627776≤u) {r:List Int} (hr:r.length≤1048576) (k:Int):yA u r k=some (r.any fun y=>y == k):=by
 unfold yA
 rw [Kz u r k () u (by omega) (by omega)]
 have:∀ (l:List Int) (i:Nat),bt (CN u r k) (xv u r k) l i ()=some (l.any fun y=>y == k):=by
  intro l
  induction l with
  | nil=>intro i; rfl
  | cons y l ih =>
   intro i
   simp only [bt,xv,List.any_cons]
   rw [ih (i+1)]
   cases y == k <;> rfl
 exact this r 0
theorem zO {u:Nat} (hu:1099511627776≤u) {r:List Int} (hr:r.length≤1048576) (k:Int):fO u r k=some (r.any fun y=>y == k):=by
 unfold fO lB
 rw [Ak u r k () u (by omega) (by omega),lP (fun y=>k == y) rfl (fun x i k hx=>by unfold qE; rfl)]
 simp only [Option.bind_some,rB]
 congr 2
 funext y
 exact Bool.eq_iff_iff.2 (by simp only [beq_iff_eq]; exact ⟨Eq.symm,Eq.symm⟩)
theorem LV {ρ:Type} (J:List Int→Option ρ) (n:Int) (hn:n≤1048576) (L:Nat→List Int→Option ρ) (hL:∀ k x,L (k+1) x=bif decide ((x.length:Int) < n) then ((dW (decide ((x.length+([0]:List Int).length)*1≤140737488355328))).bind fun _=>L k (x++[0])) else J x) :
  ∀ (m k:Nat) (x:List Int),(x.length+m=n.toNat∨(m=0∧n≤x.length))→m < k→L k x=J (x++List.replicate m 0):=by
 intro m
 induction m with
 | zero =>
  intro k x h1 h2
  obtain ⟨k,rfl⟩:∃ j,k=j+1:=⟨k - 1,by omega⟩
  have e:¬ ((x.length:Int) < n):=by omega
  rw [hL]; simp [e]
 | succ m ih =>
  intro k x h1 h2
  obtain ⟨k,rfl⟩:∃ j,k=j+1:=⟨k - 1,by omega⟩
  have e:(x.length:Int) < n:=by omega
  rw [hL,bB (by simp; omega)]
  simp only [e,decide_true,cond_true,Option.bind_some]
  rw [ih k _ (by simp; omega) (by omega),List.append_assoc]
  rfl
theorem Q6 {α ρ:Type} {fin:List α→Option ρ} {body:α→Nat→List α→(List α→Option ρ)→Option ρ} (n:Nat) (p:List α) (hb:∀ x i s k,x∈p→s.length+1≤n→body x i s k=k (s++[x])) :
  ∀ (l:List α) (i:Nat) (s:List α),(∀ x∈l,x∈p)→s.length+l.length≤n→bt fin body l i s=fin (s++l):=by
 intro l
 induction l with
 | nil=>intro i s _ _; simp [bt]
 | cons x l ih =>
  intro i s h1 h2
  simp only [List.length_cons] at h2
  simp only [bt]
  rw [hb x i s _ (h1 x (by simp)) (by omega),ih (i+1) _ (fun y hy=>h1 y (by simp [hy])) (by simp; omega)]
  simp
theorem Fz {u:Nat} (hu:1099511627776≤u) {d:aG} (hd:M.DOk d):uR u d=some d:=by
 have h1:=hd.a
 have h2:=hd.b
 have h3:=hd.p
 unfold uR
 rw [bB (by simp; omega),bB (by simp; omega)]
 simp only [Option.bind_some]
 rw [KI u d _ u (by omega) (by omega),Q6 1048576 d.fP _ d.fP 0 [] (fun _ h=>h) (by simp; omega)]
 ·rfl
 ·intro x i s k hx hs
  have h4:=hd.puts x hx
  unfold CS qV
  rw [bB (by simp; omega)]
  simp only [Option.bind_some]
  rw [bB (by simp; omega)]; rfl
theorem LW {u:Nat} (hu:1099511627776≤u) {d:aG} (hd:M.DOk d):tl u d=some d:=by
 have h1:=hd.a
 have h2:=hd.b
 have h3:=hd.p
 unfold tl
 rw [gL u (show d.fA.length≤1073741824 by omega),gL u (show d.fB.length≤1073741824 by omega)]
 simp only [Option.bind_some]
 rw [Hc u d d.fA d.fB _ u (by omega) (by omega),Q6 1048576 d.fP _ d.fP 0 [] (fun _ h=>h) (by simp; omega)]
 ·rfl
 ·intro x i s k hx hs
  have h4:=hd.puts x hx
  unfold A4 we
  rw [gL u (show x.fB.length≤1073741824 by omega)]
  simp only [Option.bind_some]
  rw [bB (by simp; omega)]; rfl
def MF (b:List Int) (a:Nat) (p:List Int):List Int:=Ad (b++List.replicate (a+p.length - b.length) 0) p a
theorem JK {x p:List Int} {a:Nat} (h:a+p.length≤x.length):Ad x p a=x.take a++p++x.drop (a+p.length):=by
 unfold Ad
 rw [List.take_of_length_le (l:=p) (by omega),Nat.min_eq_left (by omega)]
theorem Q7 (b:List Int) (a:Nat) (p:List Int):(MF b a p).length=max b.length (a+p.length):=by
 unfold MF
 rw [JK (by simp; omega)]
 simp
 omega
theorem qaf (u:Nat) (a:Nat) (p:List Int) (ha:a≤1048576):∀ (l:List Int) (i:Nat) (s:List Int),a+i+l.length≤s.length→s.length≤4194304→bt (zn u a p) (zo u a p) l i s=some (s.take (a+i)++l++s.drop (a+i+l.length)):=by
 intro l
 induction l with
 | nil=>intro i s _ _; simp [bt,zn,xU]
 | cons y l ih =>
  intro i s h1 h2
  simp only [List.length_cons] at h1
  simp only [bt,zo]
  rw [dJ (by omega) (by omega),show (a:Int)+(i:Int)=((a+i:Nat):Int) by omega,br,List.getElem?_eq_getElem (by omega),Int.toNat_natCast]
  simp only [Option.bind_some]
  rw [ih (i+1) _ (by simp; omega) (by simp; omega)]
  have e1:(s.set (a+i) y).take (a+(i+1))=s.take (a+i)++[y]:=by
   rw [show a+(i+1)=(a+i)+1 by omega,List.take_add_one,List.take_set_of_le (Nat.le_refl _)]
   simp [show a+i < s.length by omega]
  have e2:(s.set (a+i) y).drop (a+(i+1)+l.length)=s.drop (a+i+(y :: l).length):=by
   rw [List.drop_set_of_lt (by omega)]; simp only [List.length_cons]; congr 1; omega
  rw [e1,e2]; simp
theorem GT {u:Nat} (hu:1099511627776≤u) {b p:List Int} {a:Nat} (hb:b.length≤1048576) (hp:a+p.length≤1048576):xy u b a p=some (MF b a p):=by
 unfold xy
 rw [bB (by simp; omega)]
 simp only [Option.bind_some,List.nil_append]
 have e:aW .i64 (a:Int) (p.length:Int)=((a+p.length:Nat):Int):=by rw [dJ (by omega) (by omega)]; omega
 rw [LV (fun x=>xV u a p x) ((a+p.length:Nat):Int) (by omega) (fun k x=>s7 u k a p x) (fun k x=>by rw [← e]; rfl) (a+p.length - b.length) u b (by rw [Int.toNat_natCast]; omega) (by omega)]
 unfold xV
 rw [MU u a p _ u (by omega) (by omega),qaf u a p (by omega) p 0 _ (by simp; omega) (by simp; omega)]
 unfold MF
 rw [JK (by simp; omega)]; simp
def Bp (d:aG) (p:ca):aG:=if p.d1=2 then ⟨d.fA,d.fB,p.fR,d.fP⟩ else if p.d1=0 then ⟨MF d.fA p.Cl.toNat p.fB,d.fB,d.fR,d.fP⟩ else ⟨d.fA,MF d.fB p.Cl.toNat p.fB,d.fR,d.fP⟩
theorem FA {p:ca} (h:mX p=true):p.d1=2∨((p.d1=0∨p.d1=1)∧0≤p.Cl∧p.Cl+p.fB.length≤240):=by
 unfold mX at h
 by_cases h2:p.d1=2
 ·exact .inl h2
 ·rw [if_neg h2] at h
  simp only [Bool.and_eq_true] at h
  have h3:=ce h.1.1
  have h4:=ce h.2
  exact .inr ⟨by omega,by omega,by omega⟩
theorem Th {d:aG} {p:ca} (hd:M.DOk d) (h:mX p=true):M.DOk (Bp d p):=by
 have h1:=hd.a
 have h2:=hd.b
 unfold Bp
 rcases FA h with h | ⟨h3,h4,h5⟩
 ·rw [if_pos h]; exact ⟨hd.a,hd.b,hd.p,hd.puts⟩
 ·split
  ·exact ⟨hd.a,hd.b,hd.p,hd.puts⟩
  ·split
   ·exact ⟨by rw [Q7]; omega,hd.b,hd.p,hd.puts⟩
   ·exact ⟨hd.a,by rw [Q7]; omega,hd.p,hd.puts⟩
theorem Q8 {u:Nat} (hu:1099511627776≤u) {d:aG} {p:ca} (hd:M.DOk d) (hp:p.fB.length≤1048576) (h:mX p=true):qX u d p=some (Bp d p):=by
 have h1:=hd.a
 have h2:=hd.b
 unfold qX Bp
 rw [Fz hu hd,GR u hp,h]
 simp only [Option.bind_some,Bool.not_true,cond_false]
 rcases FA h with h | ⟨h3,h4,h5⟩
 ·rw [h]; rfl
 ·obtain ⟨a,ha⟩:=Int.eq_ofNat_of_zero_le h4
  rcases h3 with h3 | h3
  ·rw [h3,ha,GT hu h1 (by omega)]; rfl
  ·rw [h3,ha,GT hu h2 (by omega)]; rfl
theorem U3 (b:List Int) (a n:Nat):dW (GG (a:Int) (((b++List.replicate (a+n - b.length) (0:Int)).length:Nat):Int))=some ():=by
 have:GG (a:Int) (((b++List.replicate (a+n - b.length) (0:Int)).length:Nat):Int)=true:=by
  simp only [GG,Bool.and_eq_true,decide_eq_true_eq,List.length_append,List.length_replicate]; omega
 rw [this]; rfl
theorem Oz {u:Nat} (hu:1099511627776≤u) {d:aG} {p:ca} (hd:M.DOk d) (h:mX p=true):jt u d p=some (Bp d p):=by
 have h1:=hd.a
 have h2:=hd.b
 unfold jt Bp ud
 rcases FA h with h | ⟨h3,h4,h5⟩
 ·rw [h]; rfl
 ·obtain ⟨a,ha⟩:=Int.eq_ofNat_of_zero_le h4
  have e:aW .i64 (a:Int) (p.fB.length:Int)=((a+p.fB.length:Nat):Int):=by rw [dJ (by omega) (by omega)]; omega
  rcases h3 with h3 | h3
  ·rw [h3,ha]
   show gD u u p d.fA (0,d)=some ⟨MF d.fA a p.fB,d.fB,d.fR,d.fP⟩
   rw [LV (fun x=>mV u p x (0,d)) ((a+p.fB.length:Nat):Int) (by omega) (fun k x=>gD u k p x (0,d)) (fun k x=>by rw [← e,← ha]; rfl) (a+p.fB.length - d.fA.length) u d.fA (by rw [Int.toNat_natCast]; omega) (by omega)]
   unfold mV
   rw [ha,U3 d.fA a p.fB.length]
   rfl
  ·rw [h3,ha]
   show gC u u p (1,d) d.fB=some ⟨d.fA,MF d.fB a p.fB,d.fR,d.fP⟩
   rw [LV (fun x=>mU u p (1,d) x) ((a+p.fB.length:Nat):Int) (by omega) (fun k x=>gC u k p (1,d) x) (fun k x=>by rw [← e,← ha]; rfl) (a+p.fB.length - d.fB.length) u d.fB (by rw [Int.toNat_natCast]; omega) (by omega)]
   unfold mU
   rw [ha,U3 d.fB a p.fB.length]
   rfl
theorem MG {d:aG} (h:em d=true):∀ p∈d.fP,mX p=true:=by
 unfold em at h
 simp only [Bool.and_eq_true] at h
 exact List.all_eq_true.1 h.2
def tup (d:aG):List Int×List Int×Int×Int×Int×List ca:=(d.fA,d.fB,d.fR.aP,d.fR.cL,d.fR.aY,d.fP)
def HP (d:aG) (a:List Int) (g:Int) (b:List Int):Bool:=M.holds d 0 a || M.holds d g b
theorem LX {u:Nat} (hu:1099511627776≤u) {d:aG} (hd:M.DOk d) (a:List Int) (g:Int) (b:List Int):s6 u d a g b=some (HP d a g b):=by
 unfold s6 HP
 rw [yi hu hd,yi hu hd]
 cases M.holds d 0 a <;> rfl
def Q9:List ca→aG→aG
 | [],d=>⟨d.fA,d.fB,d.fR,[]⟩
 | p :: l,d=>Q9 l (Bp d p)
def FB (d:aG):aG:=if em d then Q9 d.fP d else d
theorem U4 {u:Nat} (hu:1099511627776≤u) (d0:aG):∀ (l:List ca) (i:Nat) (d:aG),(∀ p∈l,mX p=true∧p.fB.length≤1048576)→M.DOk d→bt (AT u d0) (AU u d0) l i (tup d)=some (Q9 l d):=by
 intro l
 induction l with
 | nil=>intro i d _ _; rfl
 | cons p l ih =>
  intro i d hp hd
  obtain ⟨h1,h2⟩:=hp p (by simp)
  show (qX u d p).bind (fun r25=>bt (AT u d0) (AU u d0) l (i+1) (tup r25))=_
  rw [Q8 hu hd h2 h1]
  exact ih (i+1) _ (fun q hq=>hp q (by simp [hq])) (Th hd h1)
theorem TZ {u:Nat} (hu:1099511627776≤u) {d:aG} (hd:M.DOk d):CT u d=some (FB d):=by
 have h3:=hd.p
 unfold CT FB
 rw [Fz hu hd,Bo hu hd]
 simp only [Option.bind_some]
 cases h:em d with
 | false=>rfl
 | true =>
  simp only [Bool.not_true,cond_false,if_true]
  have:=O8 u d (tup d) u (by omega) (by omega)
  exact this.trans (U4 hu d d.fP 0 d (fun p hp=>⟨MG h p hp,hd.puts p hp⟩) hd)
def Ra (c:Int):Option (Int×Nat)→Option (Int×Nat)
 | some (v,n)=>some (v*128+(c - 128),n+1)
 | none=>none
def M.rd:Nat→Bool→List Int→Option (Int×Nat)
 | 0,_,_=>none
 | _+1,_,[]=>none
 | k+1,f,c :: l=>if c < 128 then (if f || decide (0 < c) then some (c,1) else none) else Ra c (M.rd k false l)
theorem ZN:∀ (k:Nat) (f:Bool) (l:List Int) (w:Int) (j:Nat),aF l→M.rd k f l=some (w,j)→0≤w∧(f=false→0 < w)∧j≤l.length∧1≤j∧w < 128 ^ k∧∀ K,k≤K+1→l.take j=cV K w:=by
 intro k
 induction k with
 | zero=>intro f l w j _ h; simp [M.rd] at h
 | succ k ih =>
  intro f l w j hb h
  cases l with
  | nil=>simp [M.rd] at h
  | cons c l =>
   have hc:=hb c (by simp)
   unfold M.rd at h
   by_cases hc1:c < 128
   ·rw [if_pos hc1] at h
    split at h
    ·rename_i hf
     simp only [Option.some.injEq,Prod.mk.injEq] at h
     obtain ⟨rfl,rfl⟩:=h
     have hp:(128:Int)≤128 ^ (k+1):=by
      rw [Int.pow_succ]; have:(0:Int) < 128 ^ k:=Int.pow_pos (by decide); omega
     refine ⟨hc.1,fun h0=>by subst h0; simpa using hf,by simp,by omega,by omega,fun K _=>?_⟩
     cases K with
     | zero=>simp [cV]; omega
     | succ K=>unfold cV; rw [if_pos (by omega)]; simp; omega
    ·cases h
   ·rw [if_neg hc1] at h
    cases hr:M.rd k false l with
    | none=>rw [hr] at h; cases h
    | some q =>
     obtain ⟨v,n⟩:=q
     rw [hr] at h
     simp only [Ra,Option.some.injEq,Prod.mk.injEq] at h
     obtain ⟨rfl,rfl⟩:=h
     obtain ⟨h1,h2,h3,h4,h5,h6⟩:=ih false l v n (fun x hx=>hb x (by simp [hx])) hr
     have h2:=h2 rfl
     have hk:k≠0:=by intro h0; subst h0; simp [M.rd] at hr
     refine ⟨by omega,fun _=>by omega,by simp; omega,by omega,by rw [Int.pow_succ]; omega,fun K hK=>?_⟩
     obtain ⟨K,rfl⟩:∃ K',K=K'+1:=⟨K - 1,by omega⟩
     unfold cV
     rw [if_neg (by omega),List.take_succ_cons,h6 K (by omega)]
     congr 1
     ·omega
     ·congr 1; omega
theorem ZO:∀ (k K:Nat) (f:Bool) (n:Int) (t:List Int),1≤k→0≤n→(f=false→0 < n)→n < 128 ^ k→k≤K+1→M.rd k f (cV K n++t)=some (n,(cV K n).length):=by
 intro k
 induction k with
 | zero=>intro K f n t h0; omega
 | succ k ih =>
  intro K f n t h0 h1 h2 h3 h4
  by_cases h:n≤127
  ·have e:cV K n=[n]:=by
    cases K with
    | zero=>simp [cV]; omega
    | succ K=>unfold cV; rw [if_pos h]; simp; omega
   rw [e]
   simp only [List.singleton_append,M.rd,List.length_singleton]
   rw [if_pos (by omega),if_pos (by cases f <;> simp; exact h2 rfl)]
  ·have hk:k≠0:=by
    intro h0; subst h0
    rw [show (128:Int) ^ (0+1)=128 by rfl] at h3; omega
   obtain ⟨K,rfl⟩:∃ K',K=K'+1:=⟨K - 1,by omega⟩
   unfold cV
   rw [if_neg h]
   simp only [List.cons_append,M.rd]
   rw [if_neg (by omega),ih K false (n / 128) t (by omega) (by omega) (fun _=>by omega) (by rw [Int.pow_succ] at h3; omega) (by omega)]
   simp only [Ra,List.length_cons,Option.some.injEq,Prod.mk.injEq,and_true]
   omega
theorem Rb {a n:Nat} (hn:n≤62) (h:a*2 ^ n < 9223372036854775808):i7 .i64 (a:Int) (n:Int)=((a*2 ^ n:Nat):Int):=by
 unfold i7
 rw [show min (Int.toNat (n:Int)) (IntKind.bits .i64)=n by simp [IntKind.bits]; omega]
 have e:(a:Int)*2 ^ n=((a*2 ^ n:Nat):Int):=by simp
 rw [e]
 exact wrap_i64 (by omega) (by omega)
theorem Yx {v a n:Nat} (hv:v < 2 ^ n):v ||| a*2 ^ n=v+a*2 ^ n:=by
 have h:=Nat.shiftLeft_add_eq_or_of_lt hv a
 rw [Nat.shiftLeft_eq] at h
 rw [Nat.or_comm,← h,Nat.add_comm]
theorem VX {v i:Nat} {c:Int} (hi:i≤7) (hv:v < 2 ^ (7*i)) (h1:0≤c) (h2:c≤255):sZ .i64 (v:Int) (i7 .i64 (fE .i64 (IntKind.wrap .i64 c) 127) (gS .i64 7 (i:Int)))=((v+(c % 128).toNat*2 ^ (7*i):Nat):Int)∧v+(c % 128).toNat*2 ^ (7*i) < 2 ^ (7*(i+1)):=by
 have hp:(2:Nat) ^ (7*i)≤2 ^ 49:=Nat.pow_le_pow_right (by omega) (by omega)
 have hq:(2:Nat) ^ (7*(i+1))=128*2 ^ (7*i):=by rw [Nat.mul_add,Nat.pow_add,Nat.mul_comm]
 have hc:(c % 128).toNat < 128:=by omega
 have hm:(c % 128).toNat*2 ^ (7*i)≤127*2 ^ (7*i):=Nat.mul_le_mul_right _ (by omega)
 rw [wrap_i64 (by omega) (by omega),TV,lx (by omega) (by omega),show (7:Int)*(i:Int)=((7*i:Nat):Int) by omega,show c % 128=(((c % 128).toNat:Nat):Int) by omega]
 rw [show (((c % 128).toNat:Nat):Int).toNat=(c % 128).toNat by omega]
 have hp2:(2:Nat) ^ 49=562949953421312:=by decide
 rw [Rb (by omega) (by omega),F7 (by omega) (by omega),Yx hv]
 exact ⟨rfl,by omega⟩
def qJ (o:Option (Int×Nat)) (v i a:Nat) (r:Int×Int×Bool):Prop:=match o with
 | some (w,j)=>r=((v:Int)+w*2 ^ (7*i),((a+j:Nat):Int),true)
 | none=>r.2.2=false
theorem Rc {o:Option (Int×Nat)} {v i a x:Nat} {c:Int} {r:Int×Int×Bool} (hx:(x:Int)=c - 128) (h:qJ o (v+x*2 ^ (7*i)) (i+1) (a+1) r):qJ (Ra c o) v i a r:=by
 cases o with
 | none=>exact h
 | some q =>
  obtain ⟨w,j⟩:=q
  unfold qJ at h
  unfold qJ Ra
  dsimp only at h ⊢
  rw [h]
  refine Prod.ext ?_ (Prod.ext ?_ rfl)
  ·dsimp only
   rw [show 7*(i+1)=7*i+7 by omega,Int.pow_add,← hx]
   have:((v+x*2 ^ (7*i):Nat):Int)=(v:Int)+(x:Int)*2 ^ (7*i):=by simp
   rw [this]
   generalize (2:Int) ^ (7*i)=p
   rw [show (2:Int) ^ 7=128 by rfl,Int.add_mul,Int.mul_assoc w 128 p,Int.mul_comm p 128]
   omega
  ·dsimp only; omega
theorem Re {α:Type} {b:List α} {a:Nat} (h:a < b.length):b.drop a=b[a] :: b.drop (a+1):=List.drop_eq_getElem_cons h
theorem XA (u:Nat) {b:List Int} (hb:aF b) (hl:b.length≤1048576) (a n:Nat) (hn:n≤8):∀ (m i k v:Nat),i+m=n→m < k→v < 2 ^ (7*i)→∃ r,fx u k b a v n i=some r∧qJ (M.rd m (i == 0) (b.drop (a+i))) v i (a+i) r:=by
 intro m
 induction m with
 | zero =>
  intro i k v h1 h2 h3
  obtain ⟨k,rfl⟩:∃ j,k=j+1:=⟨k - 1,by omega⟩
  have e:¬ ((i:Int) < (n:Int)):=by omega
  refine ⟨(0,0,false),?_,rfl⟩
  unfold fx uf
  simp only [e,decide_false,cond_false]
 | succ m ih =>
  intro i k v h1 h2 h3
  obtain ⟨k,rfl⟩:∃ j,k=j+1:=⟨k - 1,by omega⟩
  have e:(i:Int) < (n:Int):=by omega
  unfold fx
  simp only [e,decide_true,cond_true]
  rw [cH (a:=(b.length:Int)) (by omega) (by omega),cH (by omega) (by omega),bM]
  simp only [Option.bind_some]
  by_cases ha:a+i < b.length
  ·rw [show aq (a:Int) 0 ((b.length:Int) - 1 - (i:Int))=true by simp [aq]; omega,Re ha,dJ (a:=(a:Int)) (by omega) (by omega),show (a:Int)+(i:Int)=((a+i:Nat):Int) by omega,br,List.getElem?_eq_getElem ha]
   have hc:=hb b[a+i] (List.getElem_mem ha)
   obtain ⟨e1,e2⟩:=VX (i:=i) (by omega) h3 hc.1 hc.2
   simp only [Bool.not_true,cond_false,Option.bind_some]
   rw [e1,lx (by omega) (by omega),bB (by omega),wrap_i64 (by omega) (by omega),dJ (a:=((a+i:Nat):Int)) (by omega) (by omega),jx (by omega)]
   simp only [Option.bind_some,M.rd]
   by_cases hc1:b[a+i] < 128
   ·simp only [hc1,decide_true,cond_true,if_true]
    have hv:((v+(b[a+i] % 128).toNat*2 ^ (7*i):Nat):Int)=(v:Int)+b[a+i]*2 ^ (7*i):=by
     have:((v+(b[a+i] % 128).toNat*2 ^ (7*i):Nat):Int)=(v:Int)+(((b[a+i] % 128).toNat:Nat):Int)*2 ^ (7*i):=by simp
     rw [this,show (((b[a+i] % 128).toNat:Nat):Int)=b[a+i] by omega]
    rw [hv]
    by_cases h0:i=0
    ·subst h0
     refine ⟨_,rfl,?_⟩
     simp [qJ]
    ·have e3:((i:Int) == 0)=false:=by simp; omega
     have e4:(i == 0)=false:=by simpa using h0
     simp only [e3,e4,cond_false,Bool.false_or]
     refine ⟨_,rfl,?_⟩
     by_cases hc2:0 < b[a+i]
     ·have hc3:b[a+i] > 0:=hc2
      simp only [hc2,hc3,decide_true,if_true,qJ]
      refine Prod.ext rfl (Prod.ext ?_ rfl)
      dsimp only; omega
     ·have hc3:¬ b[a+i] > 0:=hc2
      simp only [hc2,hc3,decide_false,Bool.false_eq_true,if_false,qJ]
   ·simp only [hc1,decide_false,cond_false,if_false]
    obtain ⟨r,g1,g2⟩:=ih (i+1) k _ (by omega) (by omega) e2
    refine ⟨r,g1,Rc (x:=(b[a+i] % 128).toNat) (by omega) ?_⟩
    rw [show (i+1 == 0)=false by rfl] at g2
    exact g2
  ·rw [show aq (a:Int) 0 ((b.length:Int) - 1 - (i:Int))=false by simp [aq]; omega,List.drop_of_length_le (by omega)]
   exact ⟨(0,0,false),rfl,rfl⟩
def sU (n:Nat) (b:List Int) (a:Int):Option (Int×Int):=if 0≤a then match M.rd n true (b.drop a.toNat) with
  | some (v,j)=>some (v,a+j)
  | none=>none
 else none
theorem Rf {u:Nat} (hu:1099511627776≤u) {b:List Int} (hb:aF b) (hl:b.length≤1048576) (a:Int) (n:Nat) (h1:1≤n) (hn:n≤8):∃ r,pC u b a n=some r∧(match sU n b a with | some (v,e)=>r=(v,e,true) | none=>r.2.2=false):=by
 unfold pC sU
 by_cases ha:0≤a
 ·obtain ⟨a,rfl⟩:=Int.eq_ofNat_of_zero_le ha
  obtain ⟨r,g1,g2⟩:=XA u hb hl a n hn n 0 u 0 (by omega) (by omega) (by simp)
  refine ⟨r,g1,?_⟩
  rw [if_pos ha,Int.toNat_natCast]
  rw [Nat.add_zero] at g2
  unfold qJ at g2
  cases hr:M.rd n true (b.drop a) with
  | none=>rw [show ((0 == 0:Bool))=true by rfl,hr] at g2; exact g2
  | some q=>obtain ⟨w,j⟩:=q; rw [show ((0 == 0:Bool))=true by rfl,hr] at g2; simpa using g2
 ·obtain ⟨u,rfl⟩:∃ j,u=j+1:=⟨u - 1,by omega⟩
  rw [if_neg ha]
  refine ⟨(0,0,false),?_,rfl⟩
  unfold fx
  have e:(0:Int) < (n:Int):=by omega
  simp only [e,decide_true,cond_true]
  rw [cH (a:=(b.length:Int)) (by omega) (by omega),cH (by omega) (by omega),bM,show aq a 0 ((b.length:Int) - 1 - 0)=false by simp [aq]; omega]
  rfl
def a9 (b:List Int) (a:Int):Int×Int×Bool:=match sU 6 b a with
 | some (v,e)=>if v≤1000000000000 then (v,e,true) else (0,0,false)
 | none=>(0,0,false)
theorem w8 {u:Nat} (hu:1099511627776≤u) {b:List Int} (hb:aF b) (hl:b.length≤1048576) (a:Int):nM u b a=some (a9 b a):=by
 obtain ⟨r,g1,g2⟩:=Rf hu hb hl a 6 (by omega) (by omega)
 unfold nM a9
 rw [show ((6:Nat):Int)=6 by rfl] at g1
 rw [g1]
 simp only [Option.bind_some]
 cases hr:sU 6 b a with
 | none=>rw [hr] at g2; rw [g2]; rfl
 | some q =>
  obtain ⟨v,e⟩:=q
  rw [hr] at g2
  rw [g2]
  by_cases h:v≤1000000000000
  ·have:¬ v > 1000000000000:=by omega
   simp [h,this,rh]
  ·have:v > 1000000000000:=by omega
   simp [h,this,rh]
theorem VY (u:Nat) {b:List Int} (hb:aF b) (hl:b.length≤1048576) (a:Nat):∀ (m i k v:Nat),i+m=8→m < k→v < 2 ^ (7*i)→∃ r,fG u k b a v i=some r∧qJ (M.rd m (i == 0) (b.drop (a+i))) v i (a+i) r:=by
 intro m
 induction m with
 | zero =>
  intro i k v h1 h2 h3
  obtain ⟨k,rfl⟩:∃ j,k=j+1:=⟨k - 1,by omega⟩
  have e:¬ ((i:Int) < 8):=by omega
  refine ⟨(0,0,false),?_,rfl⟩
  unfold fG rO
  simp only [e,decide_false,cond_false]
 | succ m ih =>
  intro i k v h1 h2 h3
  obtain ⟨k,rfl⟩:∃ j,k=j+1:=⟨k - 1,by omega⟩
  have e:(i:Int) < 8:=by omega
  unfold fG
  simp only [e,decide_true,cond_true]
  rw [cH (a:=(b.length:Int)) (by omega) (by omega)]
  by_cases ha:a+i < b.length
  ·have e0:¬ ((a:Int)≥(b.length:Int) - (i:Int)):=by omega
   rw [Re ha,dJ (a:=(a:Int)) (by omega) (by omega),show (a:Int)+(i:Int)=((a+i:Nat):Int) by omega,br,List.getElem?_eq_getElem ha]
   have hc:=hb b[a+i] (List.getElem_mem ha)
   obtain ⟨e1,e2⟩:=VX (i:=i) (by omega) h3 hc.1 hc.2
   simp only [e0,decide_false,cond_false,Option.bind_some]
   rw [e1,lx (by omega) (by omega),bB (by omega),wrap_i64 (by omega) (by omega),dJ (a:=((a+i:Nat):Int)) (by omega) (by omega),jx (by omega)]
   simp only [Option.bind_some,M.rd]
   by_cases hc1:b[a+i] < 128
   ·simp only [hc1,decide_true,cond_true,if_true]
    have hv:((v+(b[a+i] % 128).toNat*2 ^ (7*i):Nat):Int)=(v:Int)+b[a+i]*2 ^ (7*i):=by
     have:((v+(b[a+i] % 128).toNat*2 ^ (7*i):Nat):Int)=(v:Int)+(((b[a+i] % 128).toNat:Nat):Int)*2 ^ (7*i):=by simp
     rw [this,show (((b[a+i] % 128).toNat:Nat):Int)=b[a+i] by omega]
    rw [hv]
    by_cases hc2:0 < b[a+i]
    ·have hc3:b[a+i] > 0:=hc2
     simp only [hc2,hc3,decide_true,cond_true,Bool.or_true,if_true,qJ]
     refine ⟨_,rfl,Prod.ext rfl (Prod.ext ?_ rfl)⟩
     dsimp only; omega
    ·have hc3:¬ b[a+i] > 0:=hc2
     simp only [hc2,hc3,decide_false,cond_false,Bool.or_false]
     refine ⟨_,rfl,?_⟩
     by_cases h0:i=0
     ·subst h0; simp [qJ]
     ·have e4:(i == 0)=false:=by simpa using h0
      simp only [e4,Bool.false_eq_true,if_false,qJ]
      simp; omega
   ·simp only [hc1,decide_false,cond_false,if_false]
    obtain ⟨r,g1,g2⟩:=ih (i+1) k _ (by omega) (by omega) e2
    refine ⟨r,g1,Rc (x:=(b[a+i] % 128).toNat) (by omega) ?_⟩
    rw [show (i+1 == 0)=false by rfl] at g2
    exact g2
  ·have e0:(a:Int)≥(b.length:Int) - (i:Int):=by omega
   simp only [e0,decide_true,cond_true]
   rw [List.drop_of_length_le (by omega)]
   exact ⟨(0,0,false),rfl,rfl⟩
theorem MH {u:Nat} (hu:1099511627776≤u) {b:List Int} (hb:aF b) (hl:b.length≤1048576) {a:Int} (ha:0≤a):∃ r,s8 u b a=some r∧(match sU 8 b a with | some (v,e)=>r=(v,e,true) | none=>r.2.2=false):=by
 unfold s8 sU
 obtain ⟨a,rfl⟩:=Int.eq_ofNat_of_zero_le ha
 obtain ⟨r,g1,g2⟩:=VY u hb hl a 8 0 u 0 (by omega) (by omega) (by simp)
 refine ⟨r,g1,?_⟩
 rw [if_pos ha,Int.toNat_natCast]
 rw [Nat.add_zero] at g2
 unfold qJ at g2
 cases hr:M.rd 8 true (b.drop a) with
 | none=>rw [show ((0 == 0:Bool))=true by rfl,hr] at g2; exact g2
 | some q=>obtain ⟨w,j⟩:=q; rw [show ((0 == 0:Bool))=true by rfl,hr] at g2; simpa using g2
def U5 (o:Option (Int×Nat)) (v i a:Nat):Int×Int×Bool:=match o with
 | some (w,j)=>if (v:Int)+w*2 ^ (7*i)≤1000000000000 then ((v:Int)+w*2 ^ (7*i),((a+j:Nat):Int),true) else (0,0,false)
 | none=>(0,0,false)
theorem Zb (o:Option (Int×Nat)) (v i a x:Nat) (c:Int) (hx:(x:Int)=c - 128):U5 (Ra c o) v i a=U5 o (v+x*2 ^ (7*i)) (i+1) (a+1):=by
 cases o with
 | none=>rfl
 | some q =>
  obtain ⟨w,j⟩:=q
  unfold U5 Ra
  dsimp only
  have e:(v:Int)+(w*128+(c - 128))*2 ^ (7*i)=((v+x*2 ^ (7*i):Nat):Int)+w*2 ^ (7*(i+1)):=by
   rw [show 7*(i+1)=7*i+7 by omega,Int.pow_add,← hx]
   have:((v+x*2 ^ (7*i):Nat):Int)=(v:Int)+(x:Int)*2 ^ (7*i):=by simp
   rw [this]
   generalize (2:Int) ^ (7*i)=p
   rw [show (2:Int) ^ 7=128 by rfl,Int.add_mul,Int.mul_assoc w 128 p,Int.mul_comm p 128]
   omega
  rw [e,show a+(j+1)=a+1+j by omega]
theorem Sz (u:Nat) {b:List Int} (hb:aF b) (hl:b.length≤1048576) (a:Nat):∀ (m i k v:Nat),i+m=6→m < k→v < 2 ^ (7*i)→dE u k b a v i=some (U5 (M.rd m (i == 0) (b.drop (a+i))) v i (a+i)):=by
 intro m
 induction m with
 | zero =>
  intro i k v h1 h2 h3
  obtain ⟨k,rfl⟩:∃ j,k=j+1:=⟨k - 1,by omega⟩
  have e:¬ ((i:Int) < 6):=by omega
  unfold dE vH
  simp only [e,decide_false,cond_false]; rfl
 | succ m ih =>
  intro i k v h1 h2 h3
  obtain ⟨k,rfl⟩:∃ j,k=j+1:=⟨k - 1,by omega⟩
  have e:(i:Int) < 6:=by omega
  have en:¬ ((a:Int) < 0):=by omega
  unfold dE mD
  simp only [e,en,decide_true,decide_false,cond_true,cond_false]
  rw [cH (a:=(b.length:Int)) (by omega) (by omega)]
  by_cases ha:a+i < b.length
  ·have e0:¬ ((a:Int)≥(b.length:Int) - (i:Int)):=by omega
   rw [Re ha,dJ (a:=(a:Int)) (by omega) (by omega),show (a:Int)+(i:Int)=((a+i:Nat):Int) by omega,br,List.getElem?_eq_getElem ha]
   have hc:=hb b[a+i] (List.getElem_mem ha)
   obtain ⟨e1,e2⟩:=VX (i:=i) (by omega) h3 hc.1 hc.2
   simp only [e0,decide_false,cond_false,Option.bind_some]
   unfold qZ
   rw [e1,lx (by omega) (by omega),bB (by omega),wrap_i64 (by omega) (by omega),dJ (a:=(a:Int)) (b:=(i:Int)) (by omega) (by omega),dJ (a:=(a:Int)+(i:Int)) (by omega) (by omega),jx (by omega)]
   simp only [Option.bind_some,M.rd]
   by_cases hc1:b[a+i] < 128
   ·simp only [hc1,decide_true,cond_true,if_true]
    have hv:((v+(b[a+i] % 128).toNat*2 ^ (7*i):Nat):Int)=(v:Int)+b[a+i]*2 ^ (7*i):=by
     have:((v+(b[a+i] % 128).toNat*2 ^ (7*i):Nat):Int)=(v:Int)+(((b[a+i] % 128).toNat:Nat):Int)*2 ^ (7*i):=by simp
     rw [this,show (((b[a+i] % 128).toNat:Nat):Int)=b[a+i] by omega]
    rw [hv]
    have hgt:∀ x:Int,decide (x > 1000000000000)=!decide (x≤1000000000000):=fun x=>by rw [← decide_not,decide_eq_decide]; omega
    have hs:((a:Int)+(i:Int)+1)=((a+i+1:Nat):Int):=by omega
    rw [hs]
    by_cases hc2:b[a+i]=0
    ·have e5:¬ (0 < b[a+i]):=by omega
     have e6:(b[a+i] == 0)=true:=by simpa using hc2
     by_cases h0:i=0
     ·subst h0
      have hv0:v=0:=by simpa using h3
      subst hv0
      simp only [e6,cond_true,hgt,U5]
      rw [hc2]
      rfl
     ·have e4:(i == 0)=false:=by simpa using h0
      have e7:(i:Int) > 0:=by omega
      simp only [e4,e5,e6,e7,decide_true,decide_false,cond_true,Bool.or_false,Bool.false_eq_true,if_false,U5]
    ·have e5:0 < b[a+i]:=by omega
     have e6:(b[a+i] == 0)=false:=by simpa using hc2
     simp only [e5,e6,decide_true,cond_false,Bool.or_true,if_true,hgt,U5]
     by_cases hq:(v:Int)+b[a+i]*2 ^ (7*i)≤1000000000000
     ·simp [hq]
     ·simp [hq]
   ·simp only [hc1,decide_false,cond_false,if_false]
    rw [ih (i+1) k _ (by omega) (by omega) e2,show (i+1 == 0)=false by rfl,Zb _ v i (a+i) (b[a+i] % 128).toNat _ (by omega)]
    rfl
  ·have e0:(a:Int)≥(b.length:Int) - (i:Int):=by omega
   simp only [e0,decide_true,cond_true]
   rw [List.drop_of_length_le (by omega)]; rfl
theorem kl {u:Nat} (hu:1099511627776≤u) {b:List Int} (hb:aF b) (hl:b.length≤1048576) (a:Int):ga u b a=some (a9 b a):=by
 unfold ga a9 sU
 by_cases ha:0≤a
 ·obtain ⟨a,rfl⟩:=Int.eq_ofNat_of_zero_le ha
  have h:=Sz u hb hl a 6 0 u 0 (by omega) (by omega) (by simp)
  rw [Nat.add_zero] at h
  rw [show dE u u b (a:Int) 0 0=_ from h,if_pos ha,Int.toNat_natCast,show (0 == 0:Bool)=true by rfl]
  unfold U5
  cases M.rd 6 true (b.drop a) with
  | none=>rfl
  | some q=>obtain ⟨w,j⟩:=q; simp
 ·obtain ⟨u,rfl⟩:∃ j,u=j+1:=⟨u - 1,by omega⟩
  rw [if_neg ha]
  unfold dE mD
  have e:a < 0:=by omega
  simp [e]
theorem GU {α:Type} (b:List α) (a j:Nat):b.take (a+j)=b.take a++(b.drop a).take j:=List.take_add
theorem JL {n:Nat} {b:List Int} {a v e:Int} (hb:aF b) (h:sU n b a=some (v,e)) (hn:n≤10):0≤a∧a < e∧e≤b.length∧0≤v∧v < 128 ^ n∧b.take e.toNat=b.take a.toNat++cV 9 v:=by
 unfold sU at h
 by_cases ha:0≤a
 ·rw [if_pos ha] at h
  cases hr:M.rd n true (b.drop a.toNat) with
  | none=>rw [hr] at h; cases h
  | some q =>
   obtain ⟨w,j⟩:=q
   rw [hr] at h
   simp only [Option.some.injEq,Prod.mk.injEq] at h
   obtain ⟨rfl,rfl⟩:=h
   obtain ⟨h1,h2,h3,h4,h5,h6⟩:=ZN n true _ w j (fun x hx=>hb x (List.mem_of_mem_drop hx)) hr
   rw [List.length_drop] at h3
   refine ⟨ha,by omega,by omega,h1,h5,?_⟩
   rw [show (a+(j:Int)).toNat=a.toNat+j by omega,GU,h6 9 (by omega)]
 ·rw [if_neg ha] at h; cases h
theorem cA {b:List Int} {a v e:Int} (hb:aF b) (h:a9 b a=(v,e,true)):0≤a∧a < e∧e≤b.length∧0≤v∧v≤1000000000000∧b.take e.toNat=b.take a.toNat++cV 9 v:=by
 unfold a9 at h
 cases hr:sU 6 b a with
 | none=>rw [hr] at h; cases h
 | some q =>
  obtain ⟨w,e'⟩:=q
  rw [hr] at h
  dsimp only at h
  split at h
  ·simp only [Prod.mk.injEq,and_true] at h
   obtain ⟨rfl,rfl⟩:=h
   have:=JL hb hr (by omega)
   exact ⟨this.1,this.2.1,this.2.2.1,this.2.2.2.1,by assumption,this.2.2.2.2.2⟩
  ·cases h
theorem b7 (b:List Int) (a:Int):(∃ v e,a9 b a=(v,e,true))∨a9 b a=(0,0,false):=by
 unfold a9
 split
 ·split
  ·exact .inl ⟨_,_,rfl⟩
  ·exact .inr rfl
 ·exact .inr rfl
theorem Rg {p:List Int} {n:Int} (t:List Int) (h0:0≤n) (h1:n≤1000000000000):a9 (p++cV 9 n++t) p.length=(n,((p.length+(cV 9 n).length:Nat):Int),true):=by
 unfold a9 sU
 rw [if_pos (by omega),Int.toNat_natCast,List.append_assoc,List.drop_left,ZO 6 9 true n t (by omega) h0 (fun h=>by cases h) (by rw [show (128:Int) ^ 6=4398046511104 by decide]; omega) (by omega)]
 simp [h1]
def lZ (m:af):Bool:=(m.aP == 0) && (m.aS == 0) && (m.aY == 0) && (m.aD.length == 0)
theorem w9 (u:Nat) (m:af):iH u m=some (lZ m):=by
 unfold iH lZ
 rw [show ((m.aD.length:Int) == 0)=(m.aD.length == 0) from JJ _ 0]
 cases m.aP == 0 <;> cases m.aS == 0 <;> cases m.aY == 0 <;> rfl
theorem JM (m:af):er m ⟨0,0,0,[]⟩=lZ m:=by
 unfold er lZ M.same
 cases h:m.aD with
 | nil=>simp [Bl]
 | cons s l=>simp
def lD (m:ei):Bool :=
 if m.bA=1 then (m.aP == 0) && (m.av.aP != 0) && cS m.av && ((m.bx == 0) && (m.bL == 0) && (m.fI == 0) && (m.fB.length == 0))
 else if m.bA=2 then aq m.aP 0 1000000 && lZ m.av && bE m.bx && bE m.bL && (m.fI == 0) && (m.fB.length == 0)
 else if m.bA=3 then aq m.aP 1 1000000 && lZ m.av && (m.bx == 0) && (m.bL == 0) && aq m.fI 0 39 && aq m.fB.length 1 6
 else if m.bA=4 then aq m.aP 0 1000000 && lZ m.av && ((m.bx == 0) && (m.bL == 0) && (m.fI == 0) && (m.fB.length == 0))
 else false
theorem Cz {u:Nat} (hu:1099511627776≤u) {m:ei} (hs:m.av.aD.length≤1048576):xG u m=some (lD m):=by
 unfold xG lD jv uy pz
 simp only [n9 hu m.av (show m.av.aD.length≤1073741824 by omega),w9,lM,bM,Option.bind_some]
 rw [show ((m.fB.length:Int) == 0)=(m.fB.length == 0) from JJ _ 0]
 generalize cS m.av=x1
 generalize lZ m.av=x2
 generalize bE m.bx=x3
 generalize bE m.bL=x4
 generalize aq m.aP 0 1000000=x5
 generalize aq m.aP 1 1000000=x6
 generalize aq m.fI 0 39=x7
 generalize aq m.fB.length 1 6=x8
 generalize (m.fB.length == 0)=x9
 generalize (m.av.aP != 0)=x10
 generalize (m.aP == 0)=x11
 generalize (m.bx == 0)=x12
 generalize (m.bL == 0)=x13
 generalize (m.fI == 0)=x14
 by_cases h1:m.bA=1
 ·simp only [h1,beq_self_eq_true,cond_true,if_true]
  cases x1 <;> cases x10 <;> cases x11 <;> cases x12 <;> cases x13 <;> cases x14 <;> cases x9 <;> rfl
 ·have e1:(m.bA == 1)=false:=by simpa using h1
  by_cases h2:m.bA=2
  ·simp only [h2,e1,beq_self_eq_true,cond_true,if_true]
   cases x5 <;> cases x2 <;> cases x3 <;> cases x4 <;> cases x14 <;> cases x9 <;> rfl
  ·have e2:(m.bA == 2)=false:=by simpa using h2
   by_cases h3:m.bA=3
   ·simp only [h3,beq_self_eq_true,cond_true,if_true]
    cases x6 <;> cases x2 <;> cases x12 <;> cases x13 <;> cases x7 <;> cases x8 <;> rfl
   ·have e3:(m.bA == 3)=false:=by simpa using h3
    by_cases h4:m.bA=4
    ·simp only [h4,beq_self_eq_true,cond_true,if_true]
     cases x5 <;> cases x2 <;> cases x12 <;> cases x13 <;> cases x14 <;> cases x9 <;> rfl
    ·have e4:(m.bA == 4)=false:=by simpa using h4
     simp only [e1,e2,e3,e4,h1,h2,h3,h4,cond_false,if_false]
theorem CA {u:Nat} (hu:1099511627776≤u) {m:ei} (hs:m.av.aD.length≤1048576):xz u m=some (lD m):=by
 unfold xz lD qf
 simp only [pW hu hs,JM,iz hu m.av (show m.av.aD.length≤1073741824 by omega),jW,bX,Option.bind_some]
 rw [show ((m.fB.length:Int) == 0)=(m.fB.length == 0) from JJ _ 0]
 generalize cS m.av=x1
 generalize lZ m.av=x2
 generalize bE m.bx=x3
 generalize bE m.bL=x4
 generalize aq m.aP 0 1000000=x5
 generalize aq m.aP 1 1000000=x6
 generalize aq m.fI 0 39=x7
 generalize aq m.fB.length 1 6=x8
 generalize (m.fB.length == 0)=x9
 generalize (m.av.aP != 0)=x10
 generalize (m.aP == 0)=x11
 generalize (m.bx == 0)=x12
 generalize (m.bL == 0)=x13
 generalize (m.fI == 0)=x14
 by_cases h1:m.bA=1
 ·simp only [h1,beq_self_eq_true,cond_true,if_true]
  cases x1 <;> cases x10 <;> cases x11 <;> cases x12 <;> cases x13 <;> cases x14 <;> cases x9 <;> rfl
 ·have e1:(m.bA == 1)=false:=by simpa using h1
  by_cases h2:m.bA=2
  ·simp only [h2,e1,beq_self_eq_true,cond_true,if_true]
   cases x5 <;> cases x2 <;> cases x3 <;> cases x4 <;> cases x14 <;> cases x9 <;> cases x12 <;> cases x13 <;> rfl
  ·have e2:(m.bA == 2)=false:=by simpa using h2
   by_cases h3:m.bA=3
   ·simp only [h3,beq_self_eq_true,cond_true,if_true]
    cases x6 <;> cases x2 <;> cases x12 <;> cases x13 <;> cases x7 <;> cases x8 <;> cases x14 <;> cases x9 <;> rfl
   ·have e3:(m.bA == 3)=false:=by simpa using h3
    by_cases h4:m.bA=4
    ·simp only [h4,beq_self_eq_true,cond_true,if_true]
     cases x5 <;> cases x2 <;> cases x12 <;> cases x13 <;> cases x14 <;> cases x9 <;> rfl
    ·have e4:(m.bA == 4)=false:=by simpa using h4
     simp only [e1,e2,e3,e4,h1,h2,h3,h4,cond_false,if_false]
     cases x12 <;> cases x13 <;> cases x14 <;> rfl
def xb:af×Int×Bool:=(⟨0,0,0,[]⟩,0,false)
def l0:Nat→List Int→Int→List bN→Option (List bN×Int)
 | 0,_,a,acc=>some (acc,a)
 | n+1,b,a,acc=>match sU 8 b a with
  | some (v,e)=>if (cd v).2 then l0 n b e (acc++[eg (cd v).1]) else none
  | none=>none
def rC (g s l:Int):Option (List bN×Int)→af×Int×Bool
 | some (ss,e)=>if cS ⟨g,s,l,ss⟩ then (⟨g,s,l,ss⟩,e,true) else xb
 | none=>xb
theorem SA {u:Nat} (hu:1099511627776≤u) {b:List Int} (hb:aF b) (hl:b.length≤1048576) (g s l:Int) (n:Nat) (hn:n≤1000):∀ (m i k:Nat) (a:Int) (acc:List bN),i+m=n→m < k→acc.length+m≤1000→fq u k b a n i g s l acc=some (rC g s l (l0 m b a acc)):=by
 intro m
 induction m with
 | zero =>
  intro i k a acc h1 h2 h3
  obtain ⟨k,rfl⟩:∃ j,k=j+1:=⟨k - 1,by omega⟩
  have e:¬ ((i:Int) < (n:Int)):=by omega
  unfold fq wh
  simp only [e,decide_false,cond_false]
  rw [n9 hu _ (show acc.length≤1073741824 by omega)]
  simp only [Option.bind_some,l0,rC,xb]
  cases cS ⟨g,s,l,acc⟩ <;> rfl
 | succ m ih =>
  intro i k a acc h1 h2 h3
  obtain ⟨k,rfl⟩:∃ j,k=j+1:=⟨k - 1,by omega⟩
  have e:(i:Int) < (n:Int):=by omega
  obtain ⟨r,g1,g2⟩:=Rf hu hb hl a 8 (by omega) (by omega)
  rw [show ((8:Nat):Int)=8 by rfl] at g1
  unfold fq oK
  simp only [e,decide_true,cond_true,g1,Option.bind_some,ED hu,l0]
  cases hr:sU 8 b a with
  | none=>rw [hr] at g2; rw [g2]; rfl
  | some q =>
   obtain ⟨v,e'⟩:=q
   rw [hr] at g2
   rw [g2]
   have hv:=tE v
   dsimp only
   cases h:(cd v).2 with
   | false=>rfl
   | true =>
    simp only [Bool.not_true,cond_false,if_true]
    rw [tF hu hv.1 (by omega)]
    simp only [Option.bind_some]
    rw [bB (by simp; omega),jx (by omega)]
    exact ih (i+1) k e' _ (by omega) (by omega) (by simp; omega)
theorem VZ (size len:Int):∀ (l:List bN) (i:Nat),oZ size len l i=true→∀ s∈l,(cd s.fS).2=true:=by
 intro l
 induction l with
 | nil=>intro i _ s hs; simp at hs
 | cons x l ih =>
  intro i h s hs
  simp only [oZ,yY,Bool.and_eq_true] at h
  rcases List.mem_cons.1 hs with rfl | hs
  ·exact h.1.1.1
  ·exact ih (i+1) h.2 s hs
theorem Ti {g s l:Int} {ss:List bN} (h:∃ x∈ss,(cd x.fS).2=false):cS ⟨g,s,l,ss⟩=false:=by
 obtain ⟨x,hx,hb⟩:=h
 cases hm:cS ⟨g,s,l,ss⟩ with
 | false=>rfl
 | true =>
  unfold cS at hm
  dsimp only at hm
  split at hm
  ·simp only [Bool.and_eq_true,beq_iff_eq,List.length_eq_zero_iff] at hm
   rw [hm.2] at hx; simp at hx
  ·simp only [Bool.and_eq_true] at hm
   have:=VZ _ _ _ _ hm.2 x hx
   rw [this] at hb; cases hb
theorem OA {u:Nat} (hu:1099511627776≤u) {b:List Int} (hb:aF b) (hl:b.length≤1048576) (r1 r2 r3:Int×Int×Bool):∀ (m i k:Nat) (a:Int) (acc:List bN),i+m=(dj r2.1 r3.1).toNat∨(m=0∧(dj r2.1 r3.1).toNat≤i)→m < k→acc.length+m≤1000→0≤a→(∃ x∈acc,(cd x.fS).2=false)→dG u k b r1 r2 r3 a i acc=some xb:=by
 have hk:=gU r2.1 r3.1
 intro m
 induction m with
 | zero =>
  intro i k a acc h1 h2 h3 h4 h5
  obtain ⟨k,rfl⟩:∃ j,k=j+1:=⟨k - 1,by omega⟩
  have e:¬ ((i:Int) < dj r2.1 r3.1):=by omega
  unfold dG jY oA
  simp only [ki,Option.bind_some,e,decide_false,cond_false]
  rw [iz hu _ (show acc.length≤1073741824 by omega),Ti h5]; rfl
 | succ m ih =>
  intro i k a acc h1 h2 h3 h4 h5
  obtain ⟨k,rfl⟩:∃ j,k=j+1:=⟨k - 1,by omega⟩
  have e:(i:Int) < dj r2.1 r3.1:=by omega
  obtain ⟨r,g1,g2⟩:=MH hu hb hl h4
  unfold dG jY oA
  simp only [ki,Option.bind_some,e,decide_true,cond_true,g1,zL hu]
  by_cases hg:r1.1 > 0
  ·simp only [hg,decide_true,cond_true]
   cases hr:sU 8 b a with
   | none=>rw [hr] at g2; rw [g2]; rfl
   | some q =>
    obtain ⟨v,e'⟩:=q
    rw [hr] at g2
    rw [g2]
    have hv:=tE v
    have hp:=JL hb hr (by omega)
    dsimp only
    simp only [Bool.not_true,cond_false]
    rw [n8 hu hv.1 (by omega)]
    simp only [Option.bind_some]
    rw [bB (by simp; omega),jx (by omega)]
    obtain ⟨x,hx,hbx⟩:=h5
    exact ih (i+1) k e' _ (by omega) (by omega) (by simp; omega) (by omega) ⟨x,by simp [hx],hbx⟩
  ·simp only [hg,decide_false,cond_false]
   rw [iz hu _ (show acc.length≤1073741824 by omega),Ti h5]; rfl
theorem SB {u:Nat} (hu:1099511627776≤u) {b:List Int} (hb:aF b) (hl:b.length≤1048576) {r1 r2 r3:Int×Int×Bool} (hg:0 < r1.1):∀ (m i k:Nat) (a:Int) (acc:List bN),i+m=(dj r2.1 r3.1).toNat→m < k→acc.length+m≤1000→0≤a→dG u k b r1 r2 r3 a i acc=some (rC r1.1 r2.1 r3.1 (l0 m b a acc)):=by
 have hk:=gU r2.1 r3.1
 intro m
 induction m with
 | zero =>
  intro i k a acc h1 h2 h3 h4
  obtain ⟨k,rfl⟩:∃ j,k=j+1:=⟨k - 1,by omega⟩
  have e:¬ ((i:Int) < dj r2.1 r3.1):=by omega
  unfold dG jY oA
  simp only [ki,Option.bind_some,e,decide_false,cond_false]
  rw [iz hu _ (show acc.length≤1073741824 by omega)]
  simp only [Option.bind_some,l0,rC,xb]
  cases cS ⟨r1.1,r2.1,r3.1,acc⟩ <;> rfl
 | succ m ih =>
  intro i k a acc h1 h2 h3 h4
  obtain ⟨k,rfl⟩:∃ j,k=j+1:=⟨k - 1,by omega⟩
  have e:(i:Int) < dj r2.1 r3.1:=by omega
  have hg':r1.1 > 0:=hg
  obtain ⟨r,g1,g2⟩:=MH hu hb hl h4
  unfold dG jY
  simp only [ki,Option.bind_some,e,hg',decide_true,cond_true,g1,zL hu,l0]
  cases hr:sU 8 b a with
  | none=>rw [hr] at g2; rw [g2]; rfl
  | some q =>
   obtain ⟨v,e'⟩:=q
   rw [hr] at g2
   rw [g2]
   have hv:=tE v
   have hp:=JL hb hr (by omega)
   dsimp only
   simp only [Bool.not_true,cond_false]
   rw [n8 hu hv.1 (by omega)]
   simp only [Option.bind_some]
   rw [bB (by simp; omega),jx (by omega)]
   simp only [Option.bind_some]
   cases h:(cd v).2 with
   | false =>
    simp only [Bool.false_eq_true,if_false]
    exact OA hu hb hl r1 r2 r3 m (i+1) k e' _ (by omega) (by omega) (by simp; omega) (by omega) ⟨_,List.mem_append_right _ (List.mem_singleton.2 rfl),h⟩
   | true =>
    simp only [if_true]
    have hs:eg (cd v).1=⟨(eg (cd v).1).fW,v⟩:=by
     have:=Cx (s:=v) (b:=(cd v).1) (by rw [← h])
     rw [this]
    rw [← hs]
    exact ih (i+1) k e' _ (by omega) (by omega) (by simp; omega) (by omega)
theorem LY {u:Nat} (hu:1099511627776≤u) (b:List Int) {r1 r2 r3:Int×Int×Bool} (hg:r1.1=0) (k:Nat) (a:Int):dG u (k+1) b r1 r2 r3 a 0 []=some (rC r1.1 r2.1 r3.1 (some ([],a))):=by
 have hg':¬ r1.1 > 0:=by omega
 unfold dG jY oA
 simp only [ki,Option.bind_some,hg',decide_false]
 have:∀ c:Bool,(bif c then (jq u ⟨r1.1,r2.1,r3.1,[]⟩).bind fun r22=>bif !r22 then some ((⟨0,0,0,[]⟩,0,false):af×Int×Bool) else some (⟨r1.1,r2.1,r3.1,[]⟩,a,true) else (jq u ⟨r1.1,r2.1,r3.1,[]⟩).bind fun r22=>bif !r22 then some ((⟨0,0,0,[]⟩,0,false):af×Int×Bool) else some (⟨r1.1,r2.1,r3.1,[]⟩,a,true))=some (rC r1.1 r2.1 r3.1 (some ([],a))):=by
  intro c
  rw [iz hu _ (show ([]:List bN).length≤1073741824 by simp)]
  simp only [Option.bind_some,rC,xb]
  cases c <;> cases cS ⟨r1.1,r2.1,r3.1,[]⟩ <;> rfl
 exact this _
def xS:Nat→List Int→Int→List Int→List Int×Int×Bool
 | 0,_,a,acc=>(acc,a,true)
 | n+1,b,a,acc=>if (a9 b a).2.2 then xS n b (a9 b a).2.1 (acc++[(a9 b a).1]) else ([],0,false)
theorem V0 {u:Nat} (hu:1099511627776≤u) {b:List Int} (hb:aF b) (hl:b.length≤1048576) (n:Nat) (hn:n≤1000):∀ (m i k:Nat) (a:Int) (acc:List Int),i+m=n→m < k→acc.length+m≤1000→fJ u k b a acc n i=some (xS m b a acc):=by
 intro m
 induction m with
 | zero =>
  intro i k a acc h1 h2 h3
  obtain ⟨k,rfl⟩:∃ j,k=j+1:=⟨k - 1,by omega⟩
  have e:¬ ((i:Int) < (n:Int)):=by omega
  unfold fJ si
  simp only [e,decide_false,cond_false]; rfl
 | succ m ih =>
  intro i k a acc h1 h2 h3
  obtain ⟨k,rfl⟩:∃ j,k=j+1:=⟨k - 1,by omega⟩
  have e:(i:Int) < (n:Int):=by omega
  unfold fJ
  simp only [e,decide_true,cond_true,w8 hu hb hl,Option.bind_some,xS]
  cases h:(a9 b a).2.2 with
  | false=>rfl
  | true =>
   simp only [Bool.not_true,cond_false,if_true]
   rw [bB (by simp; omega),jx (by omega)]
   exact ih (i+1) k _ _ (by omega) (by omega) (by simp; omega)
theorem FC {u:Nat} (hu:1099511627776≤u) {b:List Int} (hb:aF b) (hl:b.length≤1048576) (a:Int) (n:Nat) (hn:n≤1000):nW u b a n=some (xS n b a []):=by
 unfold nW
 exact V0 hu hb hl n hn n 0 u a [] (by omega) (by omega) (by simp; omega)
def km (b:List Int) (a:Int):af×Int×Bool :=
 let g1:=a9 b a
 let g2:=a9 b g1.2.1
 let g3:=a9 b g2.2.1
 if g1.2.2 && g2.2.2 && g3.2.2 then rC g1.1 g2.1 g3.1 (l0 (dj g2.1 g3.1).toNat b g3.2.1 []) else xb
theorem Rh {u:Nat} (hu:1099511627776≤u) {b:List Int} (hb:aF b) (hl:b.length≤1048576) (a:Int):yJ u b a=some (km b a):=by
 unfold yJ km
 rw [show (3:Int)=((3:Nat):Int) by rfl,FC hu hb hl a 3 (by omega)]
 simp only [Option.bind_some,xS]
 cases h1:(a9 b a).2.2 with
 | false=>rfl
 | true =>
  cases h2:(a9 b (a9 b a).2.1).2.2 with
  | false=>rfl
  | true =>
   cases h3:(a9 b (a9 b (a9 b a).2.1).2.1).2.2 with
   | false=>rfl
   | true =>
    have hk:=gU (a9 b (a9 b a).2.1).1 (a9 b (a9 b (a9 b a).2.1).2.1).1
    simp only [if_true,Bool.not_true,cond_false,Bool.and_self,List.nil_append,List.append_assoc,List.cons_append]
    rw [show (0:Int)=((0:Nat):Int) by rfl,show (1:Int)=((1:Nat):Int) by rfl,show (2:Int)=((2:Nat):Int) by rfl]
    simp only [br,List.getElem?_cons_zero,List.getElem?_cons_succ,Option.bind_some,w4]
    generalize hn:(dj (a9 b (a9 b a).2.1).1 (a9 b (a9 b (a9 b a).2.1).2.1).1)=n at hk
    obtain ⟨n,rfl⟩:=Int.eq_ofNat_of_zero_le hk.1
    rw [Int.toNat_natCast]
    exact SA hu hb hl _ _ _ n (by omega) n 0 u _ [] (by omega) (by omega) (by simp; omega)
theorem MI {s l:Int} {ss:List bN} {e:Int} (h:dj s l≠0):rC 0 s l (some (ss,e))=xb:=by
 unfold rC cS
 dsimp only
 have hz:¬ (s=0):=by
  intro h0; subst h0
  apply h
  unfold dj fV aq
  simp
 simp [hz]
theorem Ri {u:Nat} (hu:1099511627776≤u) {b:List Int} (hb:aF b) (hl:b.length≤1048576) (a:Int):yB u b a=some (km b a):=by
 unfold yB km q5
 simp only [kl hu hb hl,Option.bind_some]
 rcases b7 b a with ⟨v1,e1,h1⟩ | h1
 ·rw [h1]
  rcases b7 b e1 with ⟨v2,e2,h2⟩ | h2
  ·dsimp only
   rw [h2]
   rcases b7 b e2 with ⟨v3,e3,h3⟩ | h3
   ·dsimp only
    rw [h3]
    have p1:=cA hb h1
    have p3:=cA hb h3
    have hk:=gU v2 v3
    simp only [Bool.not_true,cond_false,Bool.and_self,if_true]
    by_cases hg:0 < v1
    ·exact SB hu hb hl (r1:=(v1,e1,true)) (r2:=(v2,e2,true)) (r3:=(v3,e3,true)) hg (dj v2 v3).toNat 0 u e3 [] (by simp) (by omega) (by simp; omega) (by omega)
    ·have h0:v1=0:=by omega
     subst h0
     obtain ⟨u',rfl⟩:∃ j,u=j+1:=⟨u - 1,by omega⟩
     rw [LY (r1:=(0,e1,true)) (r2:=(v2,e2,true)) (r3:=(v3,e3,true)) hu b rfl u' e3]
     dsimp only
     by_cases hn:dj v2 v3=0
     ·rw [hn]; rfl
     ·rw [MI hn]
      cases hs:l0 (dj v2 v3).toNat b e3 [] with
      | none=>rfl
      | some q=>obtain ⟨ss,e⟩:=q; rw [MI hn]
   ·dsimp only
    rw [h3]; rfl
  ·dsimp only
   rw [h2]; simp
   rfl
 ·rw [h1]; simp
  rfl
theorem Rj (xs:List Int):(strOfNums xs).toList=xs.map fun n=>UInt8.ofNat n.toNat:=by
 rw [ByteArray.toList_eq,strOfNums_data]
theorem ZP {a b:Int} (h1:0≤a) (h2:a≤255) (h3:0≤b) (h4:b≤255) (h:UInt8.ofNat a.toNat=UInt8.ofNat b.toNat):a=b:=by
 have:=congrArg UInt8.toNat h
 simp only [UInt8.toNat_ofNat'] at this
 omega
theorem JN {a b:List Int} (ha:aF a) (hb:aF b):lN a b=decide (a=b):=by
 unfold lN
 rw [Bool.eq_iff_iff,beq_iff_eq,decide_eq_true_eq,Rj,Rj]
 constructor
 ·intro h
  revert b
  induction a with
  | nil=>intro b _ h; cases b with
   | nil=>rfl
   | cons y b=>simp at h
  | cons x a ih =>
   intro b hb h
   cases b with
   | nil=>simp at h
   | cons y b =>
    simp only [List.map_cons,List.cons.injEq] at h
    have hx:=ha x (by simp)
    have hy:=hb y (by simp)
    rw [ZP hx.1 hx.2 hy.1 hy.2 h.1,ih (fun z hz=>ha z (by simp [hz])) (fun z hz=>hb z (by simp [hz])) h.2]
 ·intro h; rw [h]
def qy (b:List Int) (a:Int):List Int×Int×Bool :=
 let g:=a9 b a
 if g.2.2 && decide (g.1≤6) && decide (g.1≤b.length - g.2.1) then (M.win b g.2.1.toNat g.1.toNat,g.2.1+g.1,true) else ([],0,false)
theorem OB {u:Nat} (hu:1099511627776≤u) {b:List Int} (hb:aF b) (hl:b.length≤1048576) (a:Int):wi u b a 6=some (qy b a):=by
 unfold wi qy ug
 simp only [w8 hu hb hl,Option.bind_some]
 rcases b7 b a with ⟨v,e,h⟩ | h
 ·rw [h]
  have p:=cA hb h
  dsimp only
  by_cases h6:v≤6
  ·have h7:¬ v > 6:=by omega
   simp only [h6,h7,decide_true,decide_false,Bool.not_true,cond_false,Bool.true_and]
   obtain ⟨v,rfl⟩:=Int.eq_ofNat_of_zero_le p.2.2.2.1
   obtain ⟨e,rfl⟩:=Int.eq_ofNat_of_zero_le (show 0≤e by omega)
   by_cases hv:(v:Int)≤(b.length:Int) - (e:Int)
   ·rw [GP u (show e+v≤b.length by omega) (by omega)]
    simp only [hv,decide_true,if_true,Option.bind_some,Bool.not_true,cond_false,Int.toNat_natCast]
    rw [dJ (by omega) (by omega)]
   ·simp only [hv,decide_false,Bool.false_eq_true,if_false]
    unfold ux tg
    rw [cH (by omega) (by omega),bM,bM,show aq (e:Int) 0 (b.length:Int)=true by simp [aq]; omega,show aq (v:Int) 0 ((b.length:Int) - (e:Int))=false by simp [aq]; omega]
    rfl
  ·have h7:v > 6:=by omega
   simp [h6,h7]
 ·rw [h]; simp
theorem OC {u:Nat} (hu:1099511627776≤u) {b:List Int} (hb:aF b) (hl:b.length≤1048576) (a:Int):vI u b a 6=some (qy b a):=by
 unfold vI qy pK
 simp only [kl hu hb hl,Option.bind_some]
 rcases b7 b a with ⟨v,e,h⟩ | h
 ·rw [h]
  have p:=cA hb h
  dsimp only
  by_cases h6:v≤6
  ·have h7:¬ v > 6:=by omega
   simp only [h6,h7,decide_true,decide_false,Bool.not_true,cond_false,Bool.true_and]
   obtain ⟨v,rfl⟩:=Int.eq_ofNat_of_zero_le p.2.2.2.1
   obtain ⟨e,rfl⟩:=Int.eq_ofNat_of_zero_le (show 0≤e by omega)
   rw [cH (by omega) (by omega)]
   by_cases hv:(v:Int)≤(b.length:Int) - (e:Int)
   ·have hv':¬ ((v:Int) > (b.length:Int) - (e:Int)):=by omega
    simp only [hv,hv',decide_true,decide_false,cond_false,if_true]
    rw [rA (by omega),eL (by omega) (by omega),bB (by simp; omega)]
    simp only [Option.bind_some,Int.toNat_natCast,List.nil_append]
    rw [show ((e+v:Nat):Int)=(e:Int)+(v:Int) by omega]; rfl
   ·have hv':(v:Int) > (b.length:Int) - (e:Int):=by omega
    simp [hv,hv']
  ·have h7:v > 6:=by omega
   simp [h6,h7]
 ·rw [h]; simp
theorem U6 {b p:List Int} {a e:Int} (hb:aF b) (h:qy b a=(p,e,true)):0≤a∧a < e∧e≤b.length∧aF p∧p.length≤6∧b.take e.toNat=(b.take a.toNat++cV 9 p.length)++p:=by
 unfold qy at h
 rcases b7 b a with ⟨v,e',g⟩ | g
 ·rw [g] at h
  have q:=cA hb g
  dsimp only at h
  split at h
  ·rename_i hc
   simp only [Bool.true_and,Bool.and_eq_true,decide_eq_true_eq] at hc
   simp only [Prod.mk.injEq,and_true] at h
   obtain ⟨rfl,rfl⟩:=h
   obtain ⟨v,rfl⟩:=Int.eq_ofNat_of_zero_le q.2.2.2.1
   obtain ⟨e',rfl⟩:=Int.eq_ofNat_of_zero_le (show 0≤e' by omega)
   simp only [Int.toNat_natCast] at q ⊢
   have hw:(M.win b e' v).length=v:=by unfold M.win; rw [List.length_drop,List.length_take]; omega
   refine ⟨q.1,by omega,by omega,nS hb _ _,by omega,?_⟩
   rw [show ((e':Int)+(v:Int)).toNat=e'+v by omega,GU,q.2.2.2.2.2,hw,QZ]
  ·cases h
 ·rw [g] at h; cases h
def pX (c:List Int) (s:Int):List Int:=aQ (aQ c (fE .i64 s 1048575)) (n4 .i64 s 20)
def et (m:ei):List Int :=
 if m.bA=1 then rz (aQ [] m.bA) m.av
 else if m.bA=2 then pX (pX (aQ (aQ [] m.bA) m.aP) m.bx) m.bL
 else if m.bA=3 then aQ (aQ (aQ (aQ [] m.bA) m.aP) m.fI) m.fB.length++m.fB
 else if m.bA=4 then aQ (aQ [] m.bA) m.aP
 else aQ [] m.bA
def gN (m:ei):List Int:=if lD m then aQ (et m) (cu (et m)) else []
structure M.MsgWf (m:ei):Prop where
 sums:m.av.aD.length≤1048576
 wf:yf m.av
 b:aF m.fB
 len:m.fB.length≤1048576
theorem gV {b:List Int} (h:aF b) (n:Int):aF (aQ b n):=by
 unfold aQ
 split
 ·exact Ft h (Tg 9 n)
 ·exact h
theorem SC:∀ (l:List bN) (b:List Int),aF b→aF (nz b l):=by
 intro l
 induction l with
 | nil=>intro b h; exact h
 | cons s l ih=>intro b h; exact ih _ (Ft h (Tg 9 s.fS))
theorem T0 {b:List Int} (h:aF b) (m:af):aF (rz b m):=by
 unfold rz
 split
 ·exact SC _ _ (gV (gV (gV h _) _) _)
 ·exact h
theorem GV (b:List Int) (m:af):(rz b m).length≤b.length+430:=by
 unfold rz
 split
 ·rename_i h
  have h0:=ve h
  have h1:=bh b m.aP
  have h2:=bh (aQ b m.aP) m.aS
  have h3:=bh (aQ (aQ b m.aP) m.aS) m.aY
  have h4:=Q3 m.aD (aQ (aQ (aQ b m.aP) m.aS) m.aY)
  omega
 ·omega
theorem l9:aF []:=fun x hx=>by simp at hx
theorem HQ {m:ei} (hm:M.MsgWf m):aF (et m)∧(et m).length≤1049600:=by
 have k:=bh [] m.bA
 have kb:=gV l9 m.bA
 have g:=bh (aQ [] m.bA) m.aP
 have gb:=gV kb m.aP
 simp only [List.length_nil] at k
 unfold et pX
 split
 ·exact ⟨T0 kb _,by have:=GV (aQ [] m.bA) m.av; omega⟩
 ·split
  ·refine ⟨gV (gV (gV (gV gb _) _) _) _,?_⟩
   have h1:=bh (aQ (aQ [] m.bA) m.aP) (fE .i64 m.bx 1048575)
   have h2:=bh (aQ (aQ (aQ [] m.bA) m.aP) (fE .i64 m.bx 1048575)) (n4 .i64 m.bx 20)
   have h3:=bh (aQ (aQ (aQ (aQ [] m.bA) m.aP) (fE .i64 m.bx 1048575)) (n4 .i64 m.bx 20)) (fE .i64 m.bL 1048575)
   have h4:=bh (aQ (aQ (aQ (aQ (aQ [] m.bA) m.aP) (fE .i64 m.bx 1048575)) (n4 .i64 m.bx 20)) (fE .i64 m.bL 1048575)) (n4 .i64 m.bL 20)
   omega
  ·split
   ·refine ⟨Ft (gV (gV gb _) _) hm.b,?_⟩
    have h1:=bh (aQ (aQ [] m.bA) m.aP) m.fI
    have h2:=bh (aQ (aQ (aQ [] m.bA) m.aP) m.fI) m.fB.length
    have h3:=hm.len
    rw [List.length_append]; omega
   ·split
    ·exact ⟨gb,by omega⟩
    ·exact ⟨kb,by omega⟩
theorem Bq {u:Nat} (hu:1099511627776≤u) {m:ei} (hm:M.MsgWf m):u1 u m=some (gN m):=by
 have k:=bh [] m.bA
 have g:=bh (aQ [] m.bA) m.aP
 simp only [List.length_nil] at k
 have hl:=hm.len
 obtain ⟨hb,hbl⟩:=HQ hm
 unfold u1 gN
 rw [Cz hu hm.sums]
 simp only [Option.bind_some]
 cases hok:lD m with
 | false=>rfl
 | true =>
  simp only [Bool.not_true,cond_false,if_true]
  rw [dL hu (by simp)]
  simp only [Option.bind_some]
  have tail:kf u (et m)=some (aQ (et m) (cu (et m))):=by
   unfold kf
   rw [Bj hu hb (by omega)]
   simp only [Option.bind_some]
   rw [dL hu (by omega)]; rfl
  rw [← tail]
  clear tail hbl hb
  unfold et pX
  by_cases h1:m.bA=1
  ·simp only [h1,beq_self_eq_true,cond_true,if_true]
   rw [h1] at k
   rw [QX hu (by omega) (by have:=hm.sums; omega) hm.wf]; rfl
  ·have e1:(m.bA == 1)=false:=by simpa using h1
   by_cases h2:m.bA=2
   ·rw [h2] at k g
    have h3:=bh (aQ (aQ [] 2) m.aP) (fE .i64 m.bx 1048575)
    have h4:=bh (aQ (aQ (aQ [] 2) m.aP) (fE .i64 m.bx 1048575)) (n4 .i64 m.bx 20)
    have h5:=bh (aQ (aQ (aQ (aQ [] 2) m.aP) (fE .i64 m.bx 1048575)) (n4 .i64 m.bx 20)) (fE .i64 m.bL 1048575)
    simp only [h2,beq_self_eq_true,cond_true,if_true,yL]
    rw [dL hu (by omega)]; simp only [Option.bind_some]
    rw [dL hu (by omega)]; simp only [Option.bind_some]
    rw [dL hu (by omega)]; simp only [Option.bind_some]
    rw [dL hu (by omega)]; simp only [Option.bind_some]
    rw [dL hu (by omega)]; rfl
   ·have e2:(m.bA == 2)=false:=by simpa using h2
    by_cases h3:m.bA=3
    ·rw [h3] at k g
     have h4:=bh (aQ (aQ [] 3) m.aP) m.fI
     have h5:=bh (aQ (aQ (aQ [] 3) m.aP) m.fI) m.fB.length
     simp only [h3,beq_self_eq_true,cond_true,if_true,Al]
     rw [dL hu (by omega)]; simp only [Option.bind_some]
     rw [dL hu (by omega)]; simp only [Option.bind_some]
     rw [dL hu (by omega)]; simp only [Option.bind_some]
     rw [bB (by omega)]; rfl
    ·have e3:(m.bA == 3)=false:=by simpa using h3
     by_cases h4:m.bA=4
     ·rw [h4] at k
      simp only [h4,beq_self_eq_true,cond_true,if_true]
      rw [dL hu (by omega)]; rfl
     ·have e4:(m.bA == 4)=false:=by simpa using h4
      simp only [e1,e2,e3,e4,h1,h2,h3,h4,cond_false,if_false]
theorem ff {c:List Int} {n:Int} (h0:0≤n) (h1:n≤1000000000000):aQ c n=c++cV 9 n:=by
 unfold aQ
 rw [if_pos (by simp [aq]; omega)]
theorem U7 {b:List Int} (hb:aF b):∀ (n:Nat) (a:Int) (acc l:List bN) (e:Int),l0 n b a acc=some (l,e)→0≤a→a≤b.length→∃ l',l=acc++l'∧a≤e∧e≤b.length∧b.take e.toNat=nz (b.take a.toNat) l'∧∀ s∈l',s.fS≤9223372036854775807:=by
 intro n
 induction n with
 | zero =>
  intro a acc l e h h0 h1
  simp only [l0,Option.some.injEq,Prod.mk.injEq] at h
  obtain ⟨rfl,rfl⟩:=h
  exact ⟨[],by simp,by omega,h1,rfl,by simp⟩
 | succ n ih =>
  intro a acc l e h h0 h1
  unfold l0 at h
  cases hr:sU 8 b a with
  | none=>rw [hr] at h; cases h
  | some q =>
   obtain ⟨v,e1⟩:=q
   rw [hr] at h
   dsimp only at h
   have p:=JL hb hr (by omega)
   split at h
   ·rename_i hv
    obtain ⟨l',g1,g2,g3,g4,g5⟩:=ih e1 _ l e h (by omega) p.2.2.1
    have hs:(eg (cd v).1).fS=v:=by
     have:=Cx (s:=v) (b:=(cd v).1) (by rw [← hv])
     rw [this]
    have hp:(128:Int) ^ 8=72057594037927936:=by decide
    refine ⟨eg (cd v).1 :: l',by rw [g1]; simp,by omega,g3,?_,?_⟩
    ·rw [g4,p.2.2.2.2.2,nz,hs]
    ·intro s hs'
     rcases List.mem_cons.1 hs' with rfl | hs'
     ·rw [hs]; omega
     ·exact g5 s hs'
   ·cases h
theorem V1 {b:List Int} (hb:aF b) {a e:Int} {m:af} (h:km b a=(m,e,true)):0≤a∧a≤e∧e≤b.length∧cS m=true∧yf m∧b.take e.toNat=rz (b.take a.toNat) m:=by
 unfold km at h
 rcases b7 b a with ⟨v1,e1,h1⟩ | h1
 ·rw [h1] at h
  dsimp only at h
  rcases b7 b e1 with ⟨v2,e2,h2⟩ | h2
  ·rw [h2] at h
   dsimp only at h
   rcases b7 b e2 with ⟨v3,e3,h3⟩ | h3
   ·rw [h3] at h
    simp only [Bool.and_self,if_true] at h
    have p1:=cA hb h1
    have p2:=cA hb h2
    have p3:=cA hb h3
    cases hs:l0 (dj v2 v3).toNat b e3 [] with
    | none=>rw [hs] at h; cases h
    | some q =>
     obtain ⟨ss,e'⟩:=q
     rw [hs] at h
     unfold rC at h
     dsimp only at h
     split at h
     ·rename_i hm
      simp only [Prod.mk.injEq,and_true] at h
      obtain ⟨rfl,rfl⟩:=h
      obtain ⟨l',g1,g2,g3,g4,g5⟩:=U7 hb _ e3 [] ss e' hs (by omega) p3.2.2.1
      rw [List.nil_append] at g1
      subst g1
      refine ⟨p1.1,by omega,g3,hm,g5,?_⟩
      unfold rz
      rw [if_pos hm,ff p1.2.2.2.1 p1.2.2.2.2.1,ff p2.2.2.2.1 p2.2.2.2.2.1,ff p3.2.2.2.1 p3.2.2.2.2.1,g4,p3.2.2.2.2.2,p2.2.2.2.2.2,p1.2.2.2.2.2]
     ·cases h
   ·rw [h3] at h; simp [xb] at h
  ·rw [h2] at h; simp [xb] at h
 ·rw [h1] at h; simp [xb] at h
def po (n:Int):Bool:=decide (n < 1048576)
def HR:af:=⟨0,0,0,[]⟩
def yZ (b:List Int) (a:Int):Option (ei×Int) :=
 let g0:=a9 b a
 let g1:=a9 b g0.2.1
 let g2:=a9 b g1.2.1
 let g3:=a9 b g2.2.1
 let g4:=a9 b g3.2.1
 if g0.2.2 && ((g1.2.2 && po g1.1) && ((g2.2.2 && po g2.1) && ((g3.2.2 && po g3.1) && (g4.2.2 && po g4.1)))) then some (⟨2,g0.1,HR,g1.1+g2.1*1048576,g3.1+g4.1*1048576,0,[]⟩,g4.2.1) else none
def Br (b:List Int) (a:Int):Option (ei×Int) :=
 let g0:=a9 b a
 let g1:=a9 b g0.2.1
 let g2:=qy b g1.2.1
 if g0.2.2 && g1.2.2 && g2.2.2 then some (⟨3,g0.1,HR,0,0,g1.1,g2.1⟩,g2.2.1) else none
theorem yj {b:List Int} (hb:aF b) (a:Int):0≤(a9 b a).1:=by
 rcases b7 b a with ⟨v,e,h⟩ | h
 ·rw [h]; exact (cA hb h).2.2.2.1
 ·rw [h]; exact Int.le_refl 0
theorem Yy {u:Nat} (hu:1099511627776≤u) {b:List Int} (hb:aF b) (hl:b.length≤1048576) (k:Nat) (a:Int) (acc:List Int) (i:Nat) (hi:i < 4) (hacc:acc.length≤4) (p2:Int) (r2:Int×Int×Bool) :
  cY u (k+1) b a acc i p2 r2=if (a9 b a).2.2 && po (a9 b a).1 then cY u k b (a9 b a).2.1 (acc++[(a9 b a).1]) ((i+1:Nat):Int) p2 r2 else some (⟨p2,r2.1,HR,0,0,0,[]⟩,0,false):=by
 have e:(i:Int) < 4:=by omega
 rw [cY]
 simp only [e,decide_true,cond_true,kl hu hb hl,Option.bind_some]
 unfold ng po
 rw [bB (by simp; omega),jx (by omega)]
 cases h:(a9 b a).2.2 with
 | false=>rfl
 | true =>
  by_cases hq:(a9 b a).1 < 1048576
  ·have hq':¬ (a9 b a).1≥1048576:=by omega
   simp [hq,hq']
  ·have hq':(a9 b a).1≥1048576:=by omega
   simp [hq,hq',HR]
theorem D8 {x y:Int} (h1:0≤x) (h2:x < 1048576) (h3:0≤y) (h4:y < 1048576):aW .i64 x (i7 .i64 y 20)=x+y*1048576∧sZ .i64 x (i7 .i64 y 20)=x+y*1048576∧fE .i64 (x+y*1048576) 1048575=x∧n4 .i64 (x+y*1048576) 20=y:=by
 obtain ⟨a,rfl⟩:=Int.eq_ofNat_of_zero_le h1
 obtain ⟨c,rfl⟩:=Int.eq_ofNat_of_zero_le h3
 have hp:(2:Nat) ^ 20=1048576:=by decide
 have e:=Rb (a:=c) (n:=20) (by omega) (by rw [hp]; omega)
 rw [hp] at e
 rw [show ((20:Nat):Int)=20 by rfl] at e
 rw [e]
 refine ⟨by rw [dJ (by omega) (by omega)]; omega,?_,?_,?_⟩
 ·have h:=Yx (v:=a) (a:=c) (n:=20) (by rw [hp]; omega)
  rw [hp] at h
  rw [F7 (by omega) (by omega),h]; omega
 ·rw [show (a:Int)+(c:Int)*1048576=((a+c*1048576:Nat):Int) by omega,show (1048575:Int)=((1048575:Nat):Int) by rfl,U1 (by omega) (by omega),show (1048575:Nat)=2 ^ 20 - 1 by decide,Nat.and_two_pow_sub_one_eq_mod,hp]; omega
 ·rw [show (a:Int)+(c:Int)*1048576=((a+c*1048576:Nat):Int) by omega,show (20:Int)=((20:Nat):Int) by rfl,U2 (by omega),hp]; omega
theorem V2 {u:Nat} (hu:1099511627776≤u) {b:List Int} (hb:aF b) (hl:b.length≤1048576) (a:Int):∃ r,fH u b a 2=some r∧(match yZ b a with | some (m,e)=>r=(m,e,true) | none=>r.2.2=false):=by
 obtain ⟨u',hu'⟩:∃ j,u=j+5:=⟨u - 5,by omega⟩
 unfold fH yZ
 rw [show ((2:Int) == 1)=false by rfl,show ((2:Int) == 2)=true by rfl]
 simp only [cond_false,cond_true,kl hu hb hl,Option.bind_some]
 cases h0:(a9 b a).2.2 with
 | false=>exact ⟨_,rfl,rfl⟩
 | true =>
  simp only [Bool.not_true,cond_false,Bool.true_and]
  have st:∀ (k:Nat) (a:Int) (acc:List Int) (i:Nat),i < 4→acc.length≤4→∀ r2:Int×Int×Bool,cY u (k+1) b a acc i 2 r2=if (a9 b a).2.2 && po (a9 b a).1 then cY u k b (a9 b a).2.1 (acc++[(a9 b a).1]) ((i+1:Nat):Int) 2 r2 else some (⟨2,r2.1,HR,0,0,0,[]⟩,0,false):=fun k a acc i h1 h2 r2=>Yy hu hb hl k a acc i h1 h2 2 r2
  generalize hv:a9 b a=g0
  rw [show cY u u b g0.2.1 [] 0 2 g0=cY u (u'+4+1) b g0.2.1 [] ((0:Nat):Int) 2 g0 by rw [← hu']; rfl,st _ _ _ 0 (by omega) (by simp)]
  cases h1:((a9 b g0.2.1).2.2 && po (a9 b g0.2.1).1) with
  | false=>exact ⟨_,rfl,rfl⟩
  | true =>
   simp only [if_true,Bool.true_and,List.nil_append]
   rw [show u'+4=u'+3+1 by omega,st _ _ _ 1 (by omega) (by simp)]
   generalize hv1:a9 b g0.2.1=g1
   cases h2:((a9 b g1.2.1).2.2 && po (a9 b g1.2.1).1) with
   | false=>exact ⟨_,rfl,rfl⟩
   | true =>
    simp only [if_true,Bool.true_and]
    rw [show u'+3=u'+2+1 by omega,st _ _ _ 2 (by omega) (by simp)]
    generalize hv2:a9 b g1.2.1=g2
    cases h3:((a9 b g2.2.1).2.2 && po (a9 b g2.2.1).1) with
    | false=>exact ⟨_,rfl,rfl⟩
    | true =>
     simp only [if_true,Bool.true_and]
     rw [show u'+2=u'+1+1 by omega,st _ _ _ 3 (by omega) (by simp)]
     generalize hv3:a9 b g2.2.1=g3
     cases h4:((a9 b g3.2.1).2.2 && po (a9 b g3.2.1).1) with
     | false=>exact ⟨_,rfl,rfl⟩
     | true =>
      simp only [if_true]
      rw [cY]
      have e:¬ (((3+1:Nat):Int) < 4):=by omega
      simp only [e,decide_false,cond_false]
      unfold tQ tP
      rw [show (0:Int)=((0:Nat):Int) by rfl,show (1:Int)=((1:Nat):Int) by rfl,show (2:Int)=((2:Nat):Int) by rfl,show (3:Int)=((3:Nat):Int) by rfl]
      simp only [br,List.nil_append,List.cons_append,List.append_assoc,List.getElem?_cons_zero,List.getElem?_cons_succ,Option.bind_some]
      refine ⟨_,rfl,?_⟩
      have r1:0≤g1.1∧g1.1 < 1048576:=by
       rw [← hv1]; refine ⟨yj hb _,?_⟩
       simp only [Bool.and_eq_true,po,decide_eq_true_eq] at h1; exact h1.2
      have r2:0≤g2.1∧g2.1 < 1048576:=by
       rw [← hv2]; refine ⟨yj hb _,?_⟩
       simp only [Bool.and_eq_true,po,decide_eq_true_eq] at h2; exact h2.2
      have r3:0≤g3.1∧g3.1 < 1048576:=by
       rw [← hv3]; refine ⟨yj hb _,?_⟩
       simp only [Bool.and_eq_true,po,decide_eq_true_eq] at h3; exact h3.2
      have r4:0≤(a9 b g3.2.1).1∧(a9 b g3.2.1).1 < 1048576:=by
       refine ⟨yj hb _,?_⟩
       simp only [Bool.and_eq_true,po,decide_eq_true_eq] at h4; exact h4.2
      rw [(D8 r1.1 r1.2 r2.1 r2.2).1,(D8 r3.1 r3.2 r4.1 r4.2).1]
      rfl
theorem nxt {b p t:List Int} {e e' v n:Int} (hb:b=p++cV 9 n++t) (hp:b.take e.toNat=p) (h0:0≤e) (h1:e≤b.length) (hg:a9 b e=(v,e',true)) (n0:0≤n) (n1:n≤1000000000000):v=n∧b.take e'.toNat=p++cV 9 n:=by
 have hl:p.length=e.toNat:=by rw [← hp,List.length_take]; omega
 have h:=Rg (p:=p) (n:=n) t n0 n1
 rw [← hb,hl,show ((e.toNat:Nat):Int)=e by omega,hg] at h
 simp only [Prod.mk.injEq,and_true] at h
 refine ⟨h.1,?_⟩
 rw [h.2,Int.toNat_natCast,hb,← hl,← List.length_append,List.take_left]
theorem MJ {w:Int} (h:bE w=true):∃ x y,0≤x∧x < 1048576∧0≤y∧y < 1048576∧fE .i64 w 1048575=x∧n4 .i64 w 20=y:=by
 have h:=ce h
 have:=D8 (x:=w % 1048576) (y:=w / 1048576) (by omega) (by omega) (by omega) (by omega)
 refine ⟨w % 1048576,w / 1048576,by omega,by omega,by omega,by omega,?_,?_⟩
 ·have h2:=this.2.2.1
  rwa [show w % 1048576+w / 1048576*1048576=w by omega] at h2
 ·have h2:=this.2.2.2
  rwa [show w % 1048576+w / 1048576*1048576=w by omega] at h2
theorem JO {k:Int} (h0:0≤k) (h1:k≤1000000000000):aQ [] k=cV 9 k:=by rw [ff h0 h1]; rfl
theorem Zc {b:List Int} (hb:aF b) {a v0 e0 v1 e1 v2 e2 v3 e3 v4 e4 W D:Int} (ha:b.take a.toNat=cV 9 2) (h0:a9 b a=(v0,e0,true)) (h1:a9 b e0=(v1,e1,true)) (h2:a9 b e1=(v2,e2,true)) (h3:a9 b e2=(v3,e3,true)) (h4:a9 b e3=(v4,e4,true))
  (hok:lD ⟨2,v0,HR,W,D,0,[]⟩=true) (hp:gN ⟨2,v0,HR,W,D,0,[]⟩=b):po v1=true∧po v2=true∧po v3=true∧po v4=true:=by
 have p0:=cA hb h0
 have p1:=cA hb h1
 have p2:=cA hb h2
 have p3:=cA hb h3
 have p4:=cA hb h4
 have hs:bE W=true∧bE D=true:=by
  unfold lD at hok
  dsimp only at hok
  rw [if_neg (show ¬ ((2:Int)=1) by decide),if_pos rfl] at hok
  simp only [Bool.and_eq_true] at hok
  exact ⟨hok.1.1.1.2,hok.1.1.2⟩
 obtain ⟨x1,x2,a1,a2,a3,a4,a5,a6⟩:=MJ hs.1
 obtain ⟨x3,x4,c1,c2,c3,c4,c5,c6⟩:=MJ hs.2
 unfold gN at hp
 rw [if_pos hok] at hp
 have hbody:et ⟨2,v0,HR,W,D,0,[]⟩=cV 9 2++cV 9 v0++cV 9 x1++cV 9 x2++cV 9 x3++cV 9 x4:=by
  show pX (pX (aQ (aQ [] 2) v0) W) D=_
  unfold pX
  rw [a5,a6,c5,c6,JO (by omega) (by omega),ff p0.2.2.2.1 p0.2.2.2.2.1,ff a1 (by omega),ff a3 (by omega),ff c1 (by omega),ff c3 (by omega)]
 have hw:=D2 (et ⟨2,v0,HR,W,D,0,[]⟩)
 rw [ff hw.1 (by omega),hbody] at hp
 generalize cV 9 (cu (cV 9 2++cV 9 v0++cV 9 x1++cV 9 x2++cV 9 x3++cV 9 x4))=t at hp
 have q0:b.take e0.toNat=cV 9 2++cV 9 v0:=by rw [p0.2.2.2.2.2,ha]
 have q1:=nxt (t:=cV 9 x2++cV 9 x3++cV 9 x4++t) (by rw [← hp]; simp) q0 (by omega) p0.2.2.1 h1 a1 (by omega)
 have q2:=nxt (t:=cV 9 x3++cV 9 x4++t) (by rw [← hp]; simp) q1.2 (by omega) p1.2.2.1 h2 a3 (by omega)
 have q3:=nxt (t:=cV 9 x4++t) (by rw [← hp]; simp) q2.2 (by omega) p2.2.2.1 h3 c1 (by omega)
 have q4:=nxt (t:=t) (by rw [← hp]) q3.2 (by omega) p3.2.2.1 h4 c3 (by omega)
 unfold po
 simp only [decide_eq_true_eq]
 omega
theorem JP (k g w d i:Int) {p:List Int} (hp:aF p) (hl:p.length≤1048576):M.MsgWf ⟨k,g,HR,w,d,i,p⟩:=⟨by simp [HR],by intro s hs; simp [HR] at hs,hp,hl⟩
def CB (b:List Int) (r:ei×Bool) (o:Option (ei×Int)):Prop:=match o with
 | some (m,e)=>r=(m,true)
 | none=>r.2=false∨(M.MsgWf r.1∧(lD r.1=true→gN r.1≠b))
theorem D9 {b:List Int} {r:ei×Bool} {c:Bool} {x:ei×Int} (hc:c=false) (hr:r.2=false):CB b r (if c then some x else none):=by
 subst hc; exact .inl hr
theorem WU {α:Type} {b:Bool} (h:b=true) (x y:α):(bif !b then x else y)=y:=by subst h; rfl
theorem Rk {α β:Type} (a:α) (f:α→Option β):(some a).bind f=f a:=(Option.bind_some (a:=a) (f:=f)).trans (Eq.refl _)
theorem qag (a b c d e:Int):ci [a,b,c,d,e] 0=some a:=(br [a,b,c,d,e] 0).trans rfl
theorem qah (a b c d e:Int):ci [a,b,c,d,e] 1=some b:=(br [a,b,c,d,e] 1).trans rfl
theorem qai (a b c d e:Int):ci [a,b,c,d,e] 2=some c:=(br [a,b,c,d,e] 2).trans rfl
theorem qaj (a b c d e:Int):ci [a,b,c,d,e] 3=some d:=(br [a,b,c,d,e] 3).trans rfl
theorem qak (a b c d e:Int):ci [a,b,c,d,e] 4=some e:=(br [a,b,c,d,e] 4).trans rfl
theorem V3 {u:Nat} (hu:1099511627776≤u) {b:List Int} (hb:aF b) (hl:b.length≤1048576) {a:Int} (ha:b.take a.toNat=cV 9 2):∃ r,fK u b 2 a=some r∧CB b r (yZ b a):=by
 unfold fK yZ
 rw [show ((2:Int) == 1)=false by rfl,show ((2:Int) == 2)=true by rfl]
 simp only [cond_false,cond_true]
 rw [show (5:Int)=((5:Nat):Int) by rfl,FC hu hb hl a 5 (by omega)]
 simp only [Option.bind_some,xS]
 rcases b7 b a with ⟨v0,e0,h0⟩ | h0
 ·rw [h0]
  simp only [if_true]
  rcases b7 b e0 with ⟨v1,e1,h1⟩ | h1
  ·rw [h1]
   simp only [if_true]
   rcases b7 b e1 with ⟨v2,e2,h2⟩ | h2
   ·rw [h2]
    simp only [if_true]
    rcases b7 b e2 with ⟨v3,e3,h3⟩ | h3
    ·rw [h3]
     simp only [if_true]
     rcases b7 b e3 with ⟨v4,e4,h4⟩ | h4
     ·rw [h4]
      rw [if_pos rfl,WU (by rfl)]
      have hq:[]++[v0]++[v1]++[v2]++[v3]++[v4]=[v0,v1,v2,v3,v4]:=rfl
      rw [hq,qag,qah,qai,qaj,qak,Rk,Rk,Rk,Rk,Rk]
      unfold k5
      refine ⟨_,rfl,?_⟩
      have p1:=cA hb h1
      have p2:=cA hb h2
      have p3:=cA hb h3
      have p4:=cA hb h4
      cases hc:(true && (true && po v1 && (true && po v2 && (true && po v3 && (true && po v4))))) with
      | true =>
       simp only [Bool.true_and,Bool.and_eq_true,po,decide_eq_true_eq] at hc
       simp only [if_true,CB]
       rw [(D8 p1.2.2.2.1 hc.1 p2.2.2.2.1 hc.2.1).2.1,(D8 p3.2.2.2.1 hc.2.2.1 p4.2.2.2.1 hc.2.2.2).2.1]
       rfl
      | false =>
       simp only [Bool.false_eq_true,if_false,CB]
       refine .inr ⟨JP _ _ _ _ _ l9 (by simp),fun hok hp=>?_⟩
       have:=Zc hb ha h0 h1 h2 h3 h4 hok hp
       rw [this.1,this.2.1,this.2.2.1,this.2.2.2] at hc
       cases hc
     ·rw [h4]; exact ⟨_,rfl,D9 (by simp) rfl⟩
    ·rw [h3]; exact ⟨_,rfl,D9 (by simp) rfl⟩
   ·rw [h2]; exact ⟨_,rfl,D9 (by simp) rfl⟩
  ·rw [h1]; exact ⟨_,rfl,D9 (by simp) rfl⟩
 ·rw [h0]; exact ⟨_,rfl,D9 (by simp) rfl⟩
theorem qaG {b:List Int} (hb:aF b) {a e:Int} {m:ei} (ha:b.take a.toNat=cV 9 2) (h:yZ b a=some (m,e)):M.MsgWf m∧0≤e∧e≤b.length∧et m=b.take e.toNat:=by
 unfold yZ at h
 dsimp only at h
 split at h
 ·rename_i hc
  simp only [Bool.and_eq_true,po,decide_eq_true_eq] at hc
  obtain ⟨k0,⟨k1,l1⟩,⟨k2,l2⟩,⟨k3,l3⟩,k4,l4⟩:=hc
  simp only [Option.some.injEq,Prod.mk.injEq] at h
  obtain ⟨rfl,rfl⟩:=h
  rcases (b7 b a).symm with h0 | ⟨v0,e0,h0⟩
  ·simp [h0] at k0
  simp only [h0] at k0 k1 l1 k2 l2 k3 l3 k4 l4 ⊢
  rcases (b7 b e0).symm with h1 | ⟨v1,e1,h1⟩
  ·simp [h1] at k1
  simp only [h1] at k0 k1 l1 k2 l2 k3 l3 k4 l4 ⊢
  rcases (b7 b e1).symm with h2 | ⟨v2,e2,h2⟩
  ·simp [h2] at k2
  simp only [h2] at k0 k1 l1 k2 l2 k3 l3 k4 l4 ⊢
  rcases (b7 b e2).symm with h3 | ⟨v3,e3,h3⟩
  ·simp [h3] at k3
  simp only [h3] at k0 k1 l1 k2 l2 k3 l3 k4 l4 ⊢
  rcases (b7 b e3).symm with h4 | ⟨v4,e4,h4⟩
  ·simp [h4] at k4
  simp only [h4] at k0 k1 l1 k2 l2 k3 l3 k4 l4 ⊢
  have p0:=cA hb h0
  have p1:=cA hb h1
  have p2:=cA hb h2
  have p3:=cA hb h3
  have p4:=cA hb h4
  have s1:=D8 p1.2.2.2.1 l1 p2.2.2.2.1 l2
  have s2:=D8 p3.2.2.2.1 l3 p4.2.2.2.1 l4
  refine ⟨JP _ _ _ _ _ l9 (by simp),by omega,p4.2.2.1,?_⟩
  show pX (pX (aQ (aQ [] 2) v0) (v1+v2*1048576)) (v3+v4*1048576)=b.take e4.toNat
  unfold pX
  rw [s1.2.2.1,s1.2.2.2,s2.2.2.1,s2.2.2.2,JO (by omega) (by omega),ff p0.2.2.2.1 p0.2.2.2.2.1,ff p1.2.2.2.1 p1.2.2.2.2.1,ff p2.2.2.2.1 p2.2.2.2.2.1,ff p3.2.2.2.1 p3.2.2.2.2.1,ff p4.2.2.2.1 p4.2.2.2.2.1]
  rw [p4.2.2.2.2.2,p3.2.2.2.2.2,p2.2.2.2.2.2,p1.2.2.2.2.2,p0.2.2.2.2.2,ha]
 ·cases h
def Ea (r:ei×Int×Bool) (o:Option (ei×Int)):Prop:=match o with
 | some (m,e)=>r=(m,e,true)
 | none=>r.2.2=false∨(r.1.av.aD.length≤1048576∧lD r.1=false)
def M.puts (b:List Int) (o:Option (ei×Int)):Prop:=∀ m e,o=some (m,e)→M.MsgWf m∧0≤e∧e≤b.length∧et m=b.take e.toNat
theorem Tj {α:Type} (r:α×Int×Bool) (h:r.2.2=true):r=(r.1,r.2.1,true):=by rw [← h]
def Bs (b:List Int) (a:Int):Option (ei×Int):=if (km b a).2.2 then some (⟨1,0,(km b a).1,0,0,0,[]⟩,(km b a).2.1) else none
def Bt (b:List Int) (a:Int):Option (ei×Int):=if (a9 b a).2.2 then some (⟨4,(a9 b a).1,HR,0,0,0,[]⟩,(a9 b a).2.1) else none
theorem V4 {u:Nat} (hu:1099511627776≤u) {b:List Int} (hb:aF b) (hl:b.length≤1048576) (a:Int):∃ r,fH u b a 1=some r∧Ea r (Bs b a):=by
 refine ⟨(⟨1,0,(km b a).1,0,0,0,[]⟩,(km b a).2.1,(km b a).2.2),?_,?_⟩
 ·unfold fH
  rw [Ri hu hb hl]; rfl
 ·unfold Bs Ea
  cases h:(km b a).2.2 with
  | false=>exact .inl rfl
  | true=>rfl
theorem V5 {u:Nat} (hu:1099511627776≤u) {b:List Int} (hb:aF b) (hl:b.length≤1048576) (a:Int):∃ r,fK u b 1 a=some r∧CB b r (Bs b a):=by
 refine ⟨(⟨1,0,(km b a).1,0,0,0,[]⟩,(km b a).2.2),?_,?_⟩
 ·unfold fK
  rw [Rh hu hb hl]; rfl
 ·unfold Bs CB
  cases h:(km b a).2.2 with
  | false=>exact .inl rfl
  | true=>rfl
theorem qaH {b:List Int} (hb:aF b) {a:Int} (ha:b.take a.toNat=cV 9 1):M.puts b (Bs b a):=by
 intro m e h
 unfold Bs at h
 split at h
 ·rename_i hc
  simp only [Option.some.injEq,Prod.mk.injEq] at h
  obtain ⟨rfl,rfl⟩:=h
  have p:=V1 hb (Tj _ hc)
  refine ⟨⟨by have:=ve p.2.2.2.1; show (km b a).1.aD.length≤_; omega,p.2.2.2.2.1,l9,by simp⟩,by omega,p.2.2.1,?_⟩
  rw [p.2.2.2.2.2,ha,← JO (by omega) (by omega)]
  rfl
 ·cases h
theorem V6 {u:Nat} (hu:1099511627776≤u) {b:List Int} (hb:aF b) (hl:b.length≤1048576) (a:Int):∃ r,fH u b a 3=some r∧Ea r (Br b a):=by
 unfold fH Br
 rw [show ((3:Int) == 1)=false by rfl,show ((3:Int) == 2)=false by rfl,show ((3:Int) == 3)=true by rfl]
 simp only [cond_false,cond_true,kl hu hb hl,OC hu hb hl,Option.bind_some]
 rcases b7 b a with ⟨v0,e0,h0⟩ | h0
 ·rw [h0]
  dsimp only
  rcases b7 b e0 with ⟨v1,e1,h1⟩ | h1
  ·rw [h1]
   dsimp only
   cases h2:(qy b e1).2.2 with
   | false=>exact ⟨_,rfl,.inl rfl⟩
   | true=>exact ⟨_,rfl,rfl⟩
  ·rw [h1]; exact ⟨_,rfl,.inl rfl⟩
 ·rw [h0]; exact ⟨_,rfl,.inl rfl⟩
theorem qal (a b:Int):ci [a,b] 0=some a:=(br [a,b] 0).trans rfl
theorem qam (a b:Int):ci [a,b] 1=some b:=(br [a,b] 1).trans rfl
theorem V7 {u:Nat} (hu:1099511627776≤u) {b:List Int} (hb:aF b) (hl:b.length≤1048576) (a:Int):∃ r,fK u b 3 a=some r∧CB b r (Br b a):=by
 unfold fK Br
 rw [show ((3:Int) == 1)=false by rfl,show ((3:Int) == 2)=false by rfl,show ((3:Int) == 3)=true by rfl]
 simp only [cond_false,cond_true,OB hu hb hl]
 have hrv:=FC hu hb hl a 2 (by omega)
 rw [show ((2:Nat):Int)=2 from rfl] at hrv
 rw [hrv]
 simp only [Option.bind_some,xS]
 rcases b7 b a with ⟨v0,e0,h0⟩ | h0
 ·rw [h0]
  simp only [if_true]
  rcases b7 b e0 with ⟨v1,e1,h1⟩ | h1
  ·rw [h1,if_pos rfl,WU (by rfl)]
   have hq:[]++[v0]++[v1]=[v0,v1]:=rfl
   rw [hq,qal,qam,Rk,Rk]
   dsimp only
   cases h2:(qy b e1).2.2 with
   | false=>exact ⟨_,rfl,.inl rfl⟩
   | true=>exact ⟨_,rfl,rfl⟩
  ·rw [h1]; exact ⟨_,rfl,D9 (by simp) rfl⟩
 ·rw [h0]; exact ⟨_,rfl,D9 (by simp) rfl⟩
theorem qaI {b:List Int} (hb:aF b) {a:Int} (ha:b.take a.toNat=cV 9 3):M.puts b (Br b a):=by
 intro m e h
 unfold Br at h
 dsimp only at h
 split at h
 ·rename_i hc
  simp only [Bool.and_eq_true] at hc
  obtain ⟨⟨k0,k1⟩,k2⟩:=hc
  simp only [Option.some.injEq,Prod.mk.injEq] at h
  obtain ⟨rfl,rfl⟩:=h
  have p0:=cA hb (Tj _ k0)
  have p1:=cA hb (Tj _ k1)
  have p2:=U6 hb (Tj _ k2)
  generalize a9 b a=g0 at *
  generalize a9 b g0.2.1=g1 at *
  generalize qy b g1.2.1=g2 at *
  refine ⟨JP _ _ _ _ _ p2.2.2.2.1 (by omega),by omega,p2.2.2.1,?_⟩
  show aQ (aQ (aQ (aQ [] 3) g0.1) g1.1) g2.1.length++g2.1=b.take g2.2.1.toNat
  rw [JO (by omega) (by omega),ff p0.2.2.2.1 p0.2.2.2.2.1,ff p1.2.2.2.1 p1.2.2.2.2.1,ff (by omega) (by omega),p2.2.2.2.2.2,p1.2.2.2.2.2,p0.2.2.2.2.2,ha]
 ·cases h
theorem V8 {u:Nat} (hu:1099511627776≤u) {b:List Int} (hb:aF b) (hl:b.length≤1048576) (a:Int):∃ r,fH u b a 4=some r∧Ea r (Bt b a):=by
 unfold fH Bt
 rw [show ((4:Int) == 1)=false by rfl,show ((4:Int) == 2)=false by rfl,show ((4:Int) == 3)=false by rfl]
 simp only [cond_false,cond_true,kl hu hb hl,Option.bind_some]
 rcases b7 b a with ⟨v0,e0,h0⟩ | h0
 ·rw [h0]; exact ⟨_,rfl,rfl⟩
 ·rw [h0]; exact ⟨_,rfl,.inl rfl⟩
theorem V9 {u:Nat} (hu:1099511627776≤u) {b:List Int} (hb:aF b) (hl:b.length≤1048576) (a:Int):∃ r,fK u b 4 a=some r∧CB b r (Bt b a):=by
 unfold fK Bt
 rw [show ((4:Int) == 1)=false by rfl,show ((4:Int) == 2)=false by rfl,show ((4:Int) == 3)=false by rfl,show ((4:Int) == 4)=true by rfl]
 simp only [cond_false,cond_true,w8 hu hb hl,Option.bind_some]
 rcases b7 b a with ⟨v0,e0,h0⟩ | h0
 ·rw [h0]; exact ⟨_,rfl,rfl⟩
 ·rw [h0]; exact ⟨_,rfl,.inl rfl⟩
theorem qaJ {b:List Int} (hb:aF b) {a:Int} (ha:b.take a.toNat=cV 9 4):M.puts b (Bt b a):=by
 intro m e h
 unfold Bt at h
 split at h
 ·rename_i k0
  simp only [Option.some.injEq,Prod.mk.injEq] at h
  obtain ⟨rfl,rfl⟩:=h
  have p0:=cA hb (Tj _ k0)
  generalize a9 b a=g0 at *
  refine ⟨JP _ _ _ _ _ l9 (by simp),by omega,p0.2.2.1,?_⟩
  show aQ (aQ [] 4) g0.1=b.take g0.2.1.toNat
  rw [JO (by omega) (by omega),ff p0.2.2.2.1 p0.2.2.2.2.1,p0.2.2.2.2.2,ha]
 ·cases h
def CC (b:List Int) (kind a:Int):Option (ei×Int):=if kind=1 then Bs b a else if kind=2 then yZ b a else if kind=3 then Br b a else if kind=4 then Bt b a else none
theorem Rl {m:ei} (h1:m.bA≠1) (h2:m.bA≠2) (h3:m.bA≠3) (h4:m.bA≠4):lD m=false:=by
 unfold lD; rw [if_neg h1,if_neg h2,if_neg h3,if_neg h4]
theorem XB {u:Nat} (hu:1099511627776≤u) {b:List Int} (hb:aF b) (hl:b.length≤1048576) (k a:Int):∃ r,fH u b a k=some r∧Ea r (CC b k a):=by
 unfold CC
 by_cases h1:k=1
 ·subst h1; exact V4 hu hb hl a
 ·rw [if_neg h1]
  by_cases h2:k=2
  ·subst h2
   obtain ⟨r,g1,g2⟩:=V2 hu hb hl a
   refine ⟨r,g1,?_⟩
   rw [if_pos rfl]
   unfold Ea
   cases hp:yZ b a with
   | none=>rw [hp] at g2; exact .inl g2
   | some q=>rw [hp] at g2; exact g2
  ·rw [if_neg h2]
   by_cases h3:k=3
   ·subst h3; exact V6 hu hb hl a
   ·rw [if_neg h3]
    by_cases h4:k=4
    ·subst h4; exact V8 hu hb hl a
    ·rw [if_neg h4]
     have e1:(k == 1)=false:=by simpa using h1
     have e2:(k == 2)=false:=by simpa using h2
     have e3:(k == 3)=false:=by simpa using h3
     unfold fH
     rw [e1,e2,e3]
     simp only [cond_false,kl hu hb hl,Option.bind_some]
     rcases b7 b a with ⟨v0,e0,h0⟩ | h0
     ·rw [h0]
      exact ⟨(⟨k,v0,⟨0,0,0,[]⟩,0,0,0,[]⟩,e0,true),rfl,.inr ⟨by simp,Rl h1 h2 h3 h4⟩⟩
     ·rw [h0]; exact ⟨_,rfl,.inl rfl⟩
theorem XC {u:Nat} (hu:1099511627776≤u) {b:List Int} (hb:aF b) (hl:b.length≤1048576) {k a:Int} (ha:b.take a.toNat=cV 9 k):∃ r,fK u b k a=some r∧CB b r (CC b k a):=by
 unfold CC
 by_cases h1:k=1
 ·subst h1; exact V5 hu hb hl a
 ·rw [if_neg h1]
  by_cases h2:k=2
  ·subst h2; exact V3 hu hb hl ha
  ·rw [if_neg h2]
   by_cases h3:k=3
   ·subst h3; exact V7 hu hb hl a
   ·rw [if_neg h3]
    by_cases h4:k=4
    ·subst h4; exact V9 hu hb hl a
    ·rw [if_neg h4]
     have e1:(k == 1)=false:=by simpa using h1
     have e2:(k == 2)=false:=by simpa using h2
     have e3:(k == 3)=false:=by simpa using h3
     have e4:(k == 4)=false:=by simpa using h4
     unfold fK
     rw [e1,e2,e3,e4]
     exact ⟨_,rfl,.inl rfl⟩
theorem LZ {b:List Int} (hb:aF b) {k a:Int} (ha:b.take a.toNat=cV 9 k):M.puts b (CC b k a):=by
 unfold CC
 by_cases h1:k=1
 ·subst h1; exact qaH hb ha
 ·rw [if_neg h1]
  by_cases h2:k=2
  ·subst h2; exact fun m e h=>qaG hb ha h
  ·rw [if_neg h2]
   by_cases h3:k=3
   ·subst h3; exact qaI hb ha
   ·rw [if_neg h3]
    by_cases h4:k=4
    ·subst h4; exact qaJ hb ha
    ·rw [if_neg h4]; intro m e h; cases h
def xd:ei×Bool:=(⟨0,0,⟨0,0,0,[]⟩,0,0,0,[]⟩,false)
def hZ (b:List Int):ei×Bool:=if (a9 b 0).2.2 && decide (b.length≤400) then match CC b (a9 b 0).1 (a9 b 0).2.1 with
  | some (m,e)=>if lD m && decide (gN m=b) then (m,true) else xd
  | none=>xd
 else xd
theorem Eb {m:ei} (h:M.MsgWf m):aF (gN m):=by
 unfold gN
 split
 ·exact gV (HQ h).1 _
 ·exact l9
theorem Rm {u:Nat} (hu:1099511627776≤u) {b:List Int} (hb:aF b) (hl:b.length≤1048576):yM u b=some (hZ b):=by
 unfold yM hZ wj ri
 simp only [w8 hu hb hl,Option.bind_some]
 rcases b7 b 0 with ⟨k,a,h0⟩ | h0
 ·rw [h0]
  have p:=cA hb h0
  have ha:b.take a.toNat=cV 9 k:=by rw [p.2.2.2.2.2]; rfl
  by_cases h4:b.length≤400
  ·have h4':¬ ((b.length:Int) > 400):=by omega
   simp only [h4,h4',decide_true,decide_false,Bool.and_self,if_true,Bool.not_true,cond_false]
   obtain ⟨r,g1,g2⟩:=XC hu hb hl ha
   rw [g1]
   simp only [Option.bind_some]
   cases hr:CC b k a with
   | none =>
    rw [hr] at g2
    rcases g2 with g2 | ⟨g2,g3⟩
    ·rw [g2]; rfl
    ·cases hf:r.2 with
     | false=>rfl
     | true =>
      rw [Cz hu g2.sums]
      simp only [Bool.not_true,cond_false,Option.bind_some]
      cases hm:lD r.1 with
      | false=>rfl
      | true =>
       simp only [Bool.not_true,cond_false,Bq hu g2,qI,Option.bind_some]
       rw [JN (Eb g2) hb,decide_eq_false (g3 hm)]; rfl
   | some q =>
    obtain ⟨m,e⟩:=q
    rw [hr] at g2
    have w:=LZ hb ha m e hr
    unfold CB at g2
    dsimp only at g2
    rw [g2]
    dsimp only
    rw [Cz hu w.1.sums]
    simp only [Bool.not_true,cond_false,Option.bind_some]
    cases hm:lD m with
    | false=>rfl
    | true =>
     simp only [Bool.not_true,cond_false,Bq hu w.1,qI,Option.bind_some]
     rw [JN (Eb w.1) hb]
     by_cases hp:gN m=b
     ·simp [hp]
     ·simp [hp,xd]
  ·have h4':(b.length:Int) > 400:=by omega
   simp [h4,h4',xd]
 ·rw [h0]; simp [xd]
theorem ZQ {b:List Int} (hb:aF b) {m:ei} {e:Int} (h0:0≤e) (h1:e≤b.length) (hp:et m=b.take e.toNat) (hm:lD m=true):gN m=b↔a9 b e=(cu (b.take e.toNat),(b.length:Int),true):=by
 have hw:=D2 (b.take e.toNat)
 unfold gN
 rw [if_pos hm,hp,ff hw.1 (by omega)]
 have hlen:(b.take e.toNat).length=e.toNat:=by rw [List.length_take]; omega
 constructor
 ·intro h
  have g:=Rg (p:=b.take e.toNat) (n:=cu (b.take e.toNat)) [] hw.1 (by omega)
  rw [List.append_nil,h,hlen,show ((e.toNat:Nat):Int)=e by omega] at g
  rw [g]
  refine Prod.ext rfl (Prod.ext ?_ rfl)
  have:=congrArg List.length h
  rw [List.length_append,hlen] at this
  dsimp only; omega
 ·intro h
  have p:=cA hb h
  rw [← p.2.2.2.2.2,Int.toNat_natCast,List.take_length]
theorem Rn {u:Nat} (hu:1099511627776≤u) {b:List Int} (hb:aF b) (hl:b.length≤1048576):yC u b=some (hZ b):=by
 unfold yC hZ vK vJ q6
 simp only [kl hu hb hl,Option.bind_some]
 rcases b7 b 0 with ⟨k,a,h0⟩ | h0
 ·rw [h0]
  have p:=cA hb h0
  have ha:b.take a.toNat=cV 9 k:=by rw [p.2.2.2.2.2]; rfl
  by_cases h4:b.length≤400
  ·have h4':¬ ((b.length:Int) > 400):=by omega
   simp only [h4,h4',decide_true,decide_false,Bool.and_self,if_true,Bool.not_true,cond_false]
   obtain ⟨r,g1,g2⟩:=XB hu hb hl k a
   rw [g1]
   simp only [Option.bind_some]
   cases hr:CC b k a with
   | none =>
    rw [hr] at g2
    rcases g2 with g2 | ⟨g2,g3⟩
    ·rw [g2]; rfl
    ·cases hf:r.2.2 with
     | false=>rfl
     | true =>
      rw [CA hu g2,g3]; rfl
   | some q =>
    obtain ⟨m,e⟩:=q
    rw [hr] at g2
    have w:=LZ hb ha m e hr
    unfold Ea at g2
    dsimp only at g2
    rw [g2]
    dsimp only
    rw [CA hu w.1.sums]
    simp only [Bool.not_true,cond_false,Option.bind_some]
    cases hm:lD m with
    | false=>rfl
    | true =>
     have hs:=ZQ hb w.2.1 w.2.2.1 w.2.2.2 hm
     obtain ⟨e,rfl⟩:=Int.eq_ofNat_of_zero_le w.2.1
     simp only [Bool.not_true,cond_false,Int.toNat_natCast] at hs ⊢
     rw [show (0:Int)=((0:Nat):Int) by rfl,eL (by omega) (by have:=w.2.2.1; omega)]
     simp only [Option.bind_some,Int.toNat_natCast,List.drop_zero]
     rw [w5 hu (fun x hx=>hb x (List.mem_of_mem_take hx)) (by rw [List.length_take]; omega)]
     simp only [Option.bind_some]
     rcases b7 b e with ⟨v,e',h5⟩ | h5
     ·rw [h5] at hs ⊢
      simp only [Bool.not_true,cond_false]
      by_cases he:e'=(b.length:Int)
      ·by_cases hv:v=cu (b.take e)
       ·have:gN m=b:=hs.2 (by rw [he,hv])
        simp [he,hv,this]
       ·have:¬ gN m=b:=fun h=>hv (by have:=hs.1 h; simp only [Prod.mk.injEq] at this; exact this.1)
        have hv':(v != cu (b.take e))=true:=by simpa using hv
        simp [he,this,xd]
        rw [hv']; rfl
      ·have:¬ gN m=b:=fun h=>he (by have:=hs.1 h; simp only [Prod.mk.injEq] at this; exact this.2.1)
       have he':(e' != (b.length:Int))=true:=by simpa using he
       simp [this,xd]
       rw [he']; rfl
     ·rw [h5] at hs ⊢
      have:¬ gN m=b:=fun h=>by have:=hs.1 h; simp at this
      simp [this,xd]
  ·have h4':(b.length:Int) > 400:=by omega
   simp [h4,h4',xd]
 ·rw [h0]; simp [xd]
theorem U8 {u:Nat} (hu:1099511627776≤u) (d0:aG):∀ (l:List ca) (i:Nat) (d:aG),(∀ p∈l,mX p=true)→M.DOk d→bt (lv u d0) (fY u d0) l i (tup d)=some (Q9 l d):=by
 intro l
 induction l with
 | nil=>intro i d _ _; rfl
 | cons p l ih =>
  intro i d hp hd
  have h0:=hp p (by simp)
  simp only [bt,fY,cW,yI,Option.bind_some,cond_true,Q9]
  rw [show (aG.mk (tup d).1 (tup d).2.1 (c7.mk (tup d).2.2.1 (tup d).2.2.2.1 (tup d).2.2.2.2.1) (tup d).2.2.2.2.2)=d by rfl,Oz hu hd h0]
  exact ih (i+1) _ (fun q hq=>hp q (by simp [hq])) (Th hd h0)
theorem T1 {u:Nat} (hu:1099511627776≤u) {d:aG} (hd:M.DOk d):C6 u d=some (FB d):=by
 have h3:=hd.p
 unfold C6 fj FB
 rw [LW hu hd,Bn hu hd]
 simp only [Option.bind_some]
 cases h:em d with
 | false=>rfl
 | true =>
  simp only [Bool.not_true,cond_false,if_true]
  have e:=U8 hu d d.fP 0 d (MG h) hd
  rw [← sL u d (tup d) u (by omega) (by omega)] at e
  rw [show bV u u d 0 d.fA d.fB d.fR.aP d.fR.cL d.fR.aY d.fP=_ from e]; rfl
theorem OD (u:Nat) {n:Nat} (h:n≤40):rZ u n=some ((2 ^ n - 1:Nat):Int):=by
 unfold rZ
 have h1:aq (n:Int) 0 40=true:=by simp [aq]; omega
 rw [bM,h1]
 simp only [Option.bind_some,Bool.not_true,cond_false]
 have h2:(2:Nat) ^ n≤2 ^ 40:=Nat.pow_le_pow_right (by omega) h
 have h3:0 < (2:Nat) ^ n:=Nat.pow_pos (by omega)
 rw [bB (by omega),LP (by omega)]
 generalize (2:Nat) ^ n=p at *
 rw [cH (by omega) (by omega)]
 simp only [Option.bind_some]
 congr 1
 omega
def iR {α:Type} (f:α→Nat→Bool):List α→Nat→Bool
 | [],_=>true
 | x :: l,i=>f x i && iR f l (i+1)
theorem mQ {α:Type} {fin:Unit→Option Bool} {body:α→Nat→Unit→(Unit→Option Bool)→Option Bool} (f:α→Nat→Bool) {xs:List α} {b:Bool} (hf:fin ()=some b) (i0:Nat) (hb:∀ x i k,i0≤i→xs[i]?=some x→body x i () k=bif f x i then k () else some false) :
  ∀ (l:List α) (i:Nat),i0≤i→l=xs.drop i→bt fin body l i ()=some (iR f l i && b):=by
 intro l
 induction l with
 | nil=>intro i _ _; simp [bt,iR,hf]
 | cons x l ih =>
  intro i h0 h
  have hx:xs[i]?=some x:=by
   have:=congrArg List.head? h
   simpa [List.head?_drop] using this.symm
  have hl:l=xs.drop (i+1):=by
   have:=congrArg List.tail h
   simpa [List.tail_drop] using this
  simp only [bt,iR]
  rw [hb x i _ h0 hx,ih (i+1) (by omega) hl]
  cases f x i <;> simp
def HS (x:Int) (i:Nat):Bool:=if i=0 then x == -1 else aq x 0 ((i:Int) - 1)
def o0 (t:co):Bool:=iR HS t.cx 0 && aq t.cx.length 1 7
theorem FD {u:Nat} (hu:1099511627776≤u) {t:co} (hl:t.cx.length≤1073741824):uW u t=some (o0 t):=by
 unfold uW o0
 rw [KM u t () u (by omega) (by omega)]
 refine mQ HS (by simp [CY,vX,bM]) 0 (fun x i k _ hx=>?_) _ 0 (Nat.le_refl _) rfl
 have hi:i < t.cx.length:=(List.getElem?_eq_some_iff.1 hx).1
 unfold CZ eC HS
 by_cases h0:i=0
 ·subst h0
  by_cases h1:x=-1
  ·subst h1; simp
  ·have:(x == -1)=false:=by simpa using h1
   simp [this,bne]
 ·have e0:((i:Int) == 0)=false:=by simpa using h0
  have e1:decide ((i:Int) > 0)=true:=by simp; omega
  simp (disch:=omega) only [e0,e1,h0,cond_true,cond_false,cH,bM,Option.bind_some,↓reduceIte]
  cases aq x 0 ((i:Int) - 1) <;> rfl
theorem FE {u:Nat} (hu:1099511627776≤u) {t:co} (hl:t.cx.length≤1073741824):uO u t=some (o0 t):=by
 unfold uO o0 vA
 simp only [bX,Option.bind_some]
 cases hw:aq t.cx.length 1 7 with
 | false=>simp
 | true =>
  have:=ce hw
  match hup:t.cx with
  | []=>rw [hup] at this; simp at this
  | x :: l =>
   have h1:ci (x :: l) 0=some x:=rfl
   simp only [Bool.not_true,cond_false,h1,Option.bind_some,iR,HS,↓reduceIte,Bool.and_true]
   by_cases hx:x=-1
   ·subst hx
    simp only [bne_self_eq_false,cond_false,beq_self_eq_true,Bool.true_and]
    have h:=US (fin:=CL u t) (body:=fun y i s k=>xt u t y i s k) (xs:=t.cx) (fun k s i=>jX u k i t) (by omega) (fun _ _ _=>rfl) (t.cx.drop 1) u 1 () rfl (by simp; omega)
    have h2:jX u u 1 t=some (iR HS (t.cx.drop 1) 1 && true):=by
     rw [show ((1:Int))=((1:Nat):Int) from rfl,h]
     refine mQ HS rfl 1 (fun y i k h0 hy=>?_) _ 1 (Nat.le_refl _) rfl
     have hi:i < t.cx.length:=(List.getElem?_eq_some_iff.1 hy).1
     have e0:i≠0:=by omega
     unfold xt HS
     simp (disch:=omega) only [e0,cH,bX,Option.bind_some,↓reduceIte]
     cases aq y 0 ((i:Int) - 1) <;> rfl
    rw [h2,hup]
    simp
   ·have:(x == -1)=false:=by simpa using hx
    simp [this,bne]
def iS (up:List Int):Nat→Int→List Int
 | 0,_=>[]
 | n+1,k=>if aq k 0 ((up.length:Int) - 1) then k :: iS up n ((up[k.toNat]?).getD 0) else []
def Bu (t:co) (k:Int):List Int:=iS t.cx t.cx.length k
theorem Ec (up:List Int):∀ (n:Nat) (k:Int),(iS up n k).length≤n
 | 0,_=>by simp [iS]
 | n+1,k=>by
  unfold iS
  split
  ·have:=Ec up n ((up[k.toNat]?).getD 0)
   simp; omega
  ·simp
theorem Ro {up:List Int} {k:Int} (h:aq k 0 ((up.length:Int) - 1)=true):ci up k=some ((up[k.toNat]?).getD 0):=by
 have:=ce h
 have h1:k.toNat < up.length:=by omega
 simp [ci,this.1,h1]
theorem o3 (u:Nat) {t:co} (hl:t.cx.length≤1048576) (k:Int):ef u t k=some (aq k 0 ((t.cx.length:Int) - 1)):=by
 unfold ef
 simp (disch:=omega) only [cH,bM,Option.bind_some]
theorem Rp {u:Nat} (hu:1099511627776≤u) {t:co} (hl:t.cx.length≤1048576) (k:Int):yz u t k=some (Bu t k):=by
 have main:∀ (n f:Nat) (k:Int) (o:List Int),o.length+n=t.cx.length→n < f→iD u f k o t=some (o++iS t.cx n k):=by
  intro n
  induction n with
  | zero =>
   intro f k o h1 h2
   obtain ⟨f,rfl⟩:∃ j,f=j+1:=⟨f - 1,by omega⟩
   have e:decide ((o.length:Int) < (t.cx.length:Int))=false:=by simp; omega
   unfold iD qS vD
   simp (disch:=omega) only [cH,bX,Option.bind_some,e,cond_false,iS,List.append_nil]
   cases aq k 0 ((t.cx.length:Int) - 1) <;> rfl
  | succ n ih =>
   intro f k o h1 h2
   obtain ⟨f,rfl⟩:∃ j,f=j+1:=⟨f - 1,by omega⟩
   have e:decide ((o.length:Int) < (t.cx.length:Int))=true:=by simp; omega
   unfold iD qS vD
   simp (disch:=omega) only [cH,bX,Option.bind_some,e,iS]
   cases hw:aq k 0 ((t.cx.length:Int) - 1) with
   | false=>simp
   | true =>
    have e2:dW (decide ((o.length+([k]).length)*8≤140737488355328))=some ():=bB (by simp; omega)
    have e2':dW (decide ((o.length+([(0:Int)]).length)*8≤140737488355328))=some ():=bB (by simp; omega)
    simp only [cond_true,Ro hw,Option.bind_some,e2,↓reduceIte]
    rw [ih f _ (o++[k]) (by simp; omega) (by omega),List.append_assoc,List.singleton_append]
 unfold yz Bu
 rw [main t.cx.length u k [] (by simp) (by omega),List.nil_append]
theorem Rq {u:Nat} (hu:1099511627776≤u) {t:co} (hl:t.cx.length≤1048576) (k:Int):yG u t k=some (Bu t k):=by
 have main:∀ (n f:Nat) (k:Int) (o:List Int),o.length+n=t.cx.length→n < f→iI u f k o t=some (o++iS t.cx n k):=by
  intro n
  induction n with
  | zero =>
   intro f k o h1 h2
   obtain ⟨f,rfl⟩:∃ j,f=j+1:=⟨f - 1,by omega⟩
   have e:decide ((o.length:Int) < (t.cx.length:Int))=false:=by simp; omega
   unfold iI rc vZ
   simp (disch:=omega) only [o3,Option.bind_some,e,cond_false,iS,List.append_nil]
   cases aq k 0 ((t.cx.length:Int) - 1) <;> rfl
  | succ n ih =>
   intro f k o h1 h2
   obtain ⟨f,rfl⟩:∃ j,f=j+1:=⟨f - 1,by omega⟩
   have e:decide ((o.length:Int) < (t.cx.length:Int))=true:=by simp; omega
   unfold iI rc vZ
   simp (disch:=omega) only [o3,Option.bind_some,e,iS]
   cases hw:aq k 0 ((t.cx.length:Int) - 1) with
   | false=>simp
   | true =>
    have e2:dW (decide ((o.length+([k]).length)*8≤140737488355328))=some ():=bB (by simp; omega)
    simp only [cond_true,Ro hw,Option.bind_some,e2,↓reduceIte]
    rw [ih f _ (o++[k]) (by simp; omega) (by omega),List.append_assoc,List.singleton_append]
 unfold yG Bu
 rw [main t.cx.length u k [] (by simp) (by omega),List.nil_append]
def JQ (t:co) (a k:Int):Bool:=(a != k) && (Bu t k).any fun y=>y == a
theorem L0 {u:Nat} (hu:1099511627776≤u) {t:co} (hl:t.cx.length≤1048576) (a k:Int):qb u t a k=some (JQ t a k):=by
 have:=Ec t.cx t.cx.length k
 unfold qb JQ
 rw [Rp hu hl]
 simp only [Option.bind_some]
 rw [Q5 hu (by unfold Bu; omega)]
 cases a != k <;> rfl
theorem L1 {u:Nat} (hu:1099511627776≤u) {t:co} (hl:t.cx.length≤1048576) (a k:Int):qm u t a k=some (JQ t a k):=by
 have:=Ec t.cx t.cx.length k
 unfold qm JQ
 rw [Rq hu hl]
 simp only [Option.bind_some]
 rw [zO hu (by unfold Bu; omega)]
 cases a != k <;> rfl
theorem MK {up:List Int}:∀ {n:Nat} {k a:Int},a∈iS up n k→aq a 0 ((up.length:Int) - 1)=true
 | 0,_,_,h=>by simp [iS] at h
 | n+1,k,a,h=>by
  unfold iS at h
  split at h
  ·rename_i hk
   rcases List.mem_cons.1 h with rfl | h
   ·exact hk
   ·exact MK h
  ·simp at h
theorem ZR {t:co} {a k:Int} (h:JQ t a k=true):aq a 0 ((t.cx.length:Int) - 1)=true:=by
 unfold JQ at h
 simp only [Bool.and_eq_true,List.any_eq_true,beq_iff_eq] at h
 obtain ⟨_,y,hy,rfl⟩:=h
 exact MK hy
theorem yk {α:Type} (f:α→Bool):∀ (l:List α) (i:Nat),(dD f l i=-1∧∀ x∈l,f x=false)∨∃ (j:Nat) (x:α),dD f l i=((i+j:Nat):Int)∧l[j]?=some x∧f x=true
 | [],i=>.inl ⟨rfl,by simp⟩
 | y :: l,i=>by
  cases hy:f y with
  | true=>exact .inr ⟨0,y,by simp [dD,hy],rfl,hy⟩
  | false =>
   rcases yk f l (i+1) with ⟨h1,h2⟩ | ⟨j,x,h1,h2,h3⟩
   ·exact .inl ⟨by simp [dD,hy,h1],by simp [hy]; exact h2⟩
   ·exact .inr ⟨j+1,x,by simp [dD,hy,h1]; omega,by simpa using h2,h3⟩
def ym (l:List Kid) (id:Int):Int:=dD (fun x=>x.fd == id) l 0
theorem CD {u:Nat} (hu:1099511627776≤u) {l:List Kid} (hl:l.length≤1048577) (id:Int):uv u l id=some (ym l id):=by
 unfold uv
 rw [MX u l id () u (by omega) (by omega)]
 exact lP (fun (x:Kid)=>x.fd == id) rfl (fun x i k _=>rfl)
theorem CE {u:Nat} (hu:1099511627776≤u) {l:List Kid} (hl:l.length≤1048577) (id:Int):uB u l id=some (ym l id):=by
 unfold uB cG
 rw [kt u l id () u (by omega) (by omega),lP (fun (x:Kid)=>x.fd == id) rfl (fun x i k _=>rfl)]
 rfl
def y0 (l:List Kid) (x:Kid) (i:Nat):Bool :=
 aq x.fd 0 6 && bE x.bx && bE x.bL && bE x.c8 && !decide (x.qP < 0) && (if i=0 then true else match l[i - 1]? with | some y=>!decide (x.fd≤y.fd) | none=>true)
def pY (l:List Kid):Bool:=iR (y0 l) l 0
theorem U9 {α:Type} {l:List α} {i:Nat} (h:i < l.length) (h0:i≠0) (hl:l.length≤1048577):∃ y,l[i - 1]?=some y∧ci l (cy .i64 (i:Int) 1)=some y:=by
 have h1:i - 1 < l.length:=by omega
 refine ⟨l[i - 1],by simp [h1],?_⟩
 rw [cH (by omega) (by omega),show (i:Int) - 1=((i - 1:Nat):Int) by omega,br]
 simp [h1]
theorem Rr {u:Nat} (hu:1099511627776≤u) {l:List Kid} (hl:l.length≤1048576):pc u l=some (pY l):=by
 unfold pc pY
 rw [KB u l () u (by omega) (by omega),mQ (y0 l) (xs:=l) (b:=true) rfl 0 (fun x i k _ hx=>?_) l 0 (Nat.le_refl _) rfl,Bool.and_true]
 have hi:i < l.length:=(List.getElem?_eq_some_iff.1 hx).1
 unfold CO cm y0
 simp only [bX,jW,br,hx,Option.bind_some]
 by_cases h0:i=0
 ·subst h0
  have e:decide (((0:Nat):Int) > 0)=false:=by simp
  simp only [e,cond_false,↓reduceIte,Bool.and_true]
  cases aq x.fd 0 6 <;> cases bE x.bx <;> cases bE x.bL <;> cases bE x.c8 <;> cases decide (x.qP < 0) <;> rfl
 ·have e:decide ((i:Int) > 0)=true:=by simp; omega
  obtain ⟨y,h1,h2⟩:=U9 hi h0 (by omega)
  simp only [e,cond_true,h0,h1,h2,↓reduceIte,Option.bind_some]
  cases aq x.fd 0 6 <;> cases bE x.bx <;> cases bE x.bL <;> cases bE x.c8 <;> cases decide (x.qP < 0) <;> cases decide (x.fd≤y.fd) <;> rfl
theorem Rs {u:Nat} (hu:1099511627776≤u) {l:List Kid} (hl:l.length≤1048576):yH u l=some (pY l):=by
 unfold yH pY
 rw [KR u l () u (by omega) (by omega),mQ (y0 l) (xs:=l) (b:=true) rfl 0 (fun x i k _ hx=>?_) l 0 (Nat.le_refl _) rfl,Bool.and_true]
 have hi:i < l.length:=(List.getElem?_eq_some_iff.1 hx).1
 unfold C5 dh xE y0
 simp only [bM,lM,Option.bind_some]
 by_cases h0:i=0
 ·subst h0
  have e:decide (((0:Nat):Int) > 0)=false:=by simp
  simp only [e,cond_false,↓reduceIte,Bool.and_true]
  cases aq x.fd 0 6 <;> cases bE x.bx <;> cases bE x.bL <;> cases bE x.c8 <;> cases decide (x.qP < 0) <;> rfl
 ·have e:decide ((i:Int) > 0)=true:=by simp; omega
  obtain ⟨y,h1,h2⟩:=U9 hi h0 (by omega)
  simp only [e,cond_true,h0,h1,h2,↓reduceIte,Option.bind_some]
  cases aq x.fd 0 6 <;> cases bE x.bx <;> cases bE x.bL <;> cases bE x.c8 <;> cases decide (x.qP < 0) <;> cases decide (x.fd≤y.fd) <;> rfl
theorem Rt {α β ρ:Type} {fin:List β→Option ρ} {body:α→Nat→List β→(List β→Option ρ)→Option ρ} (f:α→Bool) (g:α→β) {xs:List α} (hb:∀ x i s k,xs[i]?=some x→i < xs.length→s.length≤i→body x i s k=bif f x then k (s++[g x]) else k s) :
  ∀ (l:List α) (i:Nat) (s:List β),l=xs.drop i→s.length≤i→bt fin body l i s=fin (s++(l.filter f).map g):=by
 intro l
 induction l with
 | nil=>intro i s _ _; simp [bt]
 | cons x l ih =>
  intro i s h hs
  have hx:xs[i]?=some x:=by
   have:=congrArg List.head? h
   simpa [List.head?_drop] using this.symm
  have hl:l=xs.drop (i+1):=by
   have:=congrArg List.tail h
   simpa [List.tail_drop] using this
  have hi:i < xs.length:=(List.getElem?_eq_some_iff.1 hx).1
  simp only [bt]
  rw [hb x i s _ hx hi hs]
  cases hf:f x with
  | true=>rw [cond_true,ih (i+1) _ hl (by simp; omega)]; simp [hf]
  | false=>rw [cond_false,ih (i+1) _ hl (by omega)]; simp [hf]
theorem nT (l:List Kid) (id:Int):(ym l id=-1∧∀ x∈l,x.fd≠id)∨∃ (j:Nat) (x:Kid),ym l id=(j:Int)∧l[j]?=some x∧x.fd=id:=by
 rcases yk (fun (x:Kid)=>x.fd == id) l 0 with ⟨h1,h2⟩ | ⟨j,x,h1,h2,h3⟩
 ·exact .inl ⟨h1,fun x hx=>by simpa using h2 x hx⟩
 ·exact .inr ⟨j,x,by unfold ym; rw [h1]; simp,h2,by simpa using h3⟩
def jn (l:List Kid) (id have_:Int):Int:=match ci l (ym l id) with
 | some x=>if bE have_ && bE x.bx && bE x.c8 then Ap .i64 (fE .i64 x.bx have_) x.c8 else 0
 | none=>0
theorem FF {u:Nat} (hu:1099511627776≤u) {l:List Kid} (hl:l.length≤1048577) (id s:Int):uV u l id s=some (jn l id s):=by
 unfold uV oC jn
 simp only [CD hu hl,jW,Option.bind_some]
 rcases nT l id with ⟨h1,_⟩ | ⟨j,x,h1,h2,_⟩
 ·rw [h1]; rfl
 ·have e:decide ((j:Int) < 0)=false:=by simp
  simp only [h1,e,cond_false,br,h2,Option.bind_some]
  cases bE s <;> cases bE x.bx <;> cases bE x.c8 <;> rfl
theorem FG {u:Nat} (hu:1099511627776≤u) {l:List Kid} (hl:l.length≤1048577) (id s:Int):rk u l id s=some (jn l id s):=by
 unfold rk oN jn
 simp only [CE hu hl,lM,Option.bind_some]
 rcases nT l id with ⟨h1,_⟩ | ⟨j,x,h1,h2,_⟩
 ·rw [h1]; rfl
 ·have e:decide ((j:Int) < 0)=false:=by simp
  simp only [h1,e,cond_false,br,h2,Option.bind_some]
  cases bE s <;> cases bE x.bx <;> cases bE x.c8 <;> rfl
def mR (l:List Kid) (id s:Int):List Kid:=match ci l (ym l id) with
 | some x=>if bE s && bE x.c8 then l.set (ym l id).toNat ⟨x.fd,x.bx,x.bL,x.qP,sZ .i64 x.c8 s⟩ else l
 | none=>l
theorem JR {l:List Kid} (hl:l.length≤1048577):dW (decide (((([]:List Kid)).length+l.length)*40≤140737488355328))=some ():=bB (by simp; omega)
theorem xe (u:Nat) {l:List Kid} (hl:l.length≤1048577):cF u l=some l:=by
 unfold cF
 rw [JR hl]; rfl
theorem DA {u:Nat} (hu:1099511627776≤u) {l:List Kid} (hl:l.length≤1048577) (id s:Int):qh u l id s=some (mR l id s):=by
 unfold qh oD mR
 simp only [JR hl,CD hu hl,jW,Option.bind_some,List.nil_append]
 rcases nT l id with ⟨h1,_⟩ | ⟨j,x,h1,h2,_⟩
 ·rw [h1]; rfl
 ·have e:decide ((j:Int) < 0)=false:=by simp
  simp only [h1,e,cond_false,br,h2,Option.bind_some]
  cases bE s <;> cases bE x.c8 <;> rfl
theorem DC {u:Nat} (hu:1099511627776≤u) {l:List Kid} (hl:l.length≤1048577) (id s:Int):nX u l id s=some (mR l id s):=by
 unfold nX oO sj mR
 simp only [xe u hl,CE hu hl,lM,Option.bind_some]
 rcases nT l id with ⟨h1,_⟩ | ⟨j,x,h1,h2,_⟩
 ·rw [h1]; rfl
 ·have e:decide ((j:Int)≥0)=true:=by simp
  simp only [h1,e,cond_true,br,h2,Option.bind_some]
  cases bE s <;> cases bE x.c8 <;> rfl
theorem JS (l:List Kid) (id s:Int):(mR l id s).length=l.length:=by
 unfold mR
 split
 ·split <;> simp
 ·rfl
def xg (l:List Kid) (id:Int):Nat:=if dD (fun (x:Kid)=>decide (x.fd > id)) l 0 < 0 then l.length else (dD (fun (x:Kid)=>decide (x.fd > id)) l 0).toNat
def oa (l:List Kid) (id want done:Int):List Kid :=
 if aq id 0 6 && bE want && bE done then match ci l (ym l id) with
  | some x=>l.set (ym l id).toNat ⟨x.fd,want,sZ .i64 x.bL done,0,x.c8⟩
  | none=>l.take (xg l id)++[⟨id,want,done,0,0⟩]++l.drop (xg l id)
 else l
theorem L2 (l:List Kid) (id:Int):xg l id≤l.length:=by
 unfold xg
 rcases yk (fun (x:Kid)=>decide (x.fd > id)) l 0 with ⟨h1,_⟩ | ⟨j,x,h1,h2,_⟩
 ·rw [h1]; simp
 ·have:=(List.getElem?_eq_some_iff.1 h2).1
  rw [h1]; split <;> omega
theorem OE {u:Nat} {l:List Kid} (hl:l.length≤1048576) (id w d:Int):∀ (ys:List Kid) (f i:Nat),ys=l.drop i→i≤l.length→ys.length < f →
  lA u f id w d l (i:Int)=Ag u id w d l (if dD (fun (x:Kid)=>decide (x.fd > id)) ys i < 0 then (l.length:Int) else dD (fun (x:Kid)=>decide (x.fd > id)) ys i):=by
 intro ys
 induction ys with
 | nil =>
  intro f i h hi hf
  obtain ⟨f,rfl⟩:∃ j,f=j+1:=⟨f - 1,by omega⟩
  have h1:i=l.length:=by
   have:=congrArg List.length h
   simp at this
   omega
  subst h1
  unfold lA vL
  simp only [List.nil_append,Int.lt_irrefl,decide_false,cond_false,dD]
  rfl
 | cons y ys ih =>
  intro f i h hi hf
  obtain ⟨f,rfl⟩:∃ j,f=j+1:=⟨f - 1,by omega⟩
  have hx:l[i]?=some y:=by
   have:=congrArg List.head? h
   simpa [List.head?_drop] using this.symm
  have hy:ys=l.drop (i+1):=by
   have:=congrArg List.tail h
   simpa [List.tail_drop] using this
  have hlt:i < l.length:=(List.getElem?_eq_some_iff.1 hx).1
  have e:decide ((i:Int) < (l.length:Int))=true:=by simp; omega
  unfold lA vL
  simp only [List.nil_append,e,cond_true,br,hx,Option.bind_some,dD]
  by_cases hc:y.fd≤id
  ·have hc2:¬ (y.fd > id):=by omega
   simp only [hc,hc2,decide_true,decide_false,cond_true,Bool.false_eq_true,↓reduceIte]
   rw [jx (by omega)]
   simp only [List.length_cons] at hf
   exact ih f (i+1) hy (by omega) (by omega)
  ·have hc2:y.fd > id:=by omega
   have:¬ ((i:Int) < 0):=by omega
   simp only [hc,hc2,decide_true,decide_false,cond_false,this,↓reduceIte]
theorem T2 {u:Nat} (hu:1099511627776≤u) {l:List Kid} (hl:l.length≤1048576) (id w d:Int):CU u l id w d=some (oa l id w d):=by
 unfold CU vM oa
 simp only [JR (show l.length≤1048577 by omega),bX,jW,CD hu (show l.length≤1048577 by omega),Option.bind_some,List.nil_append]
 cases h1:aq id 0 6 with
 | false=>rfl
 | true=>cases h2:bE w with
  | false=>rfl
  | true=>cases h3:bE d with
   | false=>rfl
   | true =>
    simp only [Bool.not_true,cond_false,Bool.and_self,↓reduceIte]
    rcases nT l id with ⟨h4,_⟩ | ⟨j,x,h4,h5,_⟩
    ·have e:ci l (-1)=none:=by simp [ci]
     rw [h4,e,show decide ((-1:Int) < 0)=true from rfl,cond_true,show ((0:Int))=((0:Nat):Int) from rfl,OE hl id w d l u 0 rfl (by omega) (by omega)]
     have hp:=L2 l id
     have e2:(if dD (fun (x:Kid)=>decide (x.fd > id)) l 0 < 0 then (l.length:Int) else dD (fun (x:Kid)=>decide (x.fd > id)) l 0)=((xg l id:Nat):Int):=by
      unfold xg; split <;> omega
     rw [e2]
     generalize xg l id=q at hp
     unfold Ag
     simp only [List.nil_append]
     have c1:=eL (a:=0) (b:=q) (n:=l.length) (by omega) hp
     have c2:=eL (a:=q) (b:=l.length) (n:=l.length) hp (by omega)
     rw [show ((0:Nat):Int)=0 from rfl] at c1
     rw [c1,c2]
     simp only [Option.bind_some]
     rw [bB (by simp; omega),bB (by simp; omega),bB (by simp; omega)]
     simp
    ·have e:decide ((j:Int) < 0)=false:=by simp
     simp only [h4,e,cond_false,br,h5,Option.bind_some]
theorem T3 {u:Nat} (hu:1099511627776≤u) {l:List Kid} (hl:l.length≤1048576) (id w d:Int):C8 u l id w d=some (oa l id w d):=by
 unfold C8 wn xE oa
 simp only [xe u (show l.length≤1048577 by omega),bM,lM,CE hu (show l.length≤1048577 by omega),Option.bind_some]
 cases h1:aq id 0 6 with
 | false=>rfl
 | true=>cases h2:bE w with
  | false=>rfl
  | true=>cases h3:bE d with
   | false=>rfl
   | true =>
    simp only [Bool.not_true,cond_false,Bool.and_self,↓reduceIte]
    have hd:sZ .i64 0 d=d:=by
     have:=ce h3
     obtain ⟨n,rfl⟩:∃ n:Nat,d=n:=⟨d.toNat,by omega⟩
     have:=F7 (a:=0) (b:=n) (by omega) (by omega)
     simpa using this
    rcases nT l id with ⟨h4,_⟩ | ⟨j,x,h4,h5,_⟩
    ·have e:ci l (-1)=none:=by simp [ci]
     have hx:ch u l id=some (dD (fun (x:Kid)=>decide (x.fd > id)) l 0):=by
      unfold ch
      rw [k8 u l id () u (by omega) (by omega),lP (fun (x:Kid)=>decide (x.fd > id)) rfl (fun x i k _=>rfl)]
     have hp:=L2 l id
     have key:∀ q:Nat,q≤l.length→wm u w d id l (q:Int)=some (l.take q++[⟨id,w,d,0,0⟩]++l.drop q):=by
      intro q hq
      unfold wm eG wl
      have c:(decide (0≤(q:Int)) && decide ((q:Int)≤l.length) && decide (([(Kid.mk id 0 0 0 0)]).length=1) && decide ((l.length+([(Kid.mk id 0 0 0 0)]).length)*40≤140737488355328))=true:=by simp; omega
      rw [c]
      simp only [cond_true,Option.bind_some,Int.toNat_natCast,br]
      have g:(List.take q l++[Kid.mk id 0 0 0 0]++List.drop q l)[q]?=some (Kid.mk id 0 0 0 0):=by
       rw [List.append_assoc,List.getElem?_append_right (by simp; omega)]
       simp [hq]
      rw [g]
      simp only [Option.bind_some,hd]
      have s:∀ a b:Kid,(List.take q l++[a]++List.drop q l).set q b=List.take q l++[b]++List.drop q l:=by
       intro a b
       rw [List.append_assoc,List.set_append_right _ _ (by simp; omega)]
       simp [hq]
      rw [s,s,s]
     rw [h4,e,hx]
     simp only [show decide ((-1:Int) < 0)=true from rfl,cond_true,Option.bind_some]
     unfold xg at hp ⊢
     by_cases hn:dD (fun (x:Kid)=>decide (x.fd > id)) l 0 < 0
     ·simp only [hn,decide_true,cond_true,↓reduceIte]
      exact key _ (by omega)
     ·simp only [hn,↓reduceIte] at hp
      simp only [hn,decide_false,cond_false,↓reduceIte]
      rw [← key _ hp]
      congr 1
      omega
    ·have e:decide ((j:Int) < 0)=false:=by simp
     unfold wl
     simp only [h4,e,cond_false,br,h5,Option.bind_some,List.set_set]
theorem Ru (l:List Kid) (id w d:Int):(oa l id w d).length≤l.length+1:=by
 unfold oa
 split
 ·split
  ·simp
  ·have:=L2 l id
   simp; omega
 ·omega
theorem Tl {α:Type} {fin:Unit→Option Bool} {body:Nat→Unit→(Unit→Option Bool)→Option Bool} (f:α→Nat→Bool) {xs:List α} {b:Bool} (hf:fin ()=some b) (hb:∀ x i k,xs[i]?=some x→body i () k=bif f x i then k () else some false) :
  ∀ (l:List α) (i:Nat),l=xs.drop i→pT fin body l.length i ()=some (iR f l i && b):=by
 intro l
 induction l with
 | nil=>intro i _; simp [pT,iR,hf]
 | cons x l ih =>
  intro i h
  have hx:xs[i]?=some x:=by
   have:=congrArg List.head? h
   simpa [List.head?_drop] using this.symm
  have hl:l=xs.drop (i+1):=by
   have:=congrArg List.tail h
   simpa [List.tail_drop] using this
  simp only [List.length_cons,pT,iR]
  rw [hb x i _ hx,ih (i+1) hl]
  cases f x i <;> simp
def qz (n:Nat):Int:=if n≤40 then ((2 ^ n - 1:Nat):Int) else 0
theorem DD (u:Nat) {m:af}:qn u m=some (qz m.aD.length):=by
 unfold qn qz
 by_cases h:m.aD.length≤40
 ·rw [OD u h]; simp [h]
 ·have h1:aq (m.aD.length:Int) 0 40=false:=by
   unfold aq; simp; omega
  unfold rZ
  rw [bM,h1]
  simp [h]
theorem DE (u:Nat) {m:af}:qc u m=some (qz m.aD.length):=by
 unfold qc qz
 by_cases h:m.aD.length≤40
 ·rw [Ox u h]; simp [h]
 ·have h1:aq (m.aD.length:Int) 0 40=false:=by
   unfold aq; simp; omega
  unfold rK
  rw [bX,h1]
  simp [h]
theorem Wa (n:Nat):bE (qz n)=true:=by
 unfold qz bE aq
 split
 ·rename_i h
  have h2:(2:Nat) ^ n≤2 ^ 40:=Nat.pow_le_pow_right (by omega) h
  simp; omega
 ·rfl
def sF (a b:Int):Int:=if bE a && bE b then Ap .i64 a b else 0
end Go.Tm.Pu
