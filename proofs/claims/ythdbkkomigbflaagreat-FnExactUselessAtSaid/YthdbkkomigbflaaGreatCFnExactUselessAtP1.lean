/- Plain laws of the functions. -/
import Derived.Test.YthdbkkomigbflaaGreatCFnExactUselessAtD
set_option linter.unusedVariables false
set_option linter.unusedSimpArgs false
namespace Go.Tm.Pu
open Go.Tm
theorem ll {u:Nat} (hu:1099511627776≤u) {x:List Int} {n:Int} (h0:0≤n) (h1:n≤1048576) (hw:(Hk (lc .u8)) x):gN u x n=some (hJ n x.length):=E0 h0 h1 hw.1
theorem lm {u:Nat} (hu:1099511627776≤u) {x:List Int} (h:x.length≤68719476736):iB u x=some x:=by
 have hlen:x.length≤68719476736:=by omega
 unfold iB
 rw [xW,bA (by rw [Int.toNat_natCast]; omega)]
 simp only [Option.bind_some,Int.toNat_natCast]
 rw [H2 u x _ u (by omega) (by omega),lH]
 ·rfl
 ·intro y i s k hx hi
  unfold BD
  rw [br,List.getElem?_eq_getElem hi]; simp
theorem lp {u:Nat} (hu:1099511627776≤u) {x:List Int} (h:x.length≤68719476736):iK u x x=some true:=by
 have hlen:x.length≤68719476736:=by omega
 unfold iK
 simp only [bne_self_eq_false,cond_false]
 rw [IB u x x () u (by omega) (by omega),qp (xs:=x) _ x 0 (by simp)]
 ·rfl
 ·intro y i k hx
  unfold BV
  rw [br,hx]; simp
theorem Dp (u:Nat) (x:c7):p5 u x=some x:=by
 unfold p5
 rfl
theorem Dq (u:Nat) (x:c7):qn u x x=some true:=by
 unfold qn
 simp []
def eY (x:cd):Nat:=x.fB.length
theorem R5 {u:Nat} (hu:1099511627776≤u) {x:cd} {n:Int} (h0:0≤n) (h1:n≤1048576) (hw:cd.wf x):xg u x n=some (hJ n (eY x)):=by
 unfold xg eY
 rw [ll hu h0 h1 hw.2.2.1]
 simp only [Option.bind_some]
 exact su
theorem R6 {u:Nat} (hu:1099511627776≤u) {x:cd} (h:eY x≤68719476736):xk u x=some x:=by
 unfold eY at h
 unfold xk
 rw [lm hu (by omega),Dp u _]; rfl
theorem R7 {u:Nat} (hu:1099511627776≤u) {x:cd} (h:eY x≤68719476736):xF u x x=some true:=by
 unfold eY at h
 unfold xF
 simp [lp hu (x:=x.fB) (by omega),Dq]
theorem R8 (u:Nat) (x:Kid):xj u x=some x:=by
 unfold xj
 rfl
theorem R9 (u:Nat) (x:Kid):xE u x x=some true:=by
 unfold xE
 simp []
theorem Sa (u:Nat) (x:bM):xi u x=some x:=by
 unfold xi
 rfl
theorem Sb (u:Nat) (x:bM):xD u x x=some true:=by
 unfold xD
 simp []
theorem Qm {u:Nat} (hu:1099511627776≤u) {x:List Int} {n:Int} (h0:0≤n) (h1:n≤1048576) (hw:(Hk (lc .i64)) x):Bz u x n=some (hJ n x.length):=E0 h0 h1 hw.1
theorem Qn {u:Nat} (hu:1099511627776≤u) {x:List Int} (h:x.length≤68719476736):yk u x=some x:=by
 have hlen:x.length≤68719476736:=by omega
 unfold yk
 rw [xW,bA (by rw [Int.toNat_natCast]; omega)]
 simp only [Option.bind_some,Int.toNat_natCast]
 rw [Ki u x _ u (by omega) (by omega),lH]
 ·rfl
 ·intro y i s k hx hi
  unfold CC
  rw [br,List.getElem?_eq_getElem hi]; simp
theorem Qo {u:Nat} (hu:1099511627776≤u) {x:List Int} (h:x.length≤68719476736):yJ u x x=some true:=by
 have hlen:x.length≤68719476736:=by omega
 unfold yJ
 simp only [bne_self_eq_false,cond_false]
 rw [KO u x x () u (by omega) (by omega),qp (xs:=x) _ x 0 (by simp)]
 ·rfl
 ·intro y i k hx
  unfold C5
  rw [br,hx]; simp
def u6 (x:co):Nat:=x.cy.length
theorem Qp {u:Nat} (hu:1099511627776≤u) {x:co} {n:Int} (h0:0≤n) (h1:n≤1048576) (hw:co.wf x):yi u x n=some (hJ n (u6 x)):=by
 unfold yi u6
 rw [Qm hu h0 h1 hw.1]
 simp only [Option.bind_some]
 exact su
theorem Qq {u:Nat} (hu:1099511627776≤u) {x:co} (h:u6 x≤68719476736):ym u x=some x:=by
 unfold u6 at h
 unfold ym
 rw [Qn hu (by omega)]; rfl
theorem Qr {u:Nat} (hu:1099511627776≤u) {x:co} (h:u6 x≤68719476736):yK u x x=some true:=by
 unfold u6 at h
 unfold yK
 simp [Qo hu (x:=x.cy) (by omega)]
theorem Qs (u:Nat) (x:vg):yj u x=some x:=by
 unfold yj
 rfl
theorem Qt (u:Nat) (x:vg):yI u x x=some true:=by
 unfold yI
 simp []
theorem Qu {u:Nat} (hu:1099511627776≤u) {x:List bM} {n:Int} (h0:0≤n) (h1:n≤1048576) (hw:(Hk bM.wf) x):BA u x n=some (hJ n x.length):=E0 h0 h1 hw.1
theorem Qv {u:Nat} (hu:1099511627776≤u) {x:List bM} (h:x.length≤68719476736):yn u x=some x:=by
 have hlen:x.length≤68719476736:=by omega
 unfold yn
 rw [xW,bA (by rw [Int.toNat_natCast]; omega)]
 simp only [Option.bind_some,Int.toNat_natCast]
 rw [Kk u x _ u (by omega) (by omega),lH]
 ·rfl
 ·intro y i s k hx hi
  unfold CD
  rw [Sa u _]
  rw [br,List.getElem?_eq_getElem hi]; simp
theorem Qw {u:Nat} (hu:1099511627776≤u) {x:List bM} (h:x.length≤68719476736):yL u x x=some true:=by
 have hlen:x.length≤68719476736:=by omega
 unfold yL
 simp only [bne_self_eq_false,cond_false]
 rw [KQ u x x () u (by omega) (by omega),qp (xs:=x) _ x 0 (by simp)]
 ·rfl
 ·intro y i k hx
  unfold C6
  rw [br,hx]
  simp only [Option.bind_some]
  rw [Sb]; simp
def lL (x:af):Nat:=x.aD.length
theorem Hw {u:Nat} (hu:1099511627776≤u) {x:af} {n:Int} (h0:0≤n) (h1:n≤1048576) (hw:af.wf x):pF u x n=some (hJ n (lL x)):=by
 unfold pF lL
 rw [Qu hu h0 h1 hw.2.2.2.1]
 simp only [Option.bind_some]
 exact su
theorem Hx {u:Nat} (hu:1099511627776≤u) {x:af} (h:lL x≤68719476736):pG u x=some x:=by
 unfold lL at h
 unfold pG
 rw [Qv hu (by omega)]; rfl
theorem Hy {u:Nat} (hu:1099511627776≤u) {x:af} (h:lL x≤68719476736):pQ u x x=some true:=by
 unfold lL at h
 unfold pQ
 simp [Qw hu (x:=x.aD) (by omega)]
def rv (x:aW):Nat:=x.bh.length
theorem NN {u:Nat} (hu:1099511627776≤u) {x:aW} {n:Int} (h0:0≤n) (h1:n≤1048576) (hw:aW.wf x):rD u x n=some (hJ n (rv x)):=by
 unfold rD rv
 rw [ll hu h0 h1 hw.2.1]
 simp only [Option.bind_some]
 exact su
theorem NO {u:Nat} (hu:1099511627776≤u) {x:aW} (h:rv x≤68719476736):vm u x=some x:=by
 unfold rv at h
 unfold vm
 rw [lm hu (by omega)]; rfl
theorem NP {u:Nat} (hu:1099511627776≤u) {x:aW} (h:rv x≤68719476736):wq u x x=some true:=by
 unfold rv at h
 unfold wq
 simp [lp hu (x:=x.bh) (by omega)]
theorem Qx {u:Nat} (hu:1099511627776≤u) {x:List Kid} {n:Int} (h0:0≤n) (h1:n≤1048576) (hw:(Hk Kid.wf) x):uE u x n=some (hJ n x.length):=E0 h0 h1 hw.1
theorem Qy {u:Nat} (hu:1099511627776≤u) {x:List Kid} (h:x.length≤68719476736):yo u x=some x:=by
 have hlen:x.length≤68719476736:=by omega
 unfold yo
 rw [xW,bA (by rw [Int.toNat_natCast]; omega)]
 simp only [Option.bind_some,Int.toNat_natCast]
 rw [Km u x _ u (by omega) (by omega),lH]
 ·rfl
 ·intro y i s k hx hi
  unfold CE
  rw [R8 u _]
  rw [br,List.getElem?_eq_getElem hi]; simp
theorem Qz {u:Nat} (hu:1099511627776≤u) {x:List Kid} (h:x.length≤68719476736):yM u x x=some true:=by
 have hlen:x.length≤68719476736:=by omega
 unfold yM
 simp only [bne_self_eq_false,cond_false]
 rw [KT u x x () u (by omega) (by omega),qp (xs:=x) _ x 0 (by simp)]
 ·rfl
 ·intro y i k hx
  unfold C7
  rw [br,hx]
  simp only [Option.bind_some]
  rw [R9]; simp
def dx (x:aA):Nat:=lL x.av+(rv x.a7+(x.aN.length))
theorem QA {u:Nat} (hu:1099511627776≤u) {x:aA} {n:Int} (h0:0≤n) (h1:n≤1048576) (hw:aA.wf x):uF u x n=some (hJ n (dx x)):=by
 unfold uF dx
 rw [Hw hu h0 h1 hw.2.2.2.1]
 simp only [Option.bind_some]
 exact nu (c:=rv x.a7+(x.aN.length)) (f:=fun r=>(rD u x.a7 r).bind fun r1=>bif decide (r1 < 0) then some (-1) else ((uE u x.aN r1).bind fun r2=>bif decide (r2 < 0) then some (-1) else (some r2))) (fun v0 h2v0 h3v0=>by rw [NN hu h2v0 (by omega) hw.2.2.2.2.1]; simp only [Option.bind_some]; exact nu (c:=x.aN.length) (f:=fun r=>(uE u x.aN r).bind fun r2=>bif decide (r2 < 0) then some (-1) else (some r2)) (fun v1 h2v1 h3v1=>by rw [Qx hu h2v1 (by omega) hw.2.2.2.2.2.2.1]; simp only [Option.bind_some]; exact su) h2v0) h0
theorem QB {u:Nat} (hu:1099511627776≤u) {x:aA} (h:dx x≤68719476736):uI u x=some x:=by
 unfold dx at h
 unfold uI
 rw [Hx hu (by omega),NO hu (by omega),Qy hu (by omega)]; rfl
theorem QC {u:Nat} (hu:1099511627776≤u) {x:aA} (h:dx x≤68719476736):uY u x x=some true:=by
 unfold dx at h
 unfold uY
 simp [Hy hu (x:=x.av) (by omega),NP hu (x:=x.a7) (by omega),Qz hu (x:=x.aN) (by omega)]
theorem QD {u:Nat} (hu:1099511627776≤u) {x:List cd} {n:Int} (h0:0≤n) (h1:n≤1048576) (hw:(Hk cd.wf) x):uG u x n=some (hJ n (fO eY x)) :=
 Dc (c:=MY eY x) (f:=fun r=>my u u x r 0) (fun hm r h2 h3=>by
  rw [Kg u x r u (by omega) (by omega)]
  exact E1 (f:=eY) (fun s=>rfl) (fun y i s k hy hs0 hs1=>by unfold CB; rw [R5 hu hs0 hs1 (hw.2 y hy)]; rfl) x 0 r (fun _ h=>h) h2 (by omega)) h0 h1 hw.1
theorem QE {u:Nat} (hu:1099511627776≤u) {x:List cd} (h:Pu.fO eY x≤68719476736):yp u x=some x:=by
 have hlen:x.length≤68719476736:=by have:=gE (f:=eY) x; omega
 unfold yp
 rw [xW,bA (by rw [Int.toNat_natCast]; omega)]
 simp only [Option.bind_some,Int.toNat_natCast]
 rw [Ko u x _ u (by omega) (by omega),lH]
 ·rfl
 ·intro y i s k hx hi
  unfold CF
  rw [R6 hu (Nat.le_trans (gD (f:=eY) hx) h)]
  rw [br,List.getElem?_eq_getElem hi]; simp
theorem QF {u:Nat} (hu:1099511627776≤u) {x:List cd} (h:Pu.fO eY x≤68719476736):yN u x x=some true:=by
 have hlen:x.length≤68719476736:=by have:=gE (f:=eY) x; omega
 unfold yN
 simp only [bne_self_eq_false,cond_false]
 rw [KV u x x () u (by omega) (by omega),qp (xs:=x) _ x 0 (by simp)]
 ·rfl
 ·intro y i k hx
  unfold C8
  rw [br,hx]
  simp only [Option.bind_some]
  rw [R7 hu (Nat.le_trans (gD (f:=eY) (List.mem_of_getElem? hx)) h)]; simp
def dn (x:aG):Nat:=x.fA.length+(x.fB.length+(Pu.fO eY x.fP))
theorem QG {u:Nat} (hu:1099511627776≤u) {x:aG} {n:Int} (h0:0≤n) (h1:n≤1048576) (hw:aG.wf x):uH u x n=some (hJ n (dn x)):=by
 unfold uH dn
 rw [ll hu h0 h1 hw.1]
 simp only [Option.bind_some]
 exact nu (c:=x.fB.length+(Pu.fO eY x.fP)) (f:=fun r=>(gN u x.fB r).bind fun r1=>bif decide (r1 < 0) then some (-1) else ((uG u x.fP r1).bind fun r2=>bif decide (r2 < 0) then some (-1) else (some r2))) (fun v0 h2v0 h3v0=>by rw [ll hu h2v0 (by omega) hw.2.1]; simp only [Option.bind_some]; exact nu (c:=Pu.fO eY x.fP) (f:=fun r=>(uG u x.fP r).bind fun r2=>bif decide (r2 < 0) then some (-1) else (some r2)) (fun v1 h2v1 h3v1=>by rw [QD hu h2v1 (by omega) hw.2.2.2.1]; simp only [Option.bind_some]; exact su) h2v0) h0
theorem QH {u:Nat} (hu:1099511627776≤u) {x:aG} (h:dn x≤68719476736):uJ u x=some x:=by
 unfold dn at h
 unfold uJ
 rw [lm hu (by omega),lm hu (by omega),Dp u _,QE hu (by omega)]; rfl
theorem QI {u:Nat} (hu:1099511627776≤u) {x:aG} (h:dn x≤68719476736):uZ u x x=some true:=by
 unfold dn at h
 unfold uZ
 simp [lp hu (x:=x.fA) (by omega),lp hu (x:=x.fB) (by omega),Dq,QF hu (x:=x.fP) (by omega)]
theorem QJ (u:Nat) (x:dC):uK u x=some x:=by
 unfold uK
 rfl
theorem QK (u:Nat) (x:dC):u1 u x x=some true:=by
 unfold u1
 simp []
def dt (x:ba):Nat:=x.fB.length
theorem NQ {u:Nat} (hu:1099511627776≤u) {x:ba} {n:Int} (h0:0≤n) (h1:n≤1048576) (hw:ba.wf x):rC u x n=some (hJ n (dt x)):=by
 unfold rC dt
 rw [ll hu h0 h1 hw.1]
 simp only [Option.bind_some]
 exact su
theorem NR {u:Nat} (hu:1099511627776≤u) {x:ba} (h:dt x≤68719476736):rE u x=some x:=by
 unfold dt at h
 unfold rE
 rw [lm hu (by omega)]; rfl
theorem NS {u:Nat} (hu:1099511627776≤u) {x:ba} (h:dt x≤68719476736):so u x x=some true:=by
 unfold dt at h
 unfold so
 simp [lp hu (x:=x.fB) (by omega)]
theorem Lx {u:Nat} (hu:1099511627776≤u) {x:List ba} {n:Int} (h0:0≤n) (h1:n≤1048576) (hw:(Hk ba.wf) x):pY u x n=some (hJ n (fO dt x)) :=
 Dc (c:=MY dt x) (f:=fun r=>jn u u x r 0) (fun hm r h2 h3=>by
  rw [GW u x r u (by omega) (by omega)]
  exact E1 (f:=dt) (fun s=>rfl) (fun y i s k hy hs0 hs1=>by unfold Av; rw [NQ hu hs0 hs1 (hw.2 y hy)]; rfl) x 0 r (fun _ h=>h) h2 (by omega)) h0 h1 hw.1
theorem Ly {u:Nat} (hu:1099511627776≤u) {x:List ba} (h:Pu.fO dt x≤68719476736):sW u x=some x:=by
 have hlen:x.length≤68719476736:=by have:=gE (f:=dt) x; omega
 unfold sW
 rw [xW,bA (by rw [Int.toNat_natCast]; omega)]
 simp only [Option.bind_some,Int.toNat_natCast]
 rw [GY u x _ u (by omega) (by omega),lH]
 ·rfl
 ·intro y i s k hx hi
  unfold Ay
  rw [NR hu (Nat.le_trans (gD (f:=dt) hx) h)]
  rw [br,List.getElem?_eq_getElem hi]; simp
theorem Lz {u:Nat} (hu:1099511627776≤u) {x:List ba} (h:Pu.fO dt x≤68719476736):tq u x x=some true:=by
 have hlen:x.length≤68719476736:=by have:=gE (f:=dt) x; omega
 unfold tq
 simp only [bne_self_eq_false,cond_false]
 rw [G8 u x x () u (by omega) (by omega),qp (xs:=x) _ x 0 (by simp)]
 ·rfl
 ·intro y i k hx
  unfold A2
  rw [br,hx]
  simp only [Option.bind_some]
  rw [NS hu (Nat.le_trans (gD (f:=dt) (List.mem_of_getElem? hx)) h)]; simp
theorem NT {u:Nat} (hu:1099511627776≤u) {x:List aA} {n:Int} (h0:0≤n) (h1:n≤1048576) (hw:(Hk aA.wf) x):pn u x n=some (hJ n (fO dx x)) :=
 Dc (c:=MY dx x) (f:=fun r=>kU u u x r 0) (fun hm r h2 h3=>by
  rw [HY u x r u (by omega) (by omega)]
  exact E1 (f:=dx) (fun s=>rfl) (fun y i s k hy hs0 hs1=>by unfold BB; rw [QA hu hs0 hs1 (hw.2 y hy)]; rfl) x 0 r (fun _ h=>h) h2 (by omega)) h0 h1 hw.1
theorem NU {u:Nat} (hu:1099511627776≤u) {x:List aA} (h:Pu.fO dx x≤68719476736):vn u x=some x:=by
 have hlen:x.length≤68719476736:=by have:=gE (f:=dx) x; omega
 unfold vn
 rw [xW,bA (by rw [Int.toNat_natCast]; omega)]
 simp only [Option.bind_some,Int.toNat_natCast]
 rw [H4 u x _ u (by omega) (by omega),lH]
 ·rfl
 ·intro y i s k hx hi
  unfold BE
  rw [QB hu (Nat.le_trans (gD (f:=dx) hx) h)]
  rw [br,List.getElem?_eq_getElem hi]; simp
theorem NV {u:Nat} (hu:1099511627776≤u) {x:List aA} (h:Pu.fO dx x≤68719476736):ws u x x=some true:=by
 have hlen:x.length≤68719476736:=by have:=gE (f:=dx) x; omega
 unfold ws
 simp only [bne_self_eq_false,cond_false]
 rw [ID u x x () u (by omega) (by omega),qp (xs:=x) _ x 0 (by simp)]
 ·rfl
 ·intro y i k hx
  unfold BW
  rw [br,hx]
  simp only [Option.bind_some]
  rw [QC hu (Nat.le_trans (gD (f:=dx) (List.mem_of_getElem? hx)) h)]; simp
theorem NW {u:Nat} (hu:1099511627776≤u) {x:List aG} {n:Int} (h0:0≤n) (h1:n≤1048576) (hw:(Hk aG.wf) x):nE u x n=some (hJ n (fO dn x)) :=
 Dc (c:=MY dn x) (f:=fun r=>kV u u x r 0) (fun hm r h2 h3=>by
  rw [H0 u x r u (by omega) (by omega)]
  exact E1 (f:=dn) (fun s=>rfl) (fun y i s k hy hs0 hs1=>by unfold BC; rw [QG hu hs0 hs1 (hw.2 y hy)]; rfl) x 0 r (fun _ h=>h) h2 (by omega)) h0 h1 hw.1
theorem NX {u:Nat} (hu:1099511627776≤u) {x:List aG} (h:Pu.fO dn x≤68719476736):vo u x=some x:=by
 have hlen:x.length≤68719476736:=by have:=gE (f:=dn) x; omega
 unfold vo
 rw [xW,bA (by rw [Int.toNat_natCast]; omega)]
 simp only [Option.bind_some,Int.toNat_natCast]
 rw [H6 u x _ u (by omega) (by omega),lH]
 ·rfl
 ·intro y i s k hx hi
  unfold BF
  rw [QH hu (Nat.le_trans (gD (f:=dn) hx) h)]
  rw [br,List.getElem?_eq_getElem hi]; simp
theorem NY {u:Nat} (hu:1099511627776≤u) {x:List aG} (h:Pu.fO dn x≤68719476736):wt u x x=some true:=by
 have hlen:x.length≤68719476736:=by have:=gE (f:=dn) x; omega
 unfold wt
 simp only [bne_self_eq_false,cond_false]
 rw [IF u x x () u (by omega) (by omega),qp (xs:=x) _ x 0 (by simp)]
 ·rfl
 ·intro y i k hx
  unfold BX
  rw [br,hx]
  simp only [Option.bind_some]
  rw [QI hu (Nat.le_trans (gD (f:=dn) (List.mem_of_getElem? hx)) h)]; simp
def cV (x:au):Nat:=x.fB.length
theorem LA {u:Nat} (hu:1099511627776≤u) {x:au} {n:Int} (h0:0≤n) (h1:n≤1048576) (hw:au.wf x):pZ u x n=some (hJ n (cV x)):=by
 unfold pZ cV
 rw [ll hu h0 h1 hw.2.2.1]
 simp only [Option.bind_some]
 exact su
theorem LB {u:Nat} (hu:1099511627776≤u) {x:au} (h:cV x≤68719476736):p6 u x=some x:=by
 unfold cV at h
 unfold p6
 rw [lm hu (by omega)]; rfl
theorem LC {u:Nat} (hu:1099511627776≤u) {x:au} (h:cV x≤68719476736):qo u x x=some true:=by
 unfold cV at h
 unfold qo
 simp [lp hu (x:=x.fB) (by omega)]
theorem Jw {u:Nat} (hu:1099511627776≤u) {x:List au} {n:Int} (h0:0≤n) (h1:n≤1048576) (hw:(Hk au.wf) x):iA u x n=some (hJ n (fO cV x)) :=
 Dc (c:=MY cV x) (f:=fun r=>iz u u x r 0) (fun hm r h2 h3=>by
  rw [F4 u x r u (by omega) (by omega)]
  exact E1 (f:=cV) (fun s=>rfl) (fun y i s k hy hs0 hs1=>by unfold zM; rw [LA hu hs0 hs1 (hw.2 y hy)]; rfl) x 0 r (fun _ h=>h) h2 (by omega)) h0 h1 hw.1
theorem Jx {u:Nat} (hu:1099511627776≤u) {x:List au} (h:Pu.fO cV x≤68719476736):qN u x=some x:=by
 have hlen:x.length≤68719476736:=by have:=gE (f:=cV) x; omega
 unfold qN
 rw [xW,bA (by rw [Int.toNat_natCast]; omega)]
 simp only [Option.bind_some,Int.toNat_natCast]
 rw [F6 u x _ u (by omega) (by omega),lH]
 ·rfl
 ·intro y i s k hx hi
  unfold zN
  rw [LB hu (Nat.le_trans (gD (f:=cV) hx) h)]
  rw [br,List.getElem?_eq_getElem hi]; simp
theorem Jy {u:Nat} (hu:1099511627776≤u) {x:List au} (h:Pu.fO cV x≤68719476736):ro u x x=some true:=by
 have hlen:x.length≤68719476736:=by have:=gE (f:=cV) x; omega
 unfold ro
 simp only [bne_self_eq_false,cond_false]
 rw [Ge u x x () u (by omega) (by omega),qp (xs:=x) _ x 0 (by simp)]
 ·rfl
 ·intro y i k hx
  unfold zV
  rw [br,hx]
  simp only [Option.bind_some]
  rw [LC hu (Nat.le_trans (gD (f:=cV) (List.mem_of_getElem? hx)) h)]; simp
theorem NZ {u:Nat} (hu:1099511627776≤u) {x:List dC} {n:Int} (h0:0≤n) (h1:n≤1048576) (hw:(Hk dC.wf) x):jK u x n=some (hJ n x.length):=E0 h0 h1 hw.1
theorem N0 {u:Nat} (hu:1099511627776≤u) {x:List dC} (h:x.length≤68719476736):vq u x=some x:=by
 have hlen:x.length≤68719476736:=by omega
 unfold vq
 rw [xW,bA (by rw [Int.toNat_natCast]; omega)]
 simp only [Option.bind_some,Int.toNat_natCast]
 rw [H8 u x _ u (by omega) (by omega),lH]
 ·rfl
 ·intro y i s k hx hi
  unfold BG
  rw [QJ u _]
  rw [br,List.getElem?_eq_getElem hi]; simp
theorem N1 {u:Nat} (hu:1099511627776≤u) {x:List dC} (h:x.length≤68719476736):wv u x x=some true:=by
 have hlen:x.length≤68719476736:=by omega
 unfold wv
 simp only [bne_self_eq_false,cond_false]
 rw [IH u x x () u (by omega) (by omega),qp (xs:=x) _ x 0 (by simp)]
 ·rfl
 ·intro y i k hx
  unfold BY
  rw [br,hx]
  simp only [Option.bind_some]
  rw [QK]; simp
def eT (x:World):Nat:=u6 x.fT+(x.jh.length+(Pu.fO dt x.fZ+(Pu.fO dx x.fN+(Pu.fO dn x.fD+(Pu.fO cV x.eo+(x.pX.length))))))
theorem N2 {u:Nat} (hu:1099511627776≤u) {x:World} {n:Int} (h0:0≤n) (h1:n≤1048576) (hw:World.wf x):vk u x n=some (hJ n (eT x)):=by
 unfold vk eT
 rw [Qp hu h0 h1 hw.2.1]
 simp only [Option.bind_some]
 exact nu (c:=x.jh.length+(Pu.fO dt x.fZ+(Pu.fO dx x.fN+(Pu.fO dn x.fD+(Pu.fO cV x.eo+(x.pX.length)))))) (f:=fun r=>(gN u x.jh r).bind fun r1=>bif decide (r1 < 0) then some (-1) else ((pY u x.fZ r1).bind fun r2=>bif decide (r2 < 0) then some (-1) else ((pn u x.fN r2).bind fun r3=>bif decide (r3 < 0) then some (-1) else ((nE u x.fD r3).bind fun r4=>bif decide (r4 < 0) then some (-1) else ((iA u x.eo r4).bind fun r5=>bif decide (r5 < 0) then some (-1) else ((jK u x.pX r5).bind fun r6=>bif decide (r6 < 0) then some (-1) else (some r6))))))) (fun v0 h2v0 h3v0=>by rw [ll hu h2v0 (by omega) hw.2.2.1]; simp only [Option.bind_some]; exact nu (c:=Pu.fO dt x.fZ+(Pu.fO dx x.fN+(Pu.fO dn x.fD+(Pu.fO cV x.eo+(x.pX.length))))) (f:=fun r=>(pY u x.fZ r).bind fun r2=>bif decide (r2 < 0) then some (-1) else ((pn u x.fN r2).bind fun r3=>bif decide (r3 < 0) then some (-1) else ((nE u x.fD r3).bind fun r4=>bif decide (r4 < 0) then some (-1) else ((iA u x.eo r4).bind fun r5=>bif decide (r5 < 0) then some (-1) else ((jK u x.pX r5).bind fun r6=>bif decide (r6 < 0) then some (-1) else (some r6)))))) (fun v1 h2v1 h3v1=>by rw [Lx hu h2v1 (by omega) hw.2.2.2.1]; simp only [Option.bind_some]; exact nu (c:=Pu.fO dx x.fN+(Pu.fO dn x.fD+(Pu.fO cV x.eo+(x.pX.length)))) (f:=fun r=>(pn u x.fN r).bind fun r3=>bif decide (r3 < 0) then some (-1) else ((nE u x.fD r3).bind fun r4=>bif decide (r4 < 0) then some (-1) else ((iA u x.eo r4).bind fun r5=>bif decide (r5 < 0) then some (-1) else ((jK u x.pX r5).bind fun r6=>bif decide (r6 < 0) then some (-1) else (some r6))))) (fun v2 h2v2 h3v2=>by rw [NT hu h2v2 (by omega) hw.2.2.2.2.1]; simp only [Option.bind_some]; exact nu (c:=Pu.fO dn x.fD+(Pu.fO cV x.eo+(x.pX.length))) (f:=fun r=>(nE u x.fD r).bind fun r4=>bif decide (r4 < 0) then some (-1) else ((iA u x.eo r4).bind fun r5=>bif decide (r5 < 0) then some (-1) else ((jK u x.pX r5).bind fun r6=>bif decide (r6 < 0) then some (-1) else (some r6)))) (fun v3 h2v3 h3v3=>by rw [NW hu h2v3 (by omega) hw.2.2.2.2.2.1]; simp only [Option.bind_some]; exact nu (c:=Pu.fO cV x.eo+(x.pX.length)) (f:=fun r=>(iA u x.eo r).bind fun r5=>bif decide (r5 < 0) then some (-1) else ((jK u x.pX r5).bind fun r6=>bif decide (r6 < 0) then some (-1) else (some r6))) (fun v4 h2v4 h3v4=>by rw [Jw hu h2v4 (by omega) hw.2.2.2.2.2.2.1]; simp only [Option.bind_some]; exact nu (c:=x.pX.length) (f:=fun r=>(jK u x.pX r).bind fun r6=>bif decide (r6 < 0) then some (-1) else (some r6)) (fun v5 h2v5 h3v5=>by rw [NZ hu h2v5 (by omega) hw.2.2.2.2.2.2.2.1]; simp only [Option.bind_some]; exact su) h2v4) h2v3) h2v2) h2v1) h2v0) h0
theorem N3 {u:Nat} (hu:1099511627776≤u) {x:World} (h:eT x≤68719476736):po u x=some x:=by
 unfold eT at h
 unfold po
 rw [Qs u _,Qq hu (by omega),lm hu (by omega),Ly hu (by omega),NU hu (by omega),NX hu (by omega),Jx hu (by omega),N0 hu (by omega)]; rfl
theorem N4 {u:Nat} (hu:1099511627776≤u) {x:World} (h:eT x≤68719476736):ww u x x=some true:=by
 unfold eT at h
 unfold ww
 simp [Qt,Qr hu (x:=x.fT) (by omega),lp hu (x:=x.jh) (by omega),Lz hu (x:=x.fZ) (by omega),NV hu (x:=x.fN) (by omega),NY hu (x:=x.fD) (by omega),Jy hu (x:=x.eo) (by omega),N1 hu (x:=x.pX) (by omega)]
def am (n a b:Int):Bool:=decide (a≤n) && decide (n≤b)
def fQ (size n:Int):Bool:=am size 2 6 && am n 0 (40*size)
def di (size n:Int):Int:=if fQ size n then (n+size - 1) / size else 0
def cU (size n i:Int):Int×Int:=if am i 0 (di size n - 1) then (i*size,min size (n - i*size)) else (0,0)
theorem b9 {n a b:Int} (h:am n a b=true):a≤n∧n≤b:=by simpa [am] using h
theorem UQ {n a b:Int} (h:am n a b=false):n < a∨b < n:=by
 simp [am] at h; omega
theorem bG (u:Nat) (n a b:Int):bC u n a b=some (am n a b):=by
 unfold bC am
 by_cases h:a≤n <;> simp [h]
theorem bU (u:Nat) (n a b:Int):bB u n a b=some (am n a b):=by
 unfold bB am
 by_cases h:a≤n <;> simp [h]
theorem wS (u:Nat) (s n:Int):pe u s n=some (fQ s n):=by
 unfold pe fQ
 simp only [bG,Option.bind_some]
 cases h:am s 2 6 with
 | false=>simp
 | true =>
  have:=b9 h
  simp (disch:=omega) only [cond_true,Bool.true_and,lw]
theorem wT (u:Nat) (s n:Int):o7 u s n=some (fQ s n):=by
 unfold o7 fQ
 simp only [bU,Option.bind_some]
 cases h:am s 2 6 with
 | false=>simp
 | true =>
  have:=b9 h
  simp (disch:=omega) only [cond_true,Bool.true_and,lw]
  rw [Int.mul_comm]
theorem Dr {s n:Int} (h:fQ s n=true):2≤s∧s≤6∧0≤n∧n≤40*s:=by
 simp [fQ,am] at h; omega
def As (a b:Int):Int:=if am a 0 1000000000000 && am b 1 1000000000000 then (a+b - 1) / b else 0
theorem N5 (u:Nat) (a b:Int):vT u a b=some (As a b):=by
 unfold vT As t7
 simp only [bG,Option.bind_some]
 cases h:am a 0 1000000000000 with
 | false=>simp
 | true =>
  cases h2:am b 1 1000000000000 with
  | false=>simp
  | true =>
   have:=b9 h
   have:=b9 h2
   have hb:(b == 0)=false:=by simp; omega
   simp (disch:=omega) [dW,dJ,cB,Pv,hb]
theorem N6 (u:Nat) (a b:Int):vw u a b=some (As a b):=by
 unfold vw As tM
 simp only [bU,Option.bind_some]
 cases h:am a 0 1000000000000 with
 | false=>simp
 | true =>
  cases h2:am b 1 1000000000000 with
  | false=>simp
  | true =>
   have:=b9 h
   have:=b9 h2
   have hb:(b == 0)=false:=by simp; omega
   simp (disch:=omega) [dW,dJ,cB,Pv,hb]
theorem Mr {s n:Int} (h:fQ s n=true):As n s=(n+s - 1) / s:=by
 have:=Dr h
 have h1:am n 0 1000000000000=true:=by simp [am]; omega
 have h2:am s 1 1000000000000=true:=by simp [am]; omega
 simp [As,h1,h2]
theorem wU (u:Nat) (s n:Int):pf u s n=some (di s n):=by
 unfold pf di
 simp only [wS,N5,Option.bind_some]
 cases h:fQ s n with
 | false=>simp
 | true=>simp [Mr h]
theorem kf (u:Nat) (s n:Int):o8 u s n=some (di s n):=by
 unfold o8 di
 simp only [wT,N6,Option.bind_some]
 cases h:fQ s n with
 | false=>simp
 | true=>simp [Mr h]
theorem gT (s n:Int):0≤di s n∧di s n≤40:=by
 unfold di
 split
 ·rename_i h
  have h:=Dr h
  refine ⟨Int.ediv_nonneg (by omega) (by omega),?_⟩
  have:(n+s - 1) / s < 41:=Int.ediv_lt_of_lt_mul (by omega) (by omega)
  omega
 ·omega
theorem LD {s n i:Int} (h:am i 0 (di s n - 1)=true):fQ s n=true∧0≤i∧i≤39:=by
 have h1:=b9 h
 have:=gT s n
 refine ⟨?_,by omega,by omega⟩
 cases h2:fQ s n with
 | true=>rfl
 | false=>simp [di,h2] at h1; omega
theorem LE {s i:Int} (h1:2≤s) (h2:s≤6) (h3:0≤i) (h4:i≤39):0≤i*s∧i*s≤234 :=
 ⟨Int.mul_nonneg h3 (by omega),Int.le_trans (Int.mul_le_mul h4 h2 (by omega) (by omega)) (by omega)⟩
theorem oU (u:Nat) (s n i:Int):ja u s n i=some (cU s n i):=by
 unfold ja cU
 have hb:=gT s n
 simp (disch:=omega) only [wU,bG,Option.bind_some,cB]
 cases h:am i 0 (di s n - 1) with
 | false=>simp
 | true =>
  have ⟨h1,h2,h3⟩:=LD h
  have h1:=Dr h1
  have h4:=LE (s:=s) (i:=i) (by omega) (by omega) h2 h3
  simp (disch:=omega) [lw,cB]
  omega
theorem Sc (u:Nat) (a b:Int):AD u a b=some (min a b):=by
 unfold AD
 by_cases h:b < a <;> simp [h] <;> omega
theorem mN (u:Nat) (s n i:Int):f0 u s n i=some (cU s n i):=by
 unfold f0 cU
 have hb:=gT s n
 simp (disch:=omega) only [kf,bU,Option.bind_some,cB]
 cases h:am i 0 (di s n - 1) with
 | false=>simp
 | true =>
  have ⟨h1,h2,h3⟩:=LD h
  have h1:=Dr h1
  have h4:=LE (s:=s) (i:=i) (by omega) (by omega) h2 h3
  simp (disch:=omega) [lw,cB,Sc]
def aF (b:List Int):Prop:=∀ x∈b,0≤x∧x≤255
def sA:List Int→Int→Int→Int×Int
 | [],x,y=>(x,y)
 | c :: b,x,y=>sA b ((x+c) % 251) ((y+(x+c) % 251) % 251)
def cx (b:List Int):Int:=(sA b 0 0).1+251*(sA b 0 0).2
theorem Fi (b:List Int):∀ (x y:Int),0≤x→x < 251→0≤y→y < 251→0≤(sA b x y).1∧(sA b x y).1 < 251∧0≤(sA b x y).2∧(sA b x y).2 < 251:=by
 induction b with
 | nil=>intro x y h1 h2 h3 h4; exact ⟨h1,h2,h3,h4⟩
 | cons c b ih =>
  intro x y h1 h2 h3 h4
  exact ih _ _ (by omega) (by omega) (by omega) (by omega)
theorem DW (b:List Int):0≤cx b∧cx b≤63000:=by
 have:=Fi b 0 0 (by omega) (by omega) (by omega) (by omega)
 unfold cx; omega
theorem Se (u:Nat):∀ (p b:List Int) (i:Nat) (x y:Int),aF b→0≤x→x < 251→0≤y→y < 251 →
  bt (CH u p) (xn u p) b i (x,y)=qO u (sA b x y).1 (sA b x y).2:=by
 intro p b
 induction b with
 | nil=>intros; rfl
 | cons c b ih =>
  intro i x y hb h1 h2 h3 h4
  have hc:=hb c (by simp)
  have e1:rt .i64 (aX .i64 x (IntKind.wrap .i64 c)) 251=(x+c) % 251:=by
   rw [wrap_i64 (by omega) (by omega),dJ (by omega) (by omega),Db (by omega)]
  have e2:rt .i64 (aX .i64 y ((x+c) % 251)) 251=(y+(x+c) % 251) % 251:=by
   rw [dJ (by omega) (by omega),Db (by omega)]
  simp only [bt,xn,e1,e2]
  exact ih (i+1) _ _ (fun z hz=>hb z (by simp [hz])) (by omega) (by omega) (by omega) (by omega)
theorem Sf (u:Nat):∀ (p b:List Int) (i:Nat) (x y:Int),aF b→0≤x→x < 251→0≤y→y < 251 →
  bt (CW u p) (xw u p) b i (x,y)=q8 u (sA b x y).1 (sA b x y).2:=by
 intro p b
 induction b with
 | nil=>intros; rfl
 | cons c b ih =>
  intro i x y hb h1 h2 h3 h4
  have hc:=hb c (by simp)
  have e1:rt .i64 (aX .i64 x (IntKind.wrap .i64 c)) 251=(x+c) % 251:=by
   rw [wrap_i64 (by omega) (by omega),dJ (by omega) (by omega),Db (by omega)]
  have e2:rt .i64 (aX .i64 y ((x+c) % 251)) 251=(y+(x+c) % 251) % 251:=by
   rw [dJ (by omega) (by omega),Db (by omega)]
  simp only [bt,xw,e1,e2]
  exact ih (i+1) _ _ (fun z hz=>hb z (by simp [hz])) (by omega) (by omega) (by omega) (by omega)
theorem wV {u:Nat} (hu:1099511627776≤u) {b:List Int} (hb:aF b) (hl:b.length≤1073741824):o9 u b=some (cx b):=by
 unfold o9
 rw [Kp u b (0,0) u (by omega) (by omega),Se u b b 0 0 0 hb (by omega) (by omega) (by omega) (by omega)]
 have:=Fi b 0 0 (by omega) (by omega) (by omega) (by omega)
 unfold qO cx
 simp (disch:=omega) only [lw,dJ]
theorem S6 {n m:Int} (hm:0 < m):(n.tmod m+m).tmod m=n % m:=by
 rcases Int.le_total 0 n with h | h
 ·rw [Int.tmod_eq_emod_of_nonneg h,Int.tmod_eq_emod_of_nonneg (by have:=Int.emod_nonneg n (show m≠0 by omega); omega)]
  simp
 ·have h1:n.tmod m=-((-n) % m):=by
   rw [show n=-(-n) by omega,Int.neg_tmod,Int.tmod_eq_emod_of_nonneg (by omega)]; simp
  have h2:=Int.emod_nonneg (-n) (show m≠0 by omega)
  have h3:=Int.emod_lt_of_pos (-n) hm
  rw [h1,Int.tmod_eq_emod_of_nonneg (by omega)]
  have:(-((-n) % m)+m) % m=n % m:=by
   have e:-n=m*(-n / m)+(-n) % m:=(Int.mul_ediv_add_emod (-n) m).symm
   have e2:-((-n) % m)+m=n+m*(-n / m+1):=by
    rw [Int.mul_add]; omega
   rw [e2,Int.add_mul_emod_self_left]
  exact this
theorem QL {n m:Int} (hm:0 < m):-m < n.tmod m∧n.tmod m < m:=by
 rcases Int.le_total 0 n with h | h
 ·rw [Int.tmod_eq_emod_of_nonneg h]
  have h2:=Int.emod_nonneg n (show m≠0 by omega)
  have h3:=Int.emod_lt_of_pos n hm
  omega
 ·have h1:n.tmod m=-((-n) % m):=by
   rw [show n=-(-n) by omega,Int.neg_tmod,Int.tmod_eq_emod_of_nonneg (by omega)]; simp
  have h2:=Int.emod_nonneg (-n) (show m≠0 by omega)
  have h3:=Int.emod_lt_of_pos (-n) hm
  omega
theorem TG (u:Nat) (n m:Int):Ao u n m=some (if am m 1 1000000000000 then n % m else 0):=by
 unfold Ao
 simp only [bG,Option.bind_some]
 cases h:am m 1 1000000000000 with
 | false=>simp
 | true =>
  have h3:=b9 h
  have hb:(m == 0)=false:=by simp; omega
  have h4:=QL (n:=n) (m:=m) (by omega)
  simp only [hb,Bool.not_true,cond_false,Bool.not_false,UJ,Option.bind_some]
  have e1:rt .i64 n m=n.tmod m:=rfl
  rw [e1,dJ (by omega) (by omega)]
  show some ((n.tmod m+m).tmod m)=_
  rw [S6 (by omega)]; simp
theorem TH (u:Nat) (x y:Int):CU u x y=some (x % 251+251*(y % 251)):=by
 unfold CU
 have h:am 251 1 1000000000000=true:=by decide
 simp only [TG,Option.bind_some,h,if_true]
 simp (disch:=omega) only [lw,dJ]
theorem Bd {u:Nat} (hu:1099511627776≤u) {b:List Int} (hb:aF b) (hl:b.length≤1073741824):pg u b=some (cx b):=by
 unfold pg
 rw [KF u b (0,0) u (by omega) (by omega),Sf u b b 0 0 0 hb (by omega) (by omega) (by omega) (by omega)]
 have:=Fi b 0 0 (by omega) (by omega) (by omega) (by omega)
 unfold q8 cx
 simp only [TH,Option.bind_some]
 congr 1
 omega
def kg:Nat→Int→List Int
 | 0,_=>[]
 | n+1,s=>kg n (s / 256)++[s % 256]
def tz:Nat→Int→Option (List Int)
 | 0,s=>if s=1 then some [] else none
 | n+1,s=>if s=1 then some [] else if s < 256 then none else (tz n (s / 256)).map (·++[s % 256])
def ce (s:Int):List Int×Bool:=if s < 1 then ([],false) else match tz 6 s with | some b=>(b,true) | none=>([],false)
def B6:Nat→Int→Nat
 | 0,_=>0
 | k+1,t=>if 1 < t then B6 k (t / 256)+1 else 0
def uj:Nat→Int→Int
 | 0,t=>t
 | k+1,t=>if 1 < t then uj k (t / 256) else t
theorem Yf:∀ (k:Nat) (t:Int),B6 k t≤k:=by
 intro k
 induction k with
 | zero=>intro t; simp [B6]
 | succ k ih=>intro t; unfold B6; have:=ih (t / 256); split <;> omega
theorem QM:∀ (k:Nat) (t:Int),uj k t=t / 256 ^ B6 k t:=by
 intro k
 induction k with
 | zero=>intro t; simp [uj,B6]
 | succ k ih =>
  intro t
  unfold uj B6
  split
  ·rw [ih,Int.ediv_ediv_of_nonneg (by omega),Int.pow_succ,Int.mul_comm]
  ·simp
theorem LF:∀ (k:Nat) (t:Int),0≤t→tz k t=if uj k t=1 then some (kg (B6 k t) t) else none:=by
 intro k
 induction k with
 | zero=>intro t h; simp [tz,uj,B6,kg]
 | succ k ih =>
  intro t h
  unfold tz uj B6
  by_cases h1:t=1
  ·subst h1; simp [kg]
  ·rw [if_neg h1]
   by_cases h2:1 < t
   ·simp only [if_pos h2]
    by_cases h3:t < 256
    ·have:t / 256=0:=Int.ediv_eq_zero_of_lt h h3
     rw [if_pos h3,this]
     have:uj k 0=0:=by rw [QM]; simp
     rw [this]; simp
    ·rw [if_neg h3,ih _ (by omega)]
     split <;> simp [kg]
   ·have:t=0:=by omega
    subst this; simp
theorem Yg:∀ (k:Nat) (t:Int),0≤t→t / 256 ^ k≤uj k t:=by
 intro k
 induction k with
 | zero=>intro t h; simp [uj]
 | succ k ih =>
  intro t h
  unfold uj
  split
  ·have:=ih (t / 256) (by omega)
   rwa [Int.ediv_ediv_of_nonneg (by omega),Int.mul_comm,← Int.pow_succ] at this
  ·exact Int.ediv_le_self _ h
theorem TI:∀ (n:Nat) (s:Int),aF (kg n s):=by
 intro n
 induction n with
 | zero=>intro s x hx; simp [kg] at hx
 | succ n ih =>
  intro s x hx
  simp only [kg,List.mem_append,List.mem_singleton] at hx
  rcases hx with h | h
  ·exact ih _ x h
  ·omega
theorem Sg:∀ (n:Nat) (s:Int),(kg n s).length=n:=by
 intro n
 induction n with
 | zero=>intro s; rfl
 | succ n ih=>intro s; simp [kg,ih]
theorem DX {s:Int} {b:List Int} (h:ce s=(b,true)):1≤s∧s / 256 ^ b.length=1∧b=kg b.length s∧b.length≤6:=by
 unfold ce at h
 split at h
 ·cases h
 ·rename_i h1
  rw [LF 6 s (by omega)] at h
  have he:=QM 6 s
  have hn:=Yf 6 s
  by_cases h2:uj 6 s=1
  ·simp only [h2,if_true,Prod.mk.injEq,and_true] at h
   subst h
   rw [Sg]
   exact ⟨by omega,by rw [← he]; exact h2,rfl,hn⟩
  ·simp [h2] at h
theorem tA (s:Int):aF (ce s).1∧(ce s).1.length≤6:=by
 match h:ce s with
 | (b,true) =>
  have h:=DX h
  exact ⟨by rw [h.2.2.1]; exact TI _ _,h.2.2.2⟩
 | (b,false) =>
  have:b=[]:=by
   unfold ce at h
   split at h
   ·simp at h; exact h.symm ▸ rfl
   ·split at h <;> simp at h; exact h.symm ▸ rfl
  subst this
  exact ⟨by simp [aF],by simp⟩
theorem YZ (a:Int) (h:0≤a):IntKind.wrap .u8 (fx .i64 a 255)=a % 256:=by
 have:fx .i64 a 255=a % 256:=by
  unfold fx
  have e:(BitVec.ofInt (IntKind.bits .i64) a &&& BitVec.ofInt (IntKind.bits .i64) 255).toNat=(a % 256).toNat:=by
   change (BitVec.ofInt 64 a &&& BitVec.ofInt 64 255).toNat=(a % 256).toNat
   rw [BitVec.toNat_and,BitVec.toNat_ofInt,BitVec.toNat_ofInt,show ((255:Int) % ((2 ^ 64:Nat):Int)).toNat=2 ^ 8 - 1 by decide,Nat.and_two_pow_sub_one_eq_mod]
   omega
  rw [e]
  exact (wrap_i64 (by omega) (by omega)).trans (by omega)
 rw [this,uh]; omega
theorem Hz (u:Nat):∀ (k n:Nat) (s:Int) (acc:List Int),n < k→1≤s→s < 256 ^ n*2→acc.length+n≤1000 →
  m8 u k s acc=some (match tz n s with | some b=>(b++acc,true) | none=>([],false)):=by
 intro k
 induction k with
 | zero=>intro n s acc h; omega
 | succ k ih =>
  intro n s acc hk h1 h2 h3
  unfold m8
  by_cases h4:s=1
  ·subst h4
   cases n <;> simp [tz,ze]
  ·have h5:s > 1:=by omega
   cases n with
   | zero=>simp at h2; omega
   | succ n =>
    simp only [h5,decide_true,cond_true,tz,if_neg h4]
    by_cases h6:s < 256
    ·simp [h6]
    ·have hw:([IntKind.wrap .u8 (fx .i64 s 255)])=[s % 256]:=by rw [YZ _ (by omega)]
     simp only [h6,decide_false,cond_false,if_false,Z3,hw]
     rw [bA (by simp; omega)]
     simp only [Option.bind_some]
     rw [ih n (s / 256) _ (by omega) (by omega) (by rw [Int.pow_succ] at h2; omega) (by simp; omega)]
     cases tz n (s / 256) <;> simp
theorem UR {s:Int} (h:562949953421311 < s):ce s=([],false):=by
 unfold ce
 rw [if_neg (by omega),LF 6 s (by omega)]
 have:=Yg 6 s (by omega)
 have e:(256:Int) ^ 6=281474976710656:=by decide
 rw [e] at this
 rw [if_neg (by omega)]
theorem zF {u:Nat} (hu:1099511627776≤u) (s:Int):pp u s=some (ce s):=by
 unfold pp
 simp only [bU,Option.bind_some]
 cases h:am s 1 562949953421311 with
 | false =>
  rcases UQ h with h | h
  ·simp [ce,h]
  ·rw [UR h]; simp
 | true =>
  have h:=b9 h
  have e:(256:Int) ^ 6=281474976710656:=by decide
  simp only [Bool.not_true,cond_false]
  rw [Hz u u 6 s [] (by omega) (by omega) (by rw [e]; omega) (by simp)]
  unfold ce
  rw [if_neg (by omega)]
  cases tz 6 s <;> simp
theorem VI (s:Int) (j:Nat) (h:j≤8):nY .i64 s (8*(j:Int))=s / 256 ^ j:=by
 have:=Tt .i64 s (8*j) (by simp [IntKind.bits]; omega)
 rw [show ((8*j:Nat):Int)=8*(j:Int) by simp] at this
 rw [this,show (256:Int)=2 ^ 8 by decide,← Int.pow_mul]
theorem Xl {α ρ:Type} {fin:List α→Option ρ} {body:Nat→List α→(List α→Option ρ)→Option ρ} (f:Nat→α) (n:Nat) (hb:∀ i s k,i < n→s.length=n→body i s k=k (s.set i (f i))) :
  ∀ (m i:Nat) (s:List α),i+m=n→s.length=n→s.take i=(List.range i).map f→qz fin body m i s=fin ((List.range n).map f):=by
 intro m
 induction m with
 | zero =>
  intro i s h1 h2 h3
  simp only [qz]
  congr 1
  rw [List.take_of_length_le (by omega)] at h3
  rw [h3,show i=n by omega]
 | succ m ih =>
  intro i s h1 h2 h3
  simp only [qz]
  rw [hb i s _ (by omega) h2]
  refine ih (i+1) _ (by omega) (by simp [h2]) ?_
  rw [List.take_add_one,List.take_set_of_le (Nat.le_refl i),h3,List.getElem?_set_self (by omega),List.range_succ,List.map_append]
  rfl
theorem TJ:∀ (n:Nat) (s:Int),kg n s=(List.range n).map fun i=>s / 256 ^ (n - 1 - i) % 256:=by
 intro n
 induction n with
 | zero=>intro s; rfl
 | succ n ih =>
  intro s
  rw [kg,ih,List.range_succ,List.map_append]
  congr 1
  ·apply List.map_congr_left
   intro i hi
   have hi:i < n:=by simpa using hi
   rw [Int.ediv_ediv_of_nonneg (by omega),Int.mul_comm,← Int.pow_succ,show (n - 1 - i).succ=n+1 - 1 - i by omega]
  ·simp
theorem HA {u:Nat} (hu:1099511627776≤u) (s:Int) (n:Nat) (hn:n≤6):pM u s (n:Int)=some (if 1≤s∧s / 256 ^ n=1 then (kg n s,true) else ([],false)):=by
 unfold pM
 by_cases h1:s < 1
 ·have:¬ (1≤s):=by omega
  simp [h1,this,ni]
 ·rw [lw (by omega) (by omega),VI _ _ (by omega),bA (by omega)]
  by_cases h2:s / 256 ^ n=1
  ·have h3:(1:Int)≤s:=by omega
   simp only [h1,decide_false,cond_false,Option.bind_some,h2,h3,true_and,if_true]
   unfold ni
   rw [show ((1:Int) != 1)=false by decide]
   simp only [cond_false,beq_self_eq_true,Bool.or_true,Bool.and_true,Int.toNat_natCast]
   rw [bA (by omega),bA (by omega)]
   simp only [Option.bind_some]
   rw [Iq u s n _ u (by simp; omega) (by simp; omega)]
   simp only [List.length_replicate,Int.toNat_natCast]
   rw [Xl (fun i=>s / 256 ^ (n - 1 - i) % 256) n _ n 0 _ (by omega) (by simp) (by simp),← TJ]
   ·rfl
   ·intro i t k hi ht
    unfold BN
    have e:cu .i64 (cu .i64 (n:Int) 1) (i:Int)=((n - 1 - i:Nat):Int):=by
     rw [cB (a:=(n:Int)) (by omega) (by omega),cB (by omega) (by omega)]; omega
    rw [e,lw (by omega) (by omega),VI _ _ (by omega),bA (by omega),uh,br,List.getElem?_eq_getElem (by omega)]
    simp
  ·have:(s / 256 ^ n != 1)=true:=by simpa using h2
   simp only [h1,decide_false,cond_false,Option.bind_some,this]
   simp [ni,h2]
theorem HB {u:Nat} (hu:1099511627776≤u) (s:Int):∀ (m n k:Nat),n+m=6→m < k→gP u k s (n:Int)=pM u s ((n+B6 m (s / 256 ^ n):Nat):Int):=by
 intro m
 induction m with
 | zero =>
  intro n k h1 h2
  obtain ⟨k,rfl⟩:∃ j,k=j+1:=⟨k - 1,by omega⟩
  unfold gP
  have:¬ ((n:Int) < 6):=by omega
  simp [this,pN,B6]
 | succ m ih =>
  intro n k h1 h2
  obtain ⟨k,rfl⟩:∃ j,k=j+1:=⟨k - 1,by omega⟩
  unfold gP
  have h3:(n:Int) < 6:=by omega
  rw [lw (by omega) (by omega),VI _ _ (by omega),bA (by omega)]
  simp only [h3,decide_true,cond_true,Option.bind_some,pN,B6]
  by_cases h4:s / 256 ^ n > 1
  ·have h4':1 < s / 256 ^ n:=h4
   simp only [h4,decide_true,cond_true,h4',if_true]
   rw [jw (by omega),ih (n+1) k (by omega) (by omega),Int.pow_succ,← Int.ediv_ediv_of_nonneg (Int.le_of_lt (Int.pow_pos (by omega)))]
   congr 1
   omega
  ·have h4':¬ 1 < s / 256 ^ n:=h4
   simp only [h4,decide_false,cond_false,h4',if_false]
   simp
theorem Ew {u:Nat} (hu:1099511627776≤u) (s:Int):nG u s=some (ce s):=by
 unfold nG
 have:=HB hu s 6 0 u (by omega) (by omega)
 simp only [Int.natCast_zero,Int.pow_zero,Int.ediv_one,Nat.zero_add] at this
 rw [this,HA hu s _ (Yf 6 s)]
 unfold ce
 by_cases h:s < 1
 ·have:¬ (1≤s):=by omega
  simp [h,this]
 ·rw [if_neg h,LF 6 s (by omega),QM]
  have:1≤s:=by omega
  by_cases h2:s / 256 ^ B6 6 s=1 <;> simp [h2,this]
def oV:List Int→Int→Int
 | [],s=>s
 | c :: b,s=>oV b (256*s+c)
def eg (b:List Int):bM:=if 6 < b.length then ⟨0,0⟩ else ⟨cx b,oV b 1⟩
theorem Yh (a b:List Int):∀ s,oV (a++b) s=oV b (oV a s):=by
 induction a with
 | nil=>intro s; rfl
 | cons c a ih=>intro s; exact ih _
theorem US:∀ (n:Nat) (s:Int),s / 256 ^ n=1→oV (kg n s) 1=s:=by
 intro n
 induction n with
 | zero=>intro s h; simpa [kg,oV] using h.symm
 | succ n ih =>
  intro s h
  rw [kg,Yh,ih]
  ·simp only [oV]; omega
  ·rw [Int.ediv_ediv_of_nonneg (by omega),Int.mul_comm,← Int.pow_succ]; exact h
theorem Cr {s:Int} {b:List Int} (h:ce s=(b,true)):eg b=⟨cx b,s⟩:=by
 have ⟨h1,h2,h3,h4⟩:=DX h
 unfold eg
 have:=US b.length s h2
 rw [← h3] at this
 rw [if_neg (by omega),this]
theorem VJ:∀ (b:List Int) (s:Int) (n:Nat),aF b→0≤s→s < 256 ^ n*2→0≤oV b s∧oV b s < 256 ^ (n+b.length)*2:=by
 intro b
 induction b with
 | nil=>intro s n _ h1 h2; exact ⟨h1,h2⟩
 | cons c b ih =>
  intro s n hb h1 h2
  have hc:=hb c (by simp)
  have:=ih (256*s+c) (n+1) (fun z hz=>hb z (by simp [hz])) (by omega) (by rw [Int.pow_succ]; omega)
  simp only [List.length_cons,oV]
  rwa [show n+(b.length+1)=n+1+b.length by omega]
theorem TK (u:Nat):∀ (p b:List Int) (i:Nat) (s:Int) (n:Nat),aF b→0≤s→s < 256 ^ n*2→n+b.length≤6 →
  bt (D9 u p) (zd u p) b i s=sZ u p (oV b s):=by
 intro p b
 induction b with
 | nil=>intros; rfl
 | cons c b ih =>
  intro i s n hb h1 h2 h3
  have hc:=hb c (by simp)
  simp only [List.length_cons] at h3
  have hp:(256:Int) ^ n≤1099511627776:=by
   rcases (show n=0∨n=1∨n=2∨n=3∨n=4∨n=5 by omega) with rfl | rfl | rfl | rfl | rfl | rfl <;> decide
  simp only [bt,zd]
  rw [wrap_i64 (by omega) (by omega),lw (by omega) (by omega),dJ (by omega) (by omega)]
  exact ih (i+1) _ (n+1) (fun z hz=>hb z (by simp [hz])) (by omega) (by rw [Int.pow_succ]; omega) (by omega)
theorem n6 {u:Nat} (hu:1099511627776≤u) {b:List Int} (hb:aF b) (hl:b.length≤1073741824):gY u b=some (eg b):=by
 unfold gY eg
 by_cases h:6 < b.length
 ·have:(b.length:Int) > 6:=by omega
  simp [h,this]
 ·have:¬ ((b.length:Int) > 6):=by omega
  simp only [this,decide_false,cond_false,h,if_false]
  rw [MJ u b 1 u (by omega) (by omega),TK u b b 0 1 0 hb (by omega) (by decide) (by omega)]
  unfold sZ
  rw [wV hu hb hl]
  rfl
def yT (size len:Int) (i:Nat) (s:bM):Bool:=(ce s.fS).2 && ((ce s.fS).1.length == (cU size len i).2) && (cx (ce s.fS).1 == s.fW)
def oX (size len:Int):List bM→Nat→Bool
 | [],_=>true
 | s :: l,i=>yT size len i s && oX size len l (i+1)
def cS (m:af):Bool :=
 if m.aP=0 then m.aS == 0 && m.aY == 0 && m.aD.length == 0
 else am m.aP 1 1000000 && fQ m.aS m.aY && ((m.aD.length:Int) == di m.aS m.aY) && oX m.aS m.aY m.aD 0
theorem Ct (a b:Int):(a != b)=!(a == b):=rfl
theorem TL {u:Nat} (hu:1099511627776≤u) (m:af):∀ (l:List bM) (i:Nat),bt (Ec u m) (zp u m) l i ()=some (oX m.aS m.aY l i):=by
 intro l
 induction l with
 | nil=>intro i; rfl
 | cons s l ih =>
  intro i
  have hb:=tA s.fS
  simp only [bt,zp,Ew hu,oU,Option.bind_some,oX,yT,lF,ih,Bd hu hb.1 (show _≤_ by omega),Ct]
  cases (ce s.fS).2 <;> cases (((ce s.fS).1.length:Int) == (cU m.aS m.aY ↑i).2) <;> cases (cx (ce s.fS).1 == s.fW) <;> simp
theorem TM {u:Nat} (hu:1099511627776≤u) (m:af):∀ (l:List bM) (i:Nat),l=m.aD.drop i→bt (Ea u m) (zf u m) l i ()=some (oX m.aS m.aY l i):=by
 intro l
 induction l with
 | nil=>intro i _; rfl
 | cons s l ih =>
  intro i hd
  have hb:=tA s.fS
  have hx:m.aD[i]?=some s:=by
   have:=congrArg List.head? hd
   simpa [List.head?_drop] using this.symm
  have hl:l=m.aD.drop (i+1):=by
   have:=congrArg List.tail hd
   simpa [List.tail_drop] using this
  simp only [bt,zf,zF hu,mN,Option.bind_some,oX,yT,lE,ih (i+1) hl,n6 hu hb.1 (show _≤_ by omega),Ct,br,hx]
  cases h:(ce s.fS).2 with
  | false=>simp
  | true =>
   have h2:=Cr (s:=s.fS) (b:=(ce s.fS).1) (by rw [← h])
   rw [h2]
   have h3:(([cx (ce s.fS).1,s.fS]:List Int) == [s.fW,s.fS])=(cx (ce s.fS).1 == s.fW):=by simp
   simp only [h3]
   cases (((ce s.fS).1.length:Int) == (cU m.aS m.aY ↑i).2) <;> cases (cx (ce s.fS).1 == s.fW) <;> simp
theorem n7 {u:Nat} (hu:1099511627776≤u) (m:af) (hl:m.aD.length≤1073741824):mF u m=some (cS m):=by
 unfold mF cS iG tg
 simp only [bG,wS,wU,Option.bind_some,Ct,MR u m () u (by omega) (by omega),TL hu]
 have e0:(((m.aD.length:Int)) == 0)=(m.aD.length == 0):=by rw [Bool.eq_iff_iff]; simp
 by_cases h:m.aP=0
 ·have:am m.aP 1 1000000=false:=by rw [h]; rfl
  simp only [h,if_true,beq_self_eq_true,cond_true,e0] at this ⊢
  cases (m.aS == 0) <;> cases (m.aY == 0) <;> cases (m.aD.length == 0) <;> simp [this]
 ·have:(m.aP == 0)=false:=by simpa using h
  simp only [h,if_false,this,cond_false,Option.bind_some]
  cases am m.aP 1 1000000 <;> cases fQ m.aS m.aY <;> cases ((m.aD.length:Int) == di m.aS m.aY) <;> simp
theorem iy {u:Nat} (hu:1099511627776≤u) (m:af) (hl:m.aD.length≤1073741824):jp u m=some (cS m):=by
 unfold jp cS s0
 simp only [bU,wT,kf,Option.bind_some,Ct,MK u m () u (by omega) (by omega),TM hu m m.aD 0 (by simp)]
 have e0:(((m.aD.length:Int)) == 0)=(m.aD.length == 0):=by rw [Bool.eq_iff_iff]; simp
 by_cases h:m.aP=0
 ·simp only [h,if_true,beq_self_eq_true,cond_true,e0]
  cases (m.aS == 0) <;> cases (m.aY == 0) <;> cases (m.aD.length == 0) <;> simp
 ·have:(m.aP == 0)=false:=by simpa using h
  simp only [h,if_false,this,cond_false,Option.bind_some]
  cases am m.aP 1 1000000 <;> cases fQ m.aS m.aY <;> cases ((m.aD.length:Int) == di m.aS m.aY) <;> simp
def cW:Nat→Int→List Int
 | 0,n=>[n % 256]
 | k+1,n=>if n≤127 then [n % 256] else (n % 128+128) :: cW k (n / 128)
def aQ (b:List Int) (n:Int):List Int:=if am n 0 1000000000000 then b++cW 9 n else b
theorem Zl:∀ a:Nat,a < 256→(a ||| 128)=a % 128+128:=by decide +kernel
theorem ZA (a:Int) (h1:0≤a) (h2:a < 256):sV .u8 a 128=a % 128+128:=by
 unfold sV
 have e:(BitVec.ofInt (IntKind.bits .u8) a ||| BitVec.ofInt (IntKind.bits .u8) 128).toNat=(a % 128+128).toNat:=by
  change (BitVec.ofInt 8 a ||| BitVec.ofInt 8 128).toNat=_
  rw [BitVec.toNat_or,BitVec.toNat_ofInt,BitVec.toNat_ofInt,show ((128:Int) % ((2 ^ 8:Nat):Int)).toNat=128 by decide,Zl _ (by omega)]
  omega
 rw [e,uh]; omega
theorem TN (a:Int):fx .i64 a 127=a % 128:=by
 unfold fx
 have e:(BitVec.ofInt (IntKind.bits .i64) a &&& BitVec.ofInt (IntKind.bits .i64) 127).toNat=(a % 128).toNat:=by
  change (BitVec.ofInt 64 a &&& BitVec.ofInt 64 127).toNat=(a % 128).toNat
  rw [BitVec.toNat_and,BitVec.toNat_ofInt,BitVec.toNat_ofInt,show ((127:Int) % ((2 ^ 64:Nat):Int)).toNat=2 ^ 7 - 1 by decide,Nat.and_two_pow_sub_one_eq_mod]
  omega
 rw [e]
 exact (wrap_i64 (by omega) (by omega)).trans (by omega)
theorem WH (a:Int) (h1:0≤a) (h2:a < 256):sV .i64 a 128=a % 128+128:=by
 unfold sV
 have e:(BitVec.ofInt (IntKind.bits .i64) a ||| BitVec.ofInt (IntKind.bits .i64) 128).toNat=(a % 128+128).toNat:=by
  change (BitVec.ofInt 64 a ||| BitVec.ofInt 64 128).toNat=_
  rw [BitVec.toNat_or,BitVec.toNat_ofInt,BitVec.toNat_ofInt,show ((128:Int) % ((2 ^ 64:Nat):Int)).toNat=128 by decide,show (a % ((2 ^ 64:Nat):Int)).toNat=a.toNat by omega,Zl _ (by omega)]
  omega
 rw [e]
 exact (wrap_i64 (by omega) (by omega)).trans (by omega)
theorem DY:∀ (k:Nat) (n:Int),(cW k n).length≤k+1:=by
 intro k
 induction k with
 | zero=>intro n; simp [cW]
 | succ k ih =>
  intro n
  unfold cW
  have:=ih (n / 128)
  split <;> simp <;> omega
theorem S7:∀ (k:Nat) (n:Int),aF (cW k n):=by
 intro k
 induction k with
 | zero=>intro n x hx; simp [cW] at hx; omega
 | succ k ih =>
  intro n x hx
  unfold cW at hx
  split at hx
  ·simp at hx; omega
  ·rcases List.mem_cons.1 hx with h | h
   ·omega
   ·exact ih _ x h
theorem Fj {a b:List Int} (h:aF a) (k:aF b):aF (a++b):=by
 intro x hx
 rcases List.mem_append.1 hx with g | g
 ·exact h x g
 ·exact k x g
theorem Fk (u:Nat):∀ (j k:Nat) (n:Int) (b:List Int),n < 128 ^ (j+1)→j < k→b.length+j≤1099511627776→iJ u k b n=some (b++cW j n):=by
 intro j
 induction j with
 | zero =>
  intro k n b h1 h2 h3
  obtain ⟨k,rfl⟩:∃ i,k=i+1:=⟨k - 1,by omega⟩
  unfold iJ
  have:¬ (n≥128):=by simp at h1; omega
  simp only [this,decide_false,cond_false,qD,cW,uh]
  rw [bA (by simp; omega)]; rfl
 | succ j ih =>
  intro k n b h1 h2 h3
  obtain ⟨k,rfl⟩:∃ i,k=i+1:=⟨k - 1,by omega⟩
  unfold iJ
  by_cases h:n≥128
  ·have h':¬ n≤127:=by omega
   simp only [h,decide_true,cond_true,cW,h',if_false,uh,X6]
   rw [bA (by simp; omega),ZA _ (by omega) (by omega)]
   simp only [Option.bind_some]
   rw [ih k (n / 128) _ (by rw [Int.pow_succ] at h1; omega) (by omega) (by simp; omega),show n % 256 % 128=n % 128 by omega]
   simp
  ·have h':n≤127:=by omega
   simp only [h,decide_false,cond_false,cW,h',if_true,qD,uh]
   rw [bA (by simp; omega)]; rfl
theorem Gj (u:Nat):∀ (j k:Nat) (n:Int) (b:List Int),n < 128 ^ (j+1)→j < k→b.length+j≤1099511627776→jq u k b n=some (b++cW j n):=by
 intro j
 induction j with
 | zero =>
  intro k n b h1 h2 h3
  obtain ⟨k,rfl⟩:∃ i,k=i+1:=⟨k - 1,by omega⟩
  unfold jq
  have:¬ (n > 127):=by simp at h1; omega
  simp only [this,decide_false,cond_false,rM,cW,uh]
  rw [bA (by simp; omega)]; rfl
 | succ j ih =>
  intro k n b h1 h2 h3
  obtain ⟨k,rfl⟩:∃ i,k=i+1:=⟨k - 1,by omega⟩
  unfold jq
  by_cases h:n > 127
  ·have h':¬ n≤127:=by omega
   simp only [h,decide_true,cond_true,cW,h',if_false,uh,X6,TN]
   rw [bA (by simp; omega),WH _ (by omega) (by omega)]
   simp only [Option.bind_some]
   rw [ih k (n / 128) _ (by rw [Int.pow_succ] at h1; omega) (by omega) (by simp; omega),show (n % 128 % 128+128) % 256=n % 128+128 by omega]
   simp
  ·have h':n≤127:=by omega
   simp only [h,decide_false,cond_false,cW,h',if_true,rM,uh]
   rw [bA (by simp; omega)]; rfl
theorem Jz (u:Nat):∀ (j k:Nat) (n:Int) (b:List Int),n < 128 ^ (j+1)→j < k→b.length+j≤1099511627776→mD u k n b=some (b++cW j n):=by
 intro j
 induction j with
 | zero =>
  intro k n b h1 h2 h3
  obtain ⟨k,rfl⟩:∃ i,k=i+1:=⟨k - 1,by omega⟩
  unfold mD
  have:¬ (n > 127):=by simp at h1; omega
  simp only [this,decide_false,cond_false,vJ,cW,uh]
  rw [bA (by simp; omega)]; rfl
 | succ j ih =>
  intro k n b h1 h2 h3
  obtain ⟨k,rfl⟩:∃ i,k=i+1:=⟨k - 1,by omega⟩
  unfold mD
  by_cases h:n > 127
  ·have h':¬ n≤127:=by omega
   simp only [h,decide_true,cond_true,cW,h',if_false,uh,X6,TN]
   rw [bA (by simp; omega),WH _ (by omega) (by omega)]
   simp only [Option.bind_some]
   rw [ih k (n / 128) _ (by rw [Int.pow_succ] at h1; omega) (by omega) (by simp; omega),show (n % 128 % 128+128) % 256=n % 128+128 by omega]
   simp
  ·have h':n≤127:=by omega
   simp only [h,decide_false,cond_false,cW,h',if_true,vJ,uh]
   rw [bA (by simp; omega)]; rfl
theorem ZB:(128:Int) ^ (9+1)=1180591620717411303424:=by decide
theorem B7 {u:Nat} (hu:1099511627776≤u) {b:List Int} {n:Int} (hl:b.length≤1073741824) (hn:n≤9223372036854775807):oJ u b n=some (b++cW 9 n) :=
 Fk u 9 u n b (by rw [ZB]; omega) (by omega) (by omega)
theorem LG {u:Nat} (hu:1099511627776≤u) {b:List Int} {n:Int} (hl:b.length≤1073741824) (hn:n≤9223372036854775807):s7 u b n=some (b++cW 9 n) :=
 Gj u 9 u n b (by rw [ZB]; omega) (by omega) (by omega)
theorem gK (u:Nat) {b:List Int} (hl:b.length≤1073741824):gj u b=some b:=by
 unfold gj
 rw [bA (by simp; omega),bA (by simp; omega)]
 simp [dW]
theorem dL {u:Nat} (hu:1099511627776≤u) {b:List Int} {n:Int} (hl:b.length≤1073741824):eJ u b n=some (aQ b n):=by
 unfold eJ aQ
 simp only [gK u hl,bG,Option.bind_some]
 cases h:am n 0 1000000000000 with
 | false=>simp
 | true=>have:=b9 h; simp [B7 hu hl (show n≤9223372036854775807 by omega)]
theorem dM {u:Nat} (hu:1099511627776≤u) {b:List Int} {n:Int} (hl:b.length≤1073741824):dX u b n=some (aQ b n):=by
 unfold dX aQ
 rw [bA (by simp; omega)]
 simp only [bU,Option.bind_some,List.nil_append]
 cases h:am n 0 1000000000000 with
 | false=>simp
 | true=>have:=b9 h; simp [Jz u 9 u n b (by rw [ZB]; omega) (by omega) (by omega)]
theorem bi (b:List Int) (n:Int):(aQ b n).length≤b.length+10:=by
 unfold aQ
 have:=DY 9 n
 split <;> simp <;> omega
def nv (b:List Int):List bM→List Int
 | []=>b
 | s :: l=>nv (b++cW 9 s.fS) l
def rx (b:List Int) (m:af):List Int:=if cS m then nv (aQ (aQ (aQ b m.aP) m.aS) m.aY) m.aD else b
def xY (m:af):Prop:=∀ s∈m.aD,s.fS≤9223372036854775807
theorem u7 {m:af} (h:cS m=true):m.aD.length≤40:=by
 unfold cS at h
 split at h
 ·simp only [Bool.and_eq_true,beq_iff_eq] at h
  have:=h.2
  omega
 ·have:=gT m.aS m.aY
  simp only [Bool.and_eq_true,beq_iff_eq] at h
  omega
theorem Sh {u:Nat} (hu:1099511627776≤u) (m:af):∀ (l:List bM) (i:Nat) (b:List Int),(∀ s∈l,s.fS≤9223372036854775807)→b.length+10*l.length≤1073741824 →
  bt (C0 u m) (xB u m) l i b=some (nv b l):=by
 intro l
 induction l with
 | nil=>intros; rfl
 | cons s l ih =>
  intro i b h1 h2
  simp only [List.length_cons] at h2
  have h3:=DY 9 s.fS
  simp only [bt,xB,B7 hu (show b.length≤1073741824 by omega) (h1 s (by simp)),Option.bind_some,nv]
  exact ih (i+1) _ (fun z hz=>h1 z (by simp [hz])) (by simp; omega)
theorem Si {u:Nat} (hu:1099511627776≤u) (m:af):∀ (l:List bM) (i:Nat) (b:List Int),(∀ s∈l,s.fS≤9223372036854775807)→b.length+10*l.length≤1073741824 →
  bt (CQ u m) (xt u m) l i b=some (nv b l):=by
 intro l
 induction l with
 | nil=>intros; rfl
 | cons s l ih =>
  intro i b h1 h2
  simp only [List.length_cons] at h2
  have h3:=DY 9 s.fS
  simp only [bt,xt,LG hu (show b.length≤1073741824 by omega) (h1 s (by simp)),Option.bind_some,nv]
  exact ih (i+1) _ (fun z hz=>h1 z (by simp [hz])) (by simp; omega)
theorem QN {u:Nat} (hu:1099511627776≤u) {b:List Int} {m:af} (hl:b.length≤536870912) (hm:m.aD.length≤1073741824) (hw:xY m):yF u b m=some (rx b m):=by
 unfold yF rx
 have h1:=bi b m.aP
 have h2:=bi (aQ b m.aP) m.aS
 have h3:=bi (aQ (aQ b m.aP) m.aS) m.aY
 rw [n7 hu m hm]
 cases h:cS m with
 | false=>simp [gK u (show b.length≤1073741824 by omega)]
 | true =>
  have h4:=u7 h
  simp only [Option.bind_some,Bool.not_true,cond_false,if_true]
  rw [dL hu (by omega)]; simp only [Option.bind_some]
  rw [dL hu (by omega)]; simp only [Option.bind_some]
  rw [dL hu (by omega)]; simp only [Option.bind_some]
  rw [KM u m _ u (by omega) (by omega),Sh hu m _ _ _ hw (by omega)]
theorem QO {u:Nat} (hu:1099511627776≤u) {b:List Int} {m:af} (hl:b.length≤536870912) (hm:m.aD.length≤1073741824) (hw:xY m):yy u b m=some (rx b m):=by
 unfold yy rx
 have h1:=bi b m.aP
 have h2:=bi (aQ b m.aP) m.aS
 have h3:=bi (aQ (aQ b m.aP) m.aS) m.aY
 rw [bA (by simp; omega),iy hu m hm]
 simp only [List.nil_append,Option.bind_some]
 cases h:cS m with
 | false=>simp
 | true =>
  have h4:=u7 h
  simp only [Option.bind_some,Bool.not_true,cond_false,if_true]
  rw [dM hu (by omega)]; simp only [Option.bind_some]
  rw [dM hu (by omega)]; simp only [Option.bind_some]
  rw [dM hu (by omega)]; simp only [Option.bind_some]
  rw [KD u m _ u (by omega) (by omega),Si hu m _ _ _ hw (by omega)]
theorem xZ {a:Int} (h1:0≤a) (h2:a < 18446744073709551616):(BitVec.ofInt 64 a).toNat=a.toNat:=by
 rw [BitVec.toNat_ofInt]; omega
theorem FY {a b:Nat} (h1:a < 9223372036854775808) (h2:b < 9223372036854775808):sV .i64 (a:Int) (b:Int)=((a ||| b:Nat):Int):=by
 unfold sV
 have e:(BitVec.ofInt (IntKind.bits .i64) (a:Int) ||| BitVec.ofInt (IntKind.bits .i64) (b:Int)).toNat=a ||| b:=by
  change (BitVec.ofInt 64 (a:Int) ||| BitVec.ofInt 64 (b:Int)).toNat=_
  rw [BitVec.toNat_or,xZ (by omega) (by omega),xZ (by omega) (by omega)]; rfl
 rw [e]
 have:a ||| b < 2 ^ 63:=Nat.or_lt_two_pow (by omega) (by omega)
 exact wrap_i64 (by omega) (by omega)
theorem UT {a b:Nat} (h1:a < 9223372036854775808) (h2:b < 9223372036854775808):fx .i64 (a:Int) (b:Int)=((a &&& b:Nat):Int):=by
 unfold fx
 have e:(BitVec.ofInt (IntKind.bits .i64) (a:Int) &&& BitVec.ofInt (IntKind.bits .i64) (b:Int)).toNat=a &&& b:=by
  change (BitVec.ofInt 64 (a:Int) &&& BitVec.ofInt 64 (b:Int)).toNat=_
  rw [BitVec.toNat_and,xZ (by omega) (by omega),xZ (by omega) (by omega)]; rfl
 rw [e]
 have:a &&& b≤a:=Nat.and_le_left
 exact wrap_i64 (by omega) (by omega)
theorem LH {i:Nat} (h:i≤62):i4 .i64 1 (i:Int)=((2 ^ i:Nat):Int):=by
 unfold i4
 rw [show min (Int.toNat (i:Int)) (IntKind.bits .i64)=i by simp [IntKind.bits]; omega]
 have h1:(2:Nat) ^ i≤2 ^ 62:=Nat.pow_le_pow_right (by omega) h
 have h2:(1:Int)*2 ^ i=((2 ^ i:Nat):Int):=by simp
 rw [h2]
 generalize (2:Nat) ^ i=p at h1
 exact wrap_i64 (by omega) (by omega)
theorem UU {a i:Nat} (h:i≤64):nY .i64 (a:Int) (i:Int)=((a / 2 ^ i:Nat):Int):=by
 rw [Tt .i64 _ i h]; simp
def bF (s:Int):Bool:=am s 0 1099511627775
def iT (i:Int):Bool:=am i 0 39
def eh (s i:Int):Bool:=bF s && iT i && s.toNat.testBit i.toNat
theorem lM (u:Nat) (s:Int):dr u s=some (bF s):=by simp [dr,bG,bF]
theorem jU (u:Nat) (s:Int):cz u s=some (bF s):=by simp [cz,bU,bF]
theorem N7 (u:Nat) (s:Int):pv u s=some (iT s):=by simp [pv,bG,iT]
theorem Yi {s i:Int} (hs:bF s=true) (hi:iT i=true):(fx .i64 (nY .i64 s i) 1 == 1)=s.toNat.testBit i.toNat:=by
 have h1:=b9 hs
 have h2:=b9 hi
 obtain ⟨a,rfl⟩:=Int.eq_ofNat_of_zero_le h1.1
 obtain ⟨n,rfl⟩:=Int.eq_ofNat_of_zero_le h2.1
 rw [UU (by omega)]
 have h3:a / 2 ^ n≤a:=Nat.div_le_self a _
 rw [show (1:Int)=((1:Nat):Int) by rfl,UT (by omega) (by omega),Nat.and_one_is_mod]
 simp only [Int.toNat_natCast,Nat.testBit_eq_decide_div_mod_eq]
 generalize a / 2 ^ n=z
 rw [Bool.eq_iff_iff,beq_iff_eq,decide_eq_true_eq]; omega
theorem qs (u:Nat) (s i:Int):fk u s i=some (eh s i):=by
 unfold fk eh
 simp only [lM,N7,Option.bind_some]
 cases h1:bF s with
 | false=>simp
 | true =>
  cases h2:iT i with
  | false=>simp
  | true =>
   have h3:=b9 h2
   rw [bA (by omega)]
   simp [Yi h1 h2]
theorem qt (u:Nat) (s i:Int):fU u s i=some (eh s i):=by
 unfold fU eh
 simp only [jU,bU,Option.bind_some]
 cases h1:bF s with
 | false=>simp
 | true =>
  change ((bif true then (bif iT i then _ else _) else _):Option Bool)=_
  cases h2:iT i with
  | false=>simp
  | true =>
   have h3:=b9 h2
   simp only [cond_true]
   rw [bA (by omega)]
   simp [Yi h1 h2]
def lX (s:Int):List Int:=if bF s then ((List.range 40).filter fun i=>s.toNat.testBit i).map Int.ofNat else []
theorem Ms {α ρ:Type} {fin:List α→Option ρ} {body:Nat→List α→(List α→Option ρ)→Option ρ} (f:Nat→Bool) (g:Nat→α) (n c:Nat) (hb:∀ i s k,i < n→s.length≤c+i→body i s k=k (if f i then s++[g i] else s)) :
  ∀ (m i:Nat) (s:List α),i+m=n→s.length≤c+i→qz fin body m i s=fin (s++(((List.range' i m).filter f).map g)):=by
 intro m
 induction m with
 | zero=>intro i s h1 h2; simp [qz]
 | succ m ih =>
  intro i s h1 h2
  simp only [qz]
  rw [hb i s _ (by omega) h2]
  cases hf:f i with
  | true =>
   simp only [if_true]
   rw [ih (i+1) _ (by omega) (by simp; omega),List.range'_succ,List.filter_cons,hf]
   simp
  | false =>
   simp only [Bool.false_eq_true,if_false]
   rw [ih (i+1) _ (by omega) (by omega),List.range'_succ,List.filter_cons,hf]
   simp
theorem N8 {u:Nat} (hu:1099511627776≤u) (s:Int):wi u s=some (lX s):=by
 unfold wi
 rw [Ix u s [] u (by omega) (by omega),Ms (fun i=>eh s i) (fun i=>(i:Int)) 40 0 _ (Int.toNat 40) 0 [] (by decide) (by simp)]
 ·unfold BS ue lX
  rw [show Int.toNat 40=40 by rfl,← List.range_eq_range']
  cases h:bF s with
  | false=>simp [eh,h]
  | true =>
   simp only [List.nil_append,if_true]
   congr 2
   apply List.filter_congr
   intro i hi
   have hi:i < 40:=by simpa using hi
   have:iT (i:Int)=true:=by simp [iT,am]; omega
   simp [eh,h,this]
 ·intro i t k hi ht
  unfold BT
  rw [qs]
  simp only [Option.bind_some]
  cases eh s i with
  | false=>simp [k7]
  | true =>
   simp only [cond_true,if_true]
   rw [bA (by simp; omega)]
   simp [k7]
theorem N9 {u:Nat} (hu:1099511627776≤u) (s:Int):vL u s=some (lX s):=by
 unfold vL
 rw [Ij u s [] u (by omega) (by omega),Ms (fun i=>eh s i) (fun i=>(i:Int)) 40 0 _ (Int.toNat 40) 0 [] (by decide) (by simp)]
 ·unfold BL tQ lX
  rw [show Int.toNat 40=40 by rfl,← List.range_eq_range']
  cases h:bF s with
  | false=>simp [eh,h]
  | true =>
   simp only [List.nil_append,if_true]
   congr 2
   apply List.filter_congr
   intro i hi
   have hi:i < 40:=by simpa using hi
   have:iT (i:Int)=true:=by simp [iT,am]; omega
   simp [eh,h,this]
 ·intro i t k hi ht
  unfold BM
  rw [qt]
  simp only [Option.bind_some]
  cases eh s i with
  | false=>simp [kW]
  | true =>
   simp only [cond_true,if_true]
   rw [bA (by simp; omega)]
   simp [kW]
theorem Yj {s c:Int} (h1:0≤s) (h2:s < 36028797018963968) (h3:0≤c) (h4:c≤255):sV .i64 (i4 .i64 s 8) c=256*s+c:=by
 obtain ⟨a,rfl⟩:=Int.eq_ofNat_of_zero_le h1
 obtain ⟨b,rfl⟩:=Int.eq_ofNat_of_zero_le h3
 have e:i4 .i64 (a:Int) 8=((a*256:Nat):Int):=by
  unfold i4
  rw [show min (Int.toNat (8:Int)) (IntKind.bits .i64)=8 by rfl]
  rw [wrap_i64 (by omega) (by omega)]; omega
 rw [e,FY (by omega) (by omega)]
 have h5:=Nat.shiftLeft_add_eq_or_of_lt (b:=b) (i:=8) (by omega) a
 rw [Nat.shiftLeft_eq,show (2:Nat) ^ 8=256 from rfl] at h5
 rw [← h5]; omega
theorem TO (u:Nat):∀ (p b:List Int) (i:Nat) (s:Int) (n:Nat),aF b→0≤s→s < 256 ^ n*2→n+b.length≤6 →
  bt (Eb u p) (zn u p) b i s=te u p (oV b s):=by
 intro p b
 induction b with
 | nil=>intros; rfl
 | cons c b ih =>
  intro i s n hb h1 h2 h3
  have hc:=hb c (by simp)
  simp only [List.length_cons] at h3
  have hp:(256:Int) ^ n≤1099511627776:=by
   rcases (show n=0∨n=1∨n=2∨n=3∨n=4∨n=5 by omega) with rfl | rfl | rfl | rfl | rfl | rfl <;> decide
  simp only [bt,zn]
  rw [wrap_i64 (by omega) (by omega),Yj (by omega) (by omega) (by omega) (by omega)]
  exact ih (i+1) _ (n+1) (fun z hz=>hb z (by simp [hz])) (by omega) (by rw [Int.pow_succ]; omega) (by omega)
theorem tD {u:Nat} (hu:1099511627776≤u) {b:List Int} (hb:aF b) (hl:b.length≤1073741824):kX u b=some (eg b):=by
 unfold kX eg
 by_cases h:6 < b.length
 ·have:(b.length:Int) > 6:=by omega
  simp [h,this]
 ·have:¬ ((b.length:Int) > 6):=by omega
  simp only [this,decide_false,cond_false,h,if_false]
  rw [MQ u b 1 u (by omega) (by omega),TO u b b 0 1 0 hb (by omega) (by decide) (by omega)]
  unfold te
  rw [Bd hu hb hl]
  rfl
def M.win (b:List Int) (i n:Nat):List Int:=(b.take (i+n)).drop i
theorem QP (b:List Int) (i n:Nat):M.win b i n=(b.drop i).take n:=by
 unfold M.win; rw [List.drop_take]; congr 1; omega
theorem nQ {b:List Int} (h:aF b) (i n:Nat):aF (M.win b i n):=fun x hx=>h x (List.mem_of_mem_take (List.mem_of_mem_drop hx))
theorem DZ {b:List Int} {i n:Nat} (h:i+n≤b.length):(M.win b i n).length=n:=by
 unfold M.win; rw [List.length_drop,List.length_take]; omega
theorem QQ (b:List Int) (i n:Nat):(M.win b i n).length≤n:=by
 unfold M.win; rw [List.length_drop,List.length_take]; omega
theorem eK {a b n:Nat} (h1:a≤b) (h2:b≤n):dW (dU (a:Int) (b:Int) (n:Int))=some ():=by
 have:dU (a:Int) (b:Int) (n:Int)=true:=by simp [dU]; omega
 rw [this]; rfl
theorem tE {a b:Nat} (h:a+b≤9223372036854775807):aX .i64 (a:Int) (b:Int)=((a+b:Nat):Int):=by
 rw [dJ (by omega) (by omega)]; omega
theorem GH (u:Nat) {b:List Int} {i n:Nat} (h:i+n≤b.length) (hl:b.length≤1073741824):ut u b i n=some (M.win b i n,true):=by
 unfold ut td
 have h1:am (i:Int) 0 (b.length:Int)=true:=by simp [am]; omega
 have h2:am (n:Int) 0 ((b.length:Int) - (i:Int))=true:=by simp [am]; omega
 simp only [bG,h1,Option.bind_some,cB (a:=(b.length:Int)) (b:=(i:Int)) (by omega) (by omega),h2,Bool.not_true,cond_false]
 rw [tE (by omega),eK (by omega) h]
 simp only [Option.bind_some,Int.toNat_natCast]
 rw [gK u (by simp; omega)]
 rfl
def qu (b:List Int) (size i:Int):List Int×Bool :=
 let s:=cU size b.length i
 if s.2=0 then ([],false) else (M.win b s.1.toNat s.2.toNat,true)
theorem wW {size n i:Int} (hn:0≤n):0≤(cU size n i).1∧0≤(cU size n i).2∧(cU size n i).2≤6∧(cU size n i).1+(cU size n i).2≤n:=by
 unfold cU
 split
 ·rename_i h
  have ⟨h1,h2,h3⟩:=LD h
  have h4:=Dr h1
  have h5:=(b9 h).2
  unfold di at h5
  rw [if_pos h1] at h5
  have h6:=LE h4.1 h4.2.1 h2 h3
  have h7:i*size≤n:=by
   have h8:i+1≤(n+size - 1) / size:=by omega
   have h9:(i+1)*size≤n+size - 1:=(Int.le_ediv_iff_mul_le (by omega)).1 h8
   rw [Int.add_mul] at h9
   omega
  dsimp only
  omega
 ·dsimp only; omega
theorem GI {b:List Int} (hb:aF b) (size i:Int):aF (qu b size i).1∧(qu b size i).1.length≤6:=by
 have h:=wW (size:=size) (n:=b.length) (i:=i) (by omega)
 unfold qu
 dsimp only
 split
 ·exact ⟨by simp [aF],by simp⟩
 ·refine ⟨nQ hb _ _,?_⟩
  have:=QQ b (cU size b.length i).1.toNat (cU size b.length i).2.toNat
  dsimp only
  omega
theorem Oa (u:Nat) {b:List Int} (hl:b.length≤1073741824) (size i:Int):rU u b size i=some (qu b size i):=by
 have h:=wW (size:=size) (n:=b.length) (i:=i) (by omega)
 unfold rU qu
 simp only [oU,Option.bind_some]
 generalize cU size b.length i=s at h
 obtain ⟨a,n⟩:=s
 dsimp only at h ⊢
 by_cases h0:n=0
 ·simp [h0]
 ·have:(n == 0)=false:=by simpa using h0
  obtain ⟨x,rfl⟩:=Int.eq_ofNat_of_zero_le h.1
  obtain ⟨y,rfl⟩:=Int.eq_ofNat_of_zero_le h.2.1
  simp only [this,cond_false,h0,if_false]
  rw [GH u (by omega) hl]
  rfl
theorem Ob (u:Nat) {b:List Int} (hl:b.length≤1073741824) (size i:Int):rF u b size i=some (qu b size i):=by
 have h:=wW (size:=size) (n:=b.length) (i:=i) (by omega)
 unfold rF qu
 simp only [mN,Option.bind_some]
 generalize cU size b.length i=s at h
 obtain ⟨a,n⟩:=s
 dsimp only at h ⊢
 by_cases h0:n=0
 ·simp [h0]
 ·have:(n == 0)=false:=by simpa using h0
  obtain ⟨x,rfl⟩:=Int.eq_ofNat_of_zero_le h.1
  obtain ⟨y,rfl⟩:=Int.eq_ofNat_of_zero_le h.2.1
  simp only [this,cond_false,h0,if_false]
  rw [tE (by omega),eK (by omega) (by omega)]
  simp only [Option.bind_some,Int.toNat_natCast]
  rw [bA (by simp; omega)]
  rfl
def Ds (b:List Int) (size:Int):List bM:=(List.range (di size b.length).toNat).map fun (i:Nat)=>eg (qu b size i).1
theorem Mt {α ρ:Type} {fin:List α→Option ρ} {body:Nat→List α→(List α→Option ρ)→Option ρ} (g:Nat→α) (n:Nat) (hb:∀ i s k,i < n→s.length=i→body i s k=k (s++[g i])) :
  qz fin body n 0 []=fin ((List.range n).map g):=by
 have:∀ (m i:Nat) (s:List α),i+m=n→s.length=i→qz fin body m i s=fin (s++(List.range' i m).map g):=by
  intro m
  induction m with
  | zero=>intro i s h1 h2; simp [qz]
  | succ m ih =>
   intro i s h1 h2
   simp only [qz]
   rw [hb i s _ (by omega) h2,ih (i+1) _ (by omega) (by simp [h2]),List.range'_succ]
   simp
 rw [this n 0 [] (by omega) rfl,← List.range_eq_range']
 simp
theorem Fl {u:Nat} (hu:1099511627776≤u) {b:List Int} (hb:aF b) (hl:b.length≤1073741824) (size:Int):uU u b size=some (Ds b size):=by
 unfold uU
 have hr:=gT size b.length
 rw [wU]
 simp only [Option.bind_some]
 rw [KH u b size _ [] u (by omega) (by omega),Mt (fun i=>eg (qu b size i).1)]
 ·rfl
 ·intro i s k hi hs
  unfold CX
  have h:=GI hb size (i:Int)
  rw [Oa u hl]
  simp only [Option.bind_some]
  rw [tD hu h.1 (by omega)]
  simp only [Option.bind_some]
  rw [bA (by simp; omega)]
  rfl
theorem Fm {u:Nat} (hu:1099511627776≤u) {b:List Int} (hb:aF b) (hl:b.length≤1073741824) (size:Int):uM u b size=some (Ds b size):=by
 unfold uM
 have hr:=gT size b.length
 rw [sN (n:=di size b.length) (fin:=AE u) (body:=fun i (s:List bM) k=>(rF u b size (i:Int)).bind fun r8=>(gY u r8.1).bind fun r9=>(dW (decide ((s.length+([r9]).length)*16≤140737488355328))).bind fun _=>k (s++[r9]))
  (fun k (s:List bM) i=>oj u k b size s i) (by omega) (fun k s i=>by rw [oj,kf]; rfl) [] (by omega),Mt (fun i=>eg (qu b size i).1)]
 ·rfl
 ·intro i s k hi hs
  have h:=GI hb size (i:Int)
  rw [Ob u hl]
  simp only [Option.bind_some]
  rw [n6 hu h.1 (by omega)]
  simp only [Option.bind_some]
  rw [bA (by simp; omega)]
  rfl
def JA (gen:Int) (b:List Int) (size:Int):af:=if am gen 1 1000000 && fQ size b.length then ⟨gen,size,b.length,Ds b size⟩ else ⟨0,0,0,[]⟩
theorem Sj {u:Nat} (hu:1099511627776≤u) {b:List Int} (hb:aF b) (hl:b.length≤1073741824) (gen size:Int):AT u gen b size=some (JA gen b size):=by
 unfold AT xS JA
 simp only [bG,wS,Option.bind_some,Fl hu hb hl]
 cases am gen 1 1000000 <;> cases fQ size b.length <;> simp
theorem Sk {u:Nat} (hu:1099511627776≤u) {b:List Int} (hb:aF b) (hl:b.length≤1073741824) (gen size:Int):AF u gen b size=some (JA gen b size):=by
 unfold AF xO JA
 simp only [bU,wT,Option.bind_some,Fm hu hb hl]
 cases am gen 1 1000000 <;> cases fQ size b.length <;> simp
def HC:List Int→Int
 | []=>0
 | c :: b=>c+HC b
def Oc:List Int→Int
 | []=>0
 | c :: b=>((b.length:Int)+1)*c+Oc b
theorem Xm:∀ (b:List Int) (x y:Int),sA b x y=match b with | []=>(x,y) | _=>((x+HC b) % 251,(y+b.length*x+Oc b) % 251):=by
 intro b
 induction b with
 | nil=>intro x y; rfl
 | cons c b ih =>
  intro x y
  simp only [sA]
  rw [ih]
  cases b with
  | nil=>simp [HC,Oc,Int.add_assoc]
  | cons d b =>
   simp only [HC,Oc,List.length_cons]
   refine Prod.ext ?_ ?_
   ·dsimp only; omega
   ·dsimp only
    have e:((b.length:Int)+1)*((x+c) % 251) % 251=((b.length:Int)+1)*(x+c) % 251:=by rw [Int.mul_emod,Int.emod_emod_of_dvd _ (Int.dvd_refl 251),← Int.mul_emod]
    have e1:((b.length:Int)+1)*(x+c)=((b.length:Int)+1)*x+((b.length:Int)+1)*c:=Int.mul_add _ _ _
    have e2:((b.length:Int)+1+1)*x=((b.length:Int)+1)*x+x:=by rw [Int.add_mul]; omega
    have e3:((b.length:Int)+1+1)*c=((b.length:Int)+1)*c+c:=by rw [Int.add_mul]; omega
    push_cast
    rw [e2,e3]
    rw [e1] at e
    generalize ((b.length:Int)+1)*((x+c) % 251)=p at *
    generalize ((b.length:Int)+1)*x=q at *
    generalize ((b.length:Int)+1)*c=r at *
    generalize ((b.length:Int)+1)*d=t at *
    omega
theorem QR {b:List Int}:cx b=HC b % 251+251*(Oc b % 251):=by
 unfold cx
 rw [Xm]
 cases b with
 | nil=>simp [HC,Oc]
 | cons c b=>dsimp only; simp
theorem ZC (b:List Int) (d:Int):HC (b++[d])=HC b+d:=by
 induction b with
 | nil=>simp [HC]
 | cons c b ih=>simp only [List.cons_append,HC,ih]; omega
theorem ZD (b:List Int) (d:Int):Oc (b++[d])=Oc b+HC b+d:=by
 induction b with
 | nil=>simp [HC,Oc]
 | cons c b ih =>
  simp only [List.cons_append,HC,Oc,ih,List.length_append,List.length_singleton]
  push_cast
  rw [Int.add_mul ((b.length:Int)+1) 1 c]
  omega
theorem TP (u:Nat) (n m:Int):xu u n m=some (if am m 1 1000000000000 then n % m else 0):=by
 unfold xu
 simp only [bU,Option.bind_some]
 cases h:am m 1 1000000000000 with
 | false=>simp
 | true =>
  have h3:=b9 h
  have hb:(m == 0)=false:=by simp; omega
  have h4:=QL (n:=n) (m:=m) (by omega)
  simp only [hb,Bool.not_true,cond_false,Bool.not_false,UJ,Option.bind_some]
  have e1:rt .i64 n m=n.tmod m:=rfl
  rw [e1,dJ (by omega) (by omega)]
  show some ((n.tmod m+m).tmod m)=_
  rw [S6 (by omega)]; simp
theorem JB (u:Nat) (w:Int):Am u w=some (am w 0 63000):=by simp [Am,bU]
theorem HD (u:Nat) {w:Int} (h:am w 0 63000=true):pK u w=some (w % 251,w / 251):=by
 unfold pK
 have:=b9 h
 rw [JB,h]
 simp (disch:=omega) [Db,Pv]
theorem TQ (u:Nat) {c d:Int} {m:List Int} (hc:0≤c∧c≤255) (hd:0≤d∧d≤255) (hm:m.length≤5):An u (cx (c :: m)) ((m.length:Int)+1) c d=some (cx (m++[d])):=by
 unfold An rN
 have h0:=DW (c :: m)
 have h1:am (cx (c :: m)) 0 63000=true:=by simp [am]; omega
 have h2:am ((m.length:Int)+1) 1 1000000000000=true:=by simp [am]; omega
 have h3:am c 0 255=true:=by simp [am]; omega
 have h4:am d 0 255=true:=by simp [am]; omega
 have h5:am 251 1 1000000000000=true:=by decide
 have h6:((m.length:Int)+1)*c≤6*255:=Int.mul_le_mul (by omega) (by omega) (by omega) (by omega)
 have h7:0≤((m.length:Int)+1)*c:=Int.mul_nonneg (by omega) (by omega)
 simp only [JB,bU,h1,h2,h3,h4,Option.bind_some,Bool.not_true,cond_false,HD u h1,TP,h5,if_true]
 rw [Db (by omega),Int.emod_eq_of_lt (a:=(m.length:Int)+1) (by omega) (by omega)]
 have e:=QR (b:=c :: m)
 have e2:=QR (b:=m++[d])
 rw [e2,ZC,ZD]
 simp only [HC,Oc] at e
 rw [lw (a:=(m.length:Int)+1) (b:=c) (by omega) (by omega)]
 generalize cx (c :: m)=w at *
 generalize ((m.length:Int)+1)*c=q at *
 generalize HC m=sx at *
 generalize Oc m=sy at *
 rw [cB (a:=w / 251) (by omega) (by omega),cB (a:=w % 251) (by omega) (by omega),dJ (a:=w % 251 - c) (by omega) (by omega)]
 rw [dJ (a:=(w / 251 - q) % 251) (by omega) (by omega)]
 rw [lw (by omega) (by omega),dJ (by omega) (by omega)]
 congr 1
 omega
theorem Yk {b:List Int} {i n:Nat} {c:Int} (hc:b[i]?=some c):M.win b i (n+1)=c :: M.win b (i+1) n:=by
 rw [QP,QP]
 obtain ⟨h,rfl⟩:=List.getElem?_eq_some_iff.1 hc
 rw [List.drop_eq_getElem_cons h,List.take_succ_cons]
theorem Yl {b:List Int} {i n:Nat} {d:Int} (hd:b[i+n]?=some d):M.win b i (n+1)=M.win b i n++[d]:=by
 rw [QP,QP,List.take_add_one]
 congr 1
 rw [List.getElem?_drop,hd]; rfl
def sB (b:List Int) (n:Nat):List Int:=if n≤b.length then (List.range (b.length+1 - n)).map fun i=>cx (M.win b i n) else []
theorem HE (u:Nat) {b:List Int} (hb:aF b) (hl:b.length≤1073741824) {n:Nat} (h1:1≤n) (h2:n≤6):∀ (m k j:Nat),n+j+m=b.length→m < k →
  gO u k b n ((List.range (j+1)).map fun i=>cx (M.win b i n)) (cx (M.win b j n)) ((n+j:Nat):Int)=some ((List.range (j+1+m)).map fun i=>cx (M.win b i n)):=by
 intro m
 induction m with
 | zero =>
  intro k j h3 h4
  obtain ⟨k,rfl⟩:∃ i,k=i+1:=⟨k - 1,by omega⟩
  unfold gO
  have:¬ (((n+j:Nat):Int) < (b.length:Int)):=by omega
  simp only [this,decide_false,cond_false,tT,Nat.add_zero]
 | succ m ih =>
  intro k j h3 h4
  obtain ⟨k,rfl⟩:∃ i,k=i+1:=⟨k - 1,by omega⟩
  unfold gO
  have h5:((n+j:Nat):Int) < (b.length:Int):=by omega
  have e:cu .i64 ((n+j:Nat):Int) (n:Int)=(j:Int):=by rw [cB (by omega) (by omega)]; omega
  simp only [h5,decide_true,cond_true,e,br]
  have hc:=List.getElem?_eq_getElem (l:=b) (i:=j) (by omega)
  have hd:=List.getElem?_eq_getElem (l:=b) (i:=n+j) (by omega)
  rw [hc,hd]
  simp only [Option.bind_some]
  have hcb:=hb _ (List.getElem_mem (l:=b) (n:=j) (by omega))
  have hdb:=hb _ (List.getElem_mem (l:=b) (n:=n+j) (by omega))
  rw [wrap_i64 (n:=b[j]) (by omega) (by omega),wrap_i64 (n:=b[n+j]) (by omega) (by omega)]
  obtain ⟨n,rfl⟩:∃ i,n=i+1:=⟨n - 1,by omega⟩
  have e1:=Yk (n:=n) hc
  have e2:M.win b (j+1) (n+1)=M.win b (j+1) n++[b[n+1+j]]:=Yl (by rw [show j+1+n=n+1+j by omega]; exact hd)
  have hw:(M.win b (j+1) n).length=n:=DZ (by omega)
  have hroll:=TQ u (c:=b[j]) (d:=b[n+1+j]) (m:=M.win b (j+1) n) hcb hdb (by omega)
  rw [hw,← e1,← e2] at hroll
  rw [show ((n+1:Nat):Int)=(n:Int)+1 by omega,hroll]
  simp only [Option.bind_some]
  rw [bA (by simp; omega)]
  simp only [Option.bind_some]
  rw [show (List.map (fun i=>cx (M.win b i (n+1))) (List.range (j+1))++[cx (M.win b (j+1) (n+1))])=(List.range (j+1+1)).map fun i=>cx (M.win b i (n+1)) by rw [List.range_succ (n:=j+1),List.map_append]; rfl]
  rw [jw (by omega)]
  have:=ih k (j+1) (by omega) (by omega)
  rw [show ((n+1:Nat):Int)=(n:Int)+1 by omega] at this
  rw [show n+1+j+1=n+1+(j+1) by omega,this,show j+1+1+m=j+1+(m+1) by omega]
theorem Od {u:Nat} (hu:1099511627776≤u) {b:List Int} (hb:aF b) (hl:b.length≤1073741824) {n:Nat} (h1:1≤n) (h2:n≤6):vM u b n=some (sB b n):=by
 unfold vM tU sB
 have h3:¬ ((n:Int) < 1):=by omega
 simp only [h3,decide_false,cond_false]
 by_cases h4:n≤b.length
 ·have h5:¬ ((n:Int) > (b.length:Int)):=by omega
  simp only [h5,decide_false,cond_false,h4,if_true]
  rw [show (0:Int)=((0:Nat):Int) by rfl,eK (by omega) h4]
  simp only [Option.bind_some,Int.toNat_natCast]
  have e:List.drop 0 (List.take n b)=M.win b 0 n:=by simp [M.win]
  rw [e,wV hu (nQ hb _ _) (by have:=QQ b 0 n; omega)]
  simp only [Option.bind_some]
  rw [bA (by simp)]
  have:=HE u hb hl h1 h2 (b.length - n) u 0 (by omega) (by omega)
  simp only [Nat.add_zero,Nat.zero_add] at this
  rw [show (List.range 1).map (fun i=>cx (M.win b i n))=[cx (M.win b 0 n)] by rfl] at this
  simp only [Option.bind_some,List.nil_append]
  rw [this,show 1+(b.length - n)=b.length+1 - n by omega]
 ·have h5:((n:Int) > (b.length:Int)):=by omega
  simp [h5,h4]
def fY (b:List Int) (s:bM) (n:Nat):Nat→Nat→Int
 | 0,_=>-1
 | c+1,i=>if eg (M.win b i n)=s then i else fY b s n c (i+1)
def u9 (b:List Int) (s:bM) (n:Int):Int:=if am n 1 6 then fY b s n.toNat (b.length+1 - n.toNat) 0 else -1
theorem QS (b:List Int) (s:bM) (n:Nat):∀ c i,-1≤fY b s n c i∧fY b s n c i < i+c:=by
 intro c
 induction c with
 | zero=>intro i; simp [fY]; omega
 | succ c ih =>
  intro i
  unfold fY
  have:=ih (i+1)
  split <;> omega
theorem B8 (x y:bM):(([x.fW,x.fS]:List Int) == [y.fW,y.fS])=decide (x=y):=by
 obtain ⟨a,b⟩:=x
 obtain ⟨c,d⟩:=y
 rw [Bool.eq_iff_iff]; simp
theorem HF {u:Nat} (hu:1099511627776≤u) {b:List Int} (hb:aF b) (hl:b.length≤1073741824) (s:bM) {n:Nat} (h1:1≤n) (h2:n≤6):∀ (c k i:Nat),i+c=b.length+1 - n∨(c=0∧b.length+1 - n≤i)→i≤1073741824→c < k →
  k8 u k b n i s=some (fY b s n c i):=by
 intro c
 induction c with
 | zero =>
  intro k i h3 hi h4
  obtain ⟨k,rfl⟩:∃ i,k=i+1:=⟨k - 1,by omega⟩
  unfold k8
  rw [tE (by omega)]
  have:¬ (((i+n:Nat):Int)≤(b.length:Int)):=by omega
  simp only [this,decide_false,cond_false,zr,fY]
 | succ c ih =>
  intro k i h3 hi h4
  obtain ⟨k,rfl⟩:∃ i,k=i+1:=⟨k - 1,by omega⟩
  unfold k8
  rw [tE (by omega)]
  have h5:(((i+n:Nat):Int)≤(b.length:Int)):=by omega
  simp only [h5,decide_true,cond_true,Int.toNat_natCast]
  rw [eK (by omega) (by omega)]
  simp only [Option.bind_some]
  change ((kX u (M.win b i n)).bind _)=_
  rw [tD hu (nQ hb _ _) (by have:=QQ b i n; omega)]
  simp only [Option.bind_some,B8,fY]
  by_cases h6:eg (M.win b i n)=s
  ·simp [h6]
  ·simp only [h6,decide_false,cond_false,if_false]
   rw [jw (by omega)]
   exact ih k (i+1) (by omega) (by omega) (by omega)
theorem Oe {u:Nat} (hu:1099511627776≤u) {b:List Int} (hb:aF b) (hl:b.length≤1073741823) (s:bM) (n:Int):wj u b s n=some (u9 b s n):=by
 unfold wj u9
 rw [bG]
 simp only [Option.bind_some]
 cases h:am n 1 6 with
 | false=>simp
 | true =>
  have h:=b9 h
  obtain ⟨n,rfl⟩:=Int.eq_ofNat_of_zero_le (show 0≤n by omega)
  simp only [Bool.not_true,cond_false,if_true,Int.toNat_natCast]
  exact HF hu hb (by omega) s (by omega) (by omega) (b.length+1 - n) u 0 (by omega) (by omega) (by omega)
theorem VK {b:List Int} (h:b.length≤6):(eg b).fW=cx b:=by
 unfold eg; rw [if_neg (by omega)]
theorem HG {u:Nat} (hu:1099511627776≤u) {b:List Int} (hb:aF b) (hl:b.length≤1073741823) (s:bM) {n:Nat} (h1:1≤n) (h2:n≤6):∀ (c k i:Nat),i+c=b.length+1 - n→c < k →
  eA u k b n (sB b n) i s=some (fY b s n c i):=by
 have hlen:(sB b n).length=b.length+1 - n:=by
  unfold sB
  split
  ·simp
  ·simp; omega
 intro c
 induction c with
 | zero =>
  intro k i h3 h4
  obtain ⟨k,rfl⟩:∃ i,k=i+1:=⟨k - 1,by omega⟩
  unfold eA
  have:¬ ((i:Int) < ((sB b n).length:Int)):=by omega
  simp only [this,decide_false,cond_false,tW,fY]
 | succ c ih =>
  intro k i h3 h4
  obtain ⟨k,rfl⟩:∃ i,k=i+1:=⟨k - 1,by omega⟩
  unfold eA
  have h5:((i:Int) < ((sB b n).length:Int)):=by omega
  have hx:(sB b n)[i]?=some (cx (M.win b i n)):=by
   unfold sB
   rw [if_pos (by omega),List.getElem?_map,List.getElem?_range (by omega)]; rfl
  simp only [h5,decide_true,cond_true,br,hx,Option.bind_some]
  rw [tE (by omega),eK (by omega) (by omega)]
  simp only [Option.bind_some,Int.toNat_natCast]
  change (bif _ then ((gY u (M.win b i n)).bind _) else _)=_
  rw [n6 hu (nQ hb _ _) (by have:=QQ b i n; omega)]
  simp only [Option.bind_some,B8,fY,nc,cond_false,jw (show i < 9223372036854775807 by omega),ih k (i+1) (by omega) (by omega)]
  by_cases h6:eg (M.win b i n)=s
  ·have h7:cx (M.win b i n)=s.fW:=by rw [← h6,VK (by have:=QQ b i n; omega)]
   simp [h6,h7]
  ·cases cx (M.win b i n) == s.fW <;> simp [h6]
theorem Of {u:Nat} (hu:1099511627776≤u) {b:List Int} (hb:aF b) (hl:b.length≤1073741823) (s:bM) (n:Int):vN u b s n=some (u9 b s n):=by
 unfold vN u9
 rw [bU]
 simp only [Option.bind_some]
 cases h:am n 1 6 with
 | false=>simp
 | true =>
  have h:=b9 h
  obtain ⟨n,rfl⟩:=Int.eq_ofNat_of_zero_le (show 0≤n by omega)
  simp only [Bool.not_true,cond_false,if_true,Int.toNat_natCast]
  rw [Od hu hb (by omega) (by omega) (by omega)]
  exact HG hu hb (by omega) s (by omega) (by omega) (b.length+1 - n) u 0 (by omega) (by omega)
def dy (b:List Int) (m:af) (i:Nat):Int:=match m.aD[i]? with
 | some s=>u9 b s (cU m.aS m.aY i).2
 | none=>-1
theorem Og {u:Nat} (hu:1099511627776≤u) {b:List Int} (hb:aF b) (hl:b.length≤1073741823) {m:af} (hm:m.aD.length≤1073741824) (i:Nat):sg u b m i=some (dy b m i):=by
 unfold sg dy
 rw [oU]
 simp only [Option.bind_some]
 rw [cB (by omega) (by omega),bG]
 by_cases h:i < m.aD.length
 ·have h1:am (i:Int) 0 ((m.aD.length:Int) - 1)=true:=by simp [am]; omega
  simp only [h1,Option.bind_some,Bool.not_true,cond_false,br,List.getElem?_eq_getElem h,Oe hu hb hl]
 ·have h1:am (i:Int) 0 ((m.aD.length:Int) - 1)=false:=by simp [am]; omega
  simp only [h1,Option.bind_some,Bool.not_false,cond_true,List.getElem?_eq_none (show m.aD.length≤i by omega)]
theorem Oh {u:Nat} (hu:1099511627776≤u) {b:List Int} (hb:aF b) (hl:b.length≤1073741823) {m:af} (hm:m.aD.length≤1073741824) (i:Nat):rO u b m i=some (dy b m i):=by
 unfold rO tX dy
 rw [mN]
 simp only [Option.bind_some,Of hu hb hl,br]
 by_cases h:i < m.aD.length
 ·have h1:¬ ((i:Int)≥(m.aD.length:Int)):=by omega
  simp only [List.getElem?_eq_getElem h,Option.bind_some,h1,decide_false,cond_false,cond_true]
  by_cases h2:(cU m.aS m.aY i).2=0
  ·have:u9 b m.aD[i] 0=-1:=by simp [u9,am]
   simp [h2,this]
  ·have:((cU m.aS m.aY i).2 == 0)=false:=by simpa using h2
   simp [this]
 ·have h1:((i:Int)≥(m.aD.length:Int)):=by omega
  simp only [List.getElem?_eq_none (show m.aD.length≤i by omega),h1,decide_true,cond_true]
  cases ((cU m.aS m.aY i).2 == 0) <;> simp
theorem Oi (u:Nat) {n:Nat} (h:n≤40):rH u n=some ((2 ^ n - 1:Nat):Int):=by
 unfold rH
 have h1:am (n:Int) 0 40=true:=by simp [am]; omega
 rw [bU,h1]
 simp only [Option.bind_some,Bool.not_true,cond_false]
 have h2:(2:Nat) ^ n≤2 ^ 40:=Nat.pow_le_pow_right (by omega) h
 have h3:0 < (2:Nat) ^ n:=Nat.pow_pos (by omega)
 rw [bA (by omega),LH (by omega)]
 generalize (2:Nat) ^ n=p at *
 rw [cB (by omega) (by omega)]
 simp only [Option.bind_some]
 congr 1
 omega
theorem Be {b:List Int} (h:Hk (lc .u8) b):aF b:=fun x hx=>h.2 x hx
theorem QT:∀ (l:List bM) (b:List Int),(nv b l).length≤b.length+10*l.length:=by
 intro l
 induction l with
 | nil=>intro b; simp [nv]
 | cons s l ih =>
  intro b
  have h1:=ih (b++cW 9 s.fS)
  have h2:=DY 9 s.fS
  simp only [nv,List.length_cons,List.length_append] at h1 ⊢
  omega
def QU (old:List ba):Prop:=∀ x∈old,aF x.fB∧x.fB.length≤1048576
theorem Y0 {l:List ba} (h:Hk ba.wf l) (hb:fO dt l≤1048576):QU l:=fun x hx=>by
 have h1:x.fB.length≤fO dt l:=gD (f:=dt) hx
 exact ⟨Be (h.2 x hx).1,by omega⟩
theorem FZ (b:Bool):(bif b then some true else some false)=some b:=by cases b <;> rfl
def Bf {α:Type} (f:α→α→Bool):List α→List α→Bool
 | x :: xs,y :: ys=>f x y && Bf f xs ys
 | _,_=>true
def M.same {α:Type} (f:α→α→Bool) (xs ys:List α):Bool:=(xs.length == ys.length) && Bf f xs ys
theorem D0 {α:Type} {fin:Unit→Option Bool} {body:α→Nat→Unit→(Unit→Option Bool)→Option Bool} (f:α→α→Bool) {xs ys:List α} (h:xs.length=ys.length) (hb:∀ x y i k,xs[i]?=some x→ys[i]?=some y→body x i () k=bif f x y then k () else some false) :
  bt fin body xs 0 ()=bif Bf f xs ys then fin () else some false:=by
 have:∀ (l m:List α) (i:Nat),l=xs.drop i→m=ys.drop i→bt fin body l i ()=bif Bf f l m then fin () else some false:=by
  intro l
  induction l with
  | nil=>intro m i _ _; simp [bt,Bf]
  | cons x l ih =>
   intro m i h1 h2
   have hlt:i < xs.length:=by have:=congrArg List.length h1; simp at this; omega
   cases m with
   | nil=>have:=congrArg List.length h2; simp at this; omega
   | cons y m =>
    have hx:xs[i]?=some x:=by have:=congrArg List.head? h1; simpa [List.head?_drop] using this.symm
    have hy:ys[i]?=some y:=by have:=congrArg List.head? h2; simpa [List.head?_drop] using this.symm
    have hl:l=xs.drop (i+1):=by have:=congrArg List.tail h1; simpa [List.tail_drop] using this
    have hm:m=ys.drop (i+1):=by have:=congrArg List.tail h2; simpa [List.tail_drop] using this
    simp only [bt,Bf]
    rw [hb x y i _ hx hy,ih m (i+1) hl hm]
    cases f x y <;> simp
 exact this xs ys 0 (by simp) (by simp)
def lN (a b:List Int):Bool:=(strOfNums a).toList == (strOfNums b).toList
theorem wX (u:Nat) (a b:List Int):oq u a b=some (lN a b):=rfl
theorem qG (u:Nat) (a b:List Int):oG u a b=some (lN a b):=rfl
theorem WI (x y:Kid):(([x.fb,x.bw,x.bL,x.qM,x.c8]:List Int) == [y.fb,y.bw,y.bL,y.qM,y.c8])=decide (x=y):=by
 obtain ⟨a0,a1,a2,a3,a4⟩:=x
 obtain ⟨b0,b1,b2,b3,b4⟩:=y
 rw [Bool.eq_iff_iff]; simp
theorem VL (x y:c7):(([x.aP,x.cL,x.aY]:List Int) == [y.aP,y.cL,y.aY])=decide (x=y):=by
 obtain ⟨a0,a1,a2⟩:=x
 obtain ⟨b0,b1,b2⟩:=y
 rw [Bool.eq_iff_iff]; simp
theorem lO {u:Nat} (hu:1099511627776≤u) {a b:List bM} (ha:a.length≤1048576):da u a b=some (M.same (fun x y=>decide (x=y)) a b):=by
 unfold da M.same
 by_cases h:a.length=b.length
 ·have h1:((a.length:Int) != (b.length:Int))=false:=by simp [h]
  simp only [h1,cond_false]
  rw [rY u a b () u (by omega) (by omega),D0 (fun x y=>decide (x=y)) h (fun x y i k hx hy=>by unfold ku; rw [br,hy]; simp only [Option.bind_some,B8]; cases decide (x=y) <;> rfl)]
  simp only [h,beq_self_eq_true,Bool.true_and]
  exact FZ _
 ·have h1:((a.length:Int) != (b.length:Int))=true:=by simp; omega
  have h2:(a.length == b.length)=false:=by simpa using h
  simp [h1,h2]
theorem tF {u:Nat} (hu:1099511627776≤u) {a b:List Kid} (ha:a.length≤1048576):dI u a b=some (M.same (fun x y=>decide (x=y)) a b):=by
 unfold dI M.same
 by_cases h:a.length=b.length
 ·have h1:((a.length:Int) != (b.length:Int))=false:=by simp [h]
  simp only [h1,cond_false]
  rw [sn u a b () u (by omega) (by omega),D0 (fun x y=>decide (x=y)) h (fun x y i k hx hy=>by unfold kz; rw [br,hy]; simp only [Option.bind_some,WI]; cases decide (x=y) <;> rfl)]
  simp only [h,beq_self_eq_true,Bool.true_and]
  exact FZ _
 ·have h1:((a.length:Int) != (b.length:Int))=true:=by simp; omega
  have h2:(a.length == b.length)=false:=by simpa using h
  simp [h1,h2]
theorem Bg {u:Nat} (hu:1099511627776≤u) {a b:List bM} (ha:a.length≤1048576):m7 u a b=some (M.same (fun x y=>decide (x=y)) a b):=by
 unfold m7 M.same
 by_cases h:a.length=b.length
 ·have h1:((a.length:Int) != (b.length:Int))=false:=by simp [h]
  simp only [h1,cond_false]
  rw [EK u a b () u (by omega) (by omega),D0 (fun x y=>decide (x=y)) h (fun x y i k hx hy=>by unfold yr; rw [br,hy]; simp only [Option.bind_some,B8]; cases decide (x=y) <;> rfl)]
  simp only [h,beq_self_eq_true,Bool.true_and]
  exact FZ _
 ·have h1:((a.length:Int) != (b.length:Int))=true:=by simp; omega
  have h2:(a.length == b.length)=false:=by simpa using h
  simp [h1,h2]
def et (a b:af):Bool:=(a.aP == b.aP) && (a.aS == b.aS) && (a.aY == b.aY) && M.same (fun x y=>decide (x=y)) a.aD b.aD
theorem zG {u:Nat} (hu:1099511627776≤u) {a b:af} (ha:a.aD.length≤1048576):nH u a b=some (et a b):=by
 unfold nH et
 rw [lO hu ha]
 cases a.aP == b.aP <;> cases a.aS == b.aS <;> cases a.aY == b.aY <;> simp
theorem pT {u:Nat} (hu:1099511627776≤u) {a b:af} (ha:a.aD.length≤1048576):jL u a b=some (et a b):=by
 unfold jL et
 rw [Bg hu ha]
 cases a.aP == b.aP <;> cases a.aS == b.aS <;> cases a.aY == b.aY <;> simp
def uD (a b:aA):Bool:=(a.fK == b.fK) && (a.bf == b.bf) && (a.be == b.be) && et a.av b.av && (a.a7.aT == b.a7.aT) && lN a.a7.bh b.a7.bh && (a.aJ == b.aJ) && M.same (fun x y=>decide (x=y)) a.aN b.aN && (a.a8 == b.a8)
theorem LI {u:Nat} (hu:1099511627776≤u) {a b:aA} (ha:a.av.aD.length≤1048576) (hk:a.aN.length≤1048576):qm u a b=some (uD a b):=by
 unfold qm uD
 rw [zG hu ha,qG,tF hu hk]
 simp only [Option.bind_some]
 cases a.fK == b.fK <;> cases a.bf == b.bf <;> cases a.be == b.be <;> cases et a.av b.av <;> cases a.a7.aT == b.a7.aT <;> cases lN a.a7.bh b.a7.bh <;> cases a.aJ == b.aJ <;> cases M.same (fun x y=>decide (x=y)) a.aN b.aN <;> rfl
theorem LJ {u:Nat} (hu:1099511627776≤u) {a b:aA} (ha:a.av.aD.length≤1048576) (hk:a.aN.length≤1048576):qh u a b=some (uD a b):=by
 unfold qh d7
 rw [pT hu ha,wX]
 simp only [Option.bind_some,Ct,cond_true]
 have e:a.aN.length=b.aN.length→jr u u 0 a b=some (Bf (fun x y=>decide (x=y)) a.aN b.aN):=fun h=>by
  rw [G2 u a b () u (by omega) (by omega),D0 (fun x y=>decide (x=y)) h (fun x y i k hx hy=>by unfold AR; rw [br,hy]; simp only [Option.bind_some,WI]; cases decide (x=y) <;> rfl)]
  exact FZ _
 unfold uD M.same
 by_cases h:a.aN.length=b.aN.length
 ·have h1:((a.aN.length:Int) == (b.aN.length:Int))=true:=by simp [h]
  have h2:(a.aN.length == b.aN.length)=true:=by simpa using h
  simp only [e h,h1,h2]
  cases a.fK == b.fK <;> cases a.bf == b.bf <;> cases a.be == b.be <;> cases et a.av b.av <;> cases a.a7.aT == b.a7.aT <;> cases lN a.a7.bh b.a7.bh <;> cases a.aJ == b.aJ <;> cases a.a8 == b.a8 <;> simp
 ·have h1:((a.aN.length:Int) == (b.aN.length:Int))=false:=by simp; omega
  have h2:(a.aN.length == b.aN.length)=false:=by simpa using h
  simp only [h1,h2]
  cases a.fK == b.fK <;> cases a.bf == b.bf <;> cases a.be == b.be <;> cases et a.av b.av <;> cases a.a7.aT == b.a7.aT <;> cases lN a.a7.bh b.a7.bh <;> cases a.aJ == b.aJ <;> simp
def Xn (l:List aA):Prop:=∀ x∈l,x.av.aD.length≤1048576∧x.aN.length≤1048576
def Xo (l:List aG):Prop:=∀ x∈l,x.fP.length≤1048576
structure M.WorldOk (w:World):Prop where
 up:w.fT.cy.length≤1048576
 new:w.jh.length≤1048576
 old:w.fZ.length≤1048576
 oldB:QU w.fZ
 n:w.fN.length≤1048576
 nodes:Xn w.fN
 d:w.fD.length≤1048576
 disks:Xo w.fD
 net:w.eo.length≤1048576
 log:w.pX.length≤1048576
theorem worldOk {w:World} (hw:World.wf w) (hb:eT w≤1048576):M.WorldOk w:=by
 have h0:=hb
 unfold eT at h0
 have h1:=gE (f:=dt) w.fZ
 have h2:=gE (f:=dx) w.fN
 have h3:=gE (f:=dn) w.fD
 have h4:=gE (f:=cV) w.eo
 obtain ⟨_,_,_,h5,_⟩:=hw
 have e1:u6 w.fT=w.fT.cy.length:=rfl
 refine ⟨by omega,by omega,by omega,Y0 h5 (by omega),by omega,fun x hx=>?_,by omega,fun x hx=>?_,by omega,by omega⟩
 ·have h6:=gD (f:=dx) hx
  unfold dx lL at h6
  have h7:dx x=x.av.aD.length+(x.a7.bh.length+x.aN.length):=rfl
  have h8:=gD (f:=dx) hx
  omega
 ·have h8:=gD (f:=dn) hx
  have h7:dn x=x.fA.length+(x.fB.length+fO eY x.fP):=rfl
  have h9:=gE (f:=eY) x.fP
  omega
theorem JC (a b:Nat):((a:Int) == (b:Int))=(a == b):=by rw [Bool.eq_iff_iff,beq_iff_eq,beq_iff_eq]; omega
def dD {α:Type} (f:α→Bool):List α→Nat→Int
 | [],_=>-1
 | x :: l,i=>if f x then i else dD f l (i+1)
theorem lP {α:Type} {fin:Unit→Option Int} {body:α→Nat→Unit→(Unit→Option Int)→Option Int} (f:α→Bool) {xs:List α} (hf:fin ()=some (-1)) (hb:∀ x i k,x∈xs→body x i () k=bif f x then some (i:Int) else k ()) :
  bt fin body xs 0 ()=some (dD f xs 0):=by
 have:∀ (l:List α) (i:Nat),(∀ y∈l,y∈xs)→bt fin body l i ()=some (dD f l i):=by
  intro l
  induction l with
  | nil=>intro i _; exact hf
  | cons x l ih =>
   intro i h
   simp only [bt,dD]
   rw [hb x i _ (h x (by simp)),ih (i+1) (fun y hy=>h y (by simp [hy]))]
   cases f x <;> simp
 exact this xs 0 (fun _ h=>h)
theorem ry {α:Type} (f:α→Bool):∀ (l:List α) (i:Nat),decide (dD f l i≥0)=l.any f:=by
 intro l
 induction l with
 | nil=>intro i; rfl
 | cons x l ih =>
  intro i
  rw [List.any_cons,← ih (i+1),Bool.eq_iff_iff]
  simp only [decide_eq_true_eq,Bool.or_eq_true]
  by_cases h:f x=true
  ·simp [dD,h]
  ·simp [dD,h]
def mO (r:c7):Bool:=am r.aP 0 1000000 && am r.cL 0 1 && am r.aY 0 240
theorem Dt (u:Nat) (r:c7):qa u r=some (mO r):=by
 unfold qa mO
 simp only [bU,Option.bind_some]
 cases am r.aP 0 1000000 <;> cases am r.cL 0 1 <;> rfl
theorem Fn (u:Nat) (n:Int):uW u n=some (am n 0 1):=by
 unfold uW am
 by_cases h0:n=0
 ·subst h0; rfl
 ·by_cases h1:n=1
  ·subst h1; rfl
  ·have e0:(n == 0)=false:=by simpa using h0
   have e1:(n == 1)=false:=by simpa using h1
   simp only [e0,e1,cond_false]
   by_cases h:0≤n
   ·have:¬ n≤1:=by omega
    simp [this]
   ·simp [h]
theorem Du (u:Nat) (r:c7):ql u r=some (mO r):=by
 unfold ql uv mO
 simp only [bG,Fn,Option.bind_some]
 cases am r.aP 0 1000000 <;> cases am r.cL 0 1 <;> rfl
def iP (d:aG) (n:Int):List Int:=if n=0 then d.fA else d.fB
theorem D1 (u:Nat) (d:aG) (n:Int):eP u d n=some (iP d n):=by
 unfold eP iP
 by_cases h:n=0
 ·simp [h]
 ·have:(n == 0)=false:=by simpa using h
  simp [h,this]
theorem Ak (u:Nat) (d:aG) {n:Int} (h:am n 0 1=true):pc u d n=some (iP d n):=by
 unfold pc iP
 have:=b9 h
 by_cases h0:n=0
 ·subst h0; rfl
 ·have:n=1:=by omega
  subst this; rfl
def mW (p:cd):Bool:=if p.dY=2 then (p.Cf == 0) && (p.fB.length == 0) && mO p.fR else am p.dY 0 1 && decide (p.fR=⟨0,0,0⟩) && am p.Cf 0 (240 - p.fB.length)
theorem Mu (x:c7):(([x.aP,x.cL,x.aY]:List Int) == [0,0,0])=decide (x=⟨0,0,0⟩):=VL x ⟨0,0,0⟩
theorem Sl (u:Nat) {p:cd} (h:p.fB.length≤1048576):AW u p=some (mW p):=by
 unfold AW mW
 rw [cB (by omega) (by omega)]
 simp only [Du,Fn,bG,Option.bind_some,Mu]
 have e:((p.fB.length:Int) == 0)=(p.fB.length == 0):=JC _ 0
 by_cases h2:p.dY=2
 ·simp only [h2,beq_self_eq_true,cond_true,if_true,e]
  cases p.Cf == 0 <;> cases p.fB.length == 0 <;> rfl
 ·have:(p.dY == 2)=false:=by simpa using h2
  simp only [this,cond_false,h2,if_false]
  cases am p.dY 0 1 <;> cases decide (p.fR=⟨0,0,0⟩) <;> rfl
theorem GJ (u:Nat) {p:cd} (h:p.fB.length≤1048576):uo u p=some (mW p):=by
 unfold uo mW
 simp only [Dt,bU,Option.bind_some,Mu]
 have e:((p.fB.length:Int) == 0)=(p.fB.length == 0):=JC _ 0
 by_cases h2:p.dY=2
 ·simp only [h2,beq_self_eq_true,cond_true,if_true,e]
  cases p.Cf == 0 <;> cases p.fB.length == 0 <;> rfl
 ·have:(p.dY == 2)=false:=by simpa using h2
  simp only [this,cond_false,h2,if_false]
  cases h3:am p.Cf 0 240 with
  | false =>
   have h4:am p.Cf 0 (240 - p.fB.length)=false:=by
    have:=UQ h3
    simp [am]; omega
   rw [h4]
   cases am p.dY 0 1 <;> cases decide (p.fR=⟨0,0,0⟩) <;> rfl
  | true =>
   have h3:=b9 h3
   rw [cB (by omega) (by omega)]
   have h4:am p.Cf 0 (240 - p.fB.length)=decide ((p.fB.length:Int)≤240 - p.Cf):=by
    rw [Bool.eq_iff_iff]; simp [am]; omega
   rw [h4]
   cases am p.dY 0 1 <;> cases decide (p.fR=⟨0,0,0⟩) <;> cases decide ((p.fB.length:Int)≤240 - p.Cf) <;> rfl
def em (d:aG):Bool:=decide (d.fA.length≤240) && decide (d.fB.length≤240) && mO d.fR && decide (d.fR.aY≤(iP d d.fR.cL).length) && decide (d.fP.length≤200) && d.fP.all mW
structure M.DOk (d:aG):Prop where
 a:d.fA.length≤1048576
 b:d.fB.length≤1048576
 p:d.fP.length≤1048576
 puts:∀ x∈d.fP,x.fB.length≤1048576
theorem dok {d:aG} (h:dn d≤1048576):M.DOk d:=by
 have e:dn d=d.fA.length+(d.fB.length+fO eY d.fP):=rfl
 have:=gE (f:=eY) d.fP
 refine ⟨by omega,by omega,by omega,fun x hx=>?_⟩
 have h1:x.fB.length≤fO eY d.fP:=gD (f:=eY) hx
 omega
theorem Oj {u:Nat} (hu:1099511627776≤u) {l:List cd} (hl:l.length≤1048576) (hp:∀ x∈l,x.fB.length≤1048576):b5 u l=some (l.any fun x=>!mW x):=by
 unfold b5 cD
 rw [ka u l () u (by omega) (by omega),lP (fun x=>!mW x) rfl (fun x i k hx=>by unfold ek ti; rw [Sl u (hp x hx)]; rfl)]
 simp only [Option.bind_some,ry]
theorem Fo {α:Type} (f:α→Bool) (l:List α):(!(l.any fun x=>!f x))=l.all f:=by
 induction l with
 | nil=>rfl
 | cons x l ih=>simp only [List.any_cons,List.all_cons,Bool.not_or,Bool.not_not,ih]
theorem Ym (a b:Int):decide (a > b)=!decide (a≤b):=by
 by_cases h:a≤b
 ·have:¬ a > b:=by omega
  simp [h,this]
 ·have:a > b:=by omega
  simp [h,this]
theorem LK (a b:Nat):decide ((a:Int)≤(b:Int))=decide (a≤b):=by rw [decide_eq_decide]; omega
theorem Bh {u:Nat} (hu:1099511627776≤u) {d:aG} (hd:M.DOk d):pi u d=some (em d):=by
 unfold pi oF em
 simp only [Du,D1,Oj hu hd.p hd.puts,Option.bind_some,Fo,Ym]
 have e1:decide ((d.fA.length:Int)≤240)=decide (d.fA.length≤240):=LK _ 240
 have e2:decide ((d.fB.length:Int)≤240)=decide (d.fB.length≤240):=LK _ 240
 have e3:decide ((d.fP.length:Int)≤200)=decide (d.fP.length≤200):=LK _ 200
 rw [e1,e2,e3]
 cases decide (d.fA.length≤240) <;> cases decide (d.fB.length≤240) <;> cases mO d.fR <;> cases decide (d.fR.aY≤(iP d d.fR.cL).length) <;> cases decide (d.fP.length≤200) <;> rfl
theorem LL {u:Nat} (hu:1099511627776≤u) {d:aG} (hd:M.DOk d):mz u u 0 d=some (d.fP.all mW):=by
 have:=hd.p
 rw [Ky u d () u (by omega) (by omega)]
 have:∀ (l:List cd) (i:Nat),(∀ y∈l,y∈d.fP)→bt (CM u d) (xp u d) l i ()=some (l.all mW):=by
  intro l
  induction l with
  | nil=>intro i _; rfl
  | cons x l ih =>
   intro i h
   simp only [bt,xp,GJ u (hd.puts x (h x (by simp))),Option.bind_some,List.all_cons]
   rw [ih (i+1) (fun y hy=>h y (by simp [hy]))]
   cases mW x <;> rfl
 exact this _ 0 (fun _ h=>h)
theorem yb {r:c7} (h:mO r=true):am r.cL 0 1=true∧0≤r.aY∧r.aY≤240:=by
 unfold mO at h
 simp only [Bool.and_eq_true] at h
 exact ⟨h.1.2,(b9 h.2).1,(b9 h.2).2⟩
theorem Bi {u:Nat} (hu:1099511627776≤u) {d:aG} (hd:M.DOk d):pd u d=some (em d):=by
 unfold pd mA em
 have e1:decide ((d.fA.length:Int)≤240)=decide (d.fA.length≤240):=LK _ 240
 have e2:decide ((d.fB.length:Int)≤240)=decide (d.fB.length≤240):=LK _ 240
 have e3:decide ((d.fP.length:Int)≤200)=decide (d.fP.length≤200):=LK _ 200
 simp only [Dt,LL hu hd,Option.bind_some,Ym,e1,e2,e3,cond_true]
 cases h:mO d.fR with
 | false=>cases decide (d.fA.length≤240) <;> cases decide (d.fB.length≤240) <;> rfl
 | true =>
  rw [Ak u d (yb h).1]
  simp only [Option.bind_some]
  cases decide (d.fA.length≤240) <;> cases decide (d.fB.length≤240) <;> cases decide (d.fR.aY≤(iP d d.fR.cL).length) <;> cases decide (d.fP.length≤200) <;> rfl
def eH (d:aG):Int×List Int:=if em d then (d.fR.aP,(iP d d.fR.cL).take d.fR.aY.toNat) else (0,[])
theorem Al {d:aG} (h:em d=true):mO d.fR=true∧d.fR.aY≤(iP d d.fR.cL).length∧d.fA.length≤240∧d.fB.length≤240∧d.fP.length≤200:=by
 unfold em at h
 simp only [Bool.and_eq_true,decide_eq_true_eq] at h
 obtain ⟨⟨⟨⟨⟨h1,h2⟩,h3⟩,h4⟩,h5⟩,h6⟩:=h
 exact ⟨h3,h4,h1,h2,h5⟩
theorem LM {d:aG} (h:em d=true) (n:Int):(iP d n).length≤240:=by
 have:=Al h
 unfold iP; split <;> omega
theorem zH {u:Nat} (hu:1099511627776≤u) {d:aG} (hd:M.DOk d):pz u d=some (eH d):=by
 unfold pz eH
 rw [Bh hu hd,D1]
 simp only [Option.bind_some]
 cases h:em d with
 | false=>rfl
 | true =>
  have h1:=Al h
  have h2:=yb h1.1
  have h3:=LM h d.fR.cL
  obtain ⟨n,hn⟩:=Int.eq_ofNat_of_zero_le h2.2.1
  simp only [Bool.not_true,cond_false,if_true]
  rw [hn] at h1 ⊢
  rw [show (0:Int)=((0:Nat):Int) by rfl,eK (by omega) (by omega)]
  simp only [Option.bind_some,Int.toNat_natCast,List.drop_zero]
  rw [gK u (by simp; omega)]; rfl
theorem Ex {u:Nat} (hu:1099511627776≤u) {d:aG} (hd:M.DOk d):rJ u d=some (eH d):=by
 unfold rJ eH
 rw [Bi hu hd]
 simp only [Option.bind_some]
 cases h:em d with
 | false=>rfl
 | true =>
  have h1:=Al h
  have h2:=yb h1.1
  have h3:=LM h d.fR.cL
  obtain ⟨n,hn⟩:=Int.eq_ofNat_of_zero_le h2.2.1
  rw [Ak u d h2.1]
  simp only [Bool.not_true,cond_false,if_true,Option.bind_some]
  rw [hn] at h1 ⊢
  rw [show (0:Int)=((0:Nat):Int) by rfl,eK (by omega) (by omega)]
  simp only [Option.bind_some,Int.toNat_natCast,List.drop_zero]
  rw [bA (by simp; omega)]; rfl
def M.holds (d:aG) (gen:Int) (b:List Int):Bool:=((eH d).1 == gen) && lN (eH d).2 b
theorem GK {u:Nat} (hu:1099511627776≤u) {d:aG} (hd:M.DOk d) (gen:Int) (b:List Int):uw u d gen b=some (M.holds d gen b):=by
 unfold uw M.holds
 rw [zH hu hd]
 simp only [Option.bind_some,qG]
 cases (eH d).1 == gen <;> rfl
theorem yd {u:Nat} (hu:1099511627776≤u) {d:aG} (hd:M.DOk d) (gen:Int) (b:List Int):nS u d gen b=some (M.holds d gen b):=by
 unfold nS M.holds
 rw [Ex hu hd]
 simp only [Option.bind_some,wX]
 cases (eH d).1 == gen <;> rfl
structure M.DsOk (w:World):Prop where
 d:w.fD.length≤1048576
 old:w.fZ.length≤1048576
 ok:∀ x∈w.fD,M.DOk x
theorem qau {w:World} (h:eT w≤1048576):M.DsOk w:=by
 have h0:=h
 unfold eT at h0
 have h1:=gE (f:=dt) w.fZ
 have h3:=gE (f:=dn) w.fD
 refine ⟨by omega,by omega,fun x hx=>dok ?_⟩
 have:=gD (f:=dn) hx
 omega
structure M.NdOk (w:World):Prop where
 new:aF w.jh
 newL:w.jh.length≤1048576
 old:w.fZ.length≤1048576
 oldB:QU w.fZ
theorem qav {w:World} (hw:World.wf w) (h:eT w≤1048576):M.NdOk w:=⟨Be hw.2.2.1,(worldOk hw h).new,(worldOk hw h).old,(worldOk hw h).oldB⟩
def uk (w:World):af:=JA 1 w.jh w.fC.aS
theorem Sm {u:Nat} (hu:1099511627776≤u) {w:World} (hw:M.NdOk w):AU u w=some (uk w):=by
 unfold AU
 have:=hw.newL
 rw [Sj hu hw.new (by omega)]; rfl
theorem Sn {u:Nat} (hu:1099511627776≤u) {w:World} (hw:M.NdOk w):AG u w=some (uk w):=by
 unfold AG
 have:=hw.newL
 rw [Sk hu hw.new (by omega)]; rfl
theorem QV {u:Nat} (hu:1099511627776≤u) {r:List Int} (hr:r.length≤1048576) (k:Int):yv u r k=some (r.any fun y=>y == k):=by
 unfold yv
 rw [Kr u r k () u (by omega) (by omega)]
 have:∀ (l:List Int) (i:Nat),bt (CI u r k) (xo u r k) l i ()=some (l.any fun y=>y == k):=by
  intro l
  induction l with
  | nil=>intro i; rfl
  | cons y l ih =>
   intro i
   simp only [bt,xo,List.any_cons]
   rw [ih (i+1)]
   cases y == k <;> rfl
 exact this r 0
theorem zI {u:Nat} (hu:1099511627776≤u) {r:List Int} (hr:r.length≤1048576) (k:Int):fL u r k=some (r.any fun y=>y == k):=by
 unfold fL lB
 rw [Ae u r k () u (by omega) (by omega),lP (fun y=>k == y) rfl (fun x i k hx=>by unfold qC; rfl)]
 simp only [Option.bind_some,ry]
 congr 2
 funext y
 exact Bool.eq_iff_iff.2 (by simp only [beq_iff_eq]; exact ⟨Eq.symm,Eq.symm⟩)
theorem LN {ρ:Type} (J:List Int→Option ρ) (n:Int) (hn:n≤1048576) (L:Nat→List Int→Option ρ) (hL:∀ k x,L (k+1) x=bif decide ((x.length:Int) < n) then ((dW (decide ((x.length+([0]:List Int).length)*1≤140737488355328))).bind fun _=>L k (x++[0])) else J x) :
  ∀ (m k:Nat) (x:List Int),(x.length+m=n.toNat∨(m=0∧n≤x.length))→m < k→L k x=J (x++List.replicate m 0):=by
 intro m
 induction m with
 | zero =>
  intro k x h1 h2
  obtain ⟨k,rfl⟩:∃ j,k=j+1:=⟨k - 1,by omega⟩
  have e:¬ ((x.length:Int) < n):=by omega
  rw [hL]; simp [e]
 | succ m ih =>
  intro k x h1 h2
  obtain ⟨k,rfl⟩:∃ j,k=j+1:=⟨k - 1,by omega⟩
  have e:(x.length:Int) < n:=by omega
  rw [hL,bA (by simp; omega)]
  simp only [e,decide_true,cond_true,Option.bind_some]
  rw [ih k _ (by simp; omega) (by omega),List.append_assoc]
  rfl
theorem QW {α ρ:Type} {fin:List α→Option ρ} {body:α→Nat→List α→(List α→Option ρ)→Option ρ} (n:Nat) (p:List α) (hb:∀ x i s k,x∈p→s.length+1≤n→body x i s k=k (s++[x])) :
  ∀ (l:List α) (i:Nat) (s:List α),(∀ x∈l,x∈p)→s.length+l.length≤n→bt fin body l i s=fin (s++l):=by
 intro l
 induction l with
 | nil=>intro i s _ _; simp [bt]
 | cons x l ih =>
  intro i s h1 h2
  simp only [List.length_cons] at h2
  simp only [bt]
  rw [hb x i s _ (h1 x (by simp)) (by omega),ih (i+1) _ (fun y hy=>h1 y (by simp [hy])) (by simp; omega)]
  simp
theorem Fq {u:Nat} (hu:1099511627776≤u) {d:aG} (hd:M.DOk d):uO u d=some d:=by
 have h1:=hd.a
 have h2:=hd.b
 have h3:=hd.p
 unfold uO
 rw [bA (by simp; omega),bA (by simp; omega)]
 simp only [Option.bind_some]
 rw [KA u d _ u (by omega) (by omega),QW 1048576 d.fP _ d.fP 0 [] (fun _ h=>h) (by simp; omega)]
 ·rfl
 ·intro x i s k hx hs
  have h4:=hd.puts x hx
  unfold CN qS
  rw [bA (by simp; omega)]
  simp only [Option.bind_some]
  rw [bA (by simp; omega)]; rfl
theorem LO {u:Nat} (hu:1099511627776≤u) {d:aG} (hd:M.DOk d):tj u d=some d:=by
 have h1:=hd.a
 have h2:=hd.b
 have h3:=hd.p
 unfold tj
 rw [gK u (show d.fA.length≤1073741824 by omega),gK u (show d.fB.length≤1073741824 by omega)]
 simp only [Option.bind_some]
 rw [G4 u d d.fA d.fB _ u (by omega) (by omega),QW 1048576 d.fP _ d.fP 0 [] (fun _ h=>h) (by simp; omega)]
 ·rfl
 ·intro x i s k hx hs
  have h4:=hd.puts x hx
  unfold AX vZ
  rw [gK u (show x.fB.length≤1073741824 by omega)]
  simp only [Option.bind_some]
  rw [bA (by simp; omega)]; rfl
def Mv (b:List Int) (a:Nat) (p:List Int):List Int:=zZ (b++List.replicate (a+p.length - b.length) 0) p a
theorem JD {x p:List Int} {a:Nat} (h:a+p.length≤x.length):zZ x p a=x.take a++p++x.drop (a+p.length):=by
 unfold zZ
 rw [List.take_of_length_le (l:=p) (by omega),Nat.min_eq_left (by omega)]
theorem QX (b:List Int) (a:Nat) (p:List Int):(Mv b a p).length=max b.length (a+p.length):=by
 unfold Mv
 rw [JD (by simp; omega)]
 simp
 omega
theorem Z6 (u:Nat) (a:Nat) (p:List Int) (ha:a≤1048576):∀ (l:List Int) (i:Nat) (s:List Int),a+i+l.length≤s.length→s.length≤4194304→bt (zh u a p) (zi u a p) l i s=some (s.take (a+i)++l++s.drop (a+i+l.length)):=by
 intro l
 induction l with
 | nil=>intro i s _ _; simp [bt,zh,xP]
 | cons y l ih =>
  intro i s h1 h2
  simp only [List.length_cons] at h1
  simp only [bt,zi]
  rw [dJ (by omega) (by omega),show (a:Int)+(i:Int)=((a+i:Nat):Int) by omega,br,List.getElem?_eq_getElem (by omega),Int.toNat_natCast]
  simp only [Option.bind_some]
  rw [ih (i+1) _ (by simp; omega) (by simp; omega)]
  have e1:(s.set (a+i) y).take (a+(i+1))=s.take (a+i)++[y]:=by
   rw [show a+(i+1)=(a+i)+1 by omega,List.take_add_one,List.take_set_of_le (Nat.le_refl _)]
   simp [show a+i < s.length by omega]
  have e2:(s.set (a+i) y).drop (a+(i+1)+l.length)=s.drop (a+i+(y :: l).length):=by
   rw [List.drop_set_of_lt (by omega)]; simp only [List.length_cons]; congr 1; omega
  rw [e1,e2]; simp
theorem GL {u:Nat} (hu:1099511627776≤u) {b p:List Int} {a:Nat} (hb:b.length≤1048576) (hp:a+p.length≤1048576):xq u b a p=some (Mv b a p):=by
 unfold xq
 rw [bA (by simp; omega)]
 simp only [Option.bind_some,List.nil_append]
 have e:aX .i64 (a:Int) (p.length:Int)=((a+p.length:Nat):Int):=by rw [dJ (by omega) (by omega)]; omega
 rw [LN (fun x=>xQ u a p x) ((a+p.length:Nat):Int) (by omega) (fun k x=>s5 u k a p x) (fun k x=>by rw [← e]; rfl) (a+p.length - b.length) u b (by rw [Int.toNat_natCast]; omega) (by omega)]
 unfold xQ
 rw [ML u a p _ u (by omega) (by omega),Z6 u a p (by omega) p 0 _ (by simp; omega) (by simp; omega)]
 unfold Mv
 rw [JD (by simp; omega)]; simp
def Bj (d:aG) (p:cd):aG:=if p.dY=2 then ⟨d.fA,d.fB,p.fR,d.fP⟩ else if p.dY=0 then ⟨Mv d.fA p.Cf.toNat p.fB,d.fB,d.fR,d.fP⟩ else ⟨d.fA,Mv d.fB p.Cf.toNat p.fB,d.fR,d.fP⟩
theorem Fs {p:cd} (h:mW p=true):p.dY=2∨((p.dY=0∨p.dY=1)∧0≤p.Cf∧p.Cf+p.fB.length≤240):=by
 unfold mW at h
 by_cases h2:p.dY=2
 ·exact .inl h2
 ·rw [if_neg h2] at h
  simp only [Bool.and_eq_true] at h
  have h3:=b9 h.1.1
  have h4:=b9 h.2
  exact .inr ⟨by omega,by omega,by omega⟩
theorem S8 {d:aG} {p:cd} (hd:M.DOk d) (h:mW p=true):M.DOk (Bj d p):=by
 have h1:=hd.a
 have h2:=hd.b
 unfold Bj
 rcases Fs h with h | ⟨h3,h4,h5⟩
 ·rw [if_pos h]; exact ⟨hd.a,hd.b,hd.p,hd.puts⟩
 ·split
  ·exact ⟨hd.a,hd.b,hd.p,hd.puts⟩
  ·split
   ·exact ⟨by rw [QX]; omega,hd.b,hd.p,hd.puts⟩
   ·exact ⟨hd.a,by rw [QX]; omega,hd.p,hd.puts⟩
theorem QY {u:Nat} (hu:1099511627776≤u) {d:aG} {p:cd} (hd:M.DOk d) (hp:p.fB.length≤1048576) (h:mW p=true):qU u d p=some (Bj d p):=by
 have h1:=hd.a
 have h2:=hd.b
 unfold qU Bj
 rw [Fq hu hd,GJ u hp,h]
 simp only [Option.bind_some,Bool.not_true,cond_false]
 rcases Fs h with h | ⟨h3,h4,h5⟩
 ·rw [h]; rfl
 ·obtain ⟨a,ha⟩:=Int.eq_ofNat_of_zero_le h4
  rcases h3 with h3 | h3
  ·rw [h3,ha,GL hu h1 (by omega)]; rfl
  ·rw [h3,ha,GL hu h2 (by omega)]; rfl
theorem UV (b:List Int) (a n:Nat):dW (Gy (a:Int) (((b++List.replicate (a+n - b.length) (0:Int)).length:Nat):Int))=some ():=by
 have:Gy (a:Int) (((b++List.replicate (a+n - b.length) (0:Int)).length:Nat):Int)=true:=by
  simp only [Gy,Bool.and_eq_true,decide_eq_true_eq,List.length_append,List.length_replicate]; omega
 rw [this]; rfl
theorem Ok {u:Nat} (hu:1099511627776≤u) {d:aG} {p:cd} (hd:M.DOk d) (h:mW p=true):js u d p=some (Bj d p):=by
 have h1:=hd.a
 have h2:=hd.b
 unfold js Bj ua
 rcases Fs h with h | ⟨h3,h4,h5⟩
 ·rw [h]; rfl
 ·obtain ⟨a,ha⟩:=Int.eq_ofNat_of_zero_le h4
  have e:aX .i64 (a:Int) (p.fB.length:Int)=((a+p.fB.length:Nat):Int):=by rw [dJ (by omega) (by omega)]; omega
  rcases h3 with h3 | h3
  ·rw [h3,ha]
   show gC u u p d.fA (0,d)=some ⟨Mv d.fA a p.fB,d.fB,d.fR,d.fP⟩
   rw [LN (fun x=>mU u p x (0,d)) ((a+p.fB.length:Nat):Int) (by omega) (fun k x=>gC u k p x (0,d)) (fun k x=>by rw [← e,← ha]; rfl) (a+p.fB.length - d.fA.length) u d.fA (by rw [Int.toNat_natCast]; omega) (by omega)]
   unfold mU
   rw [ha,UV d.fA a p.fB.length]
   rfl
  ·rw [h3,ha]
   show gB u u p (1,d) d.fB=some ⟨d.fA,Mv d.fB a p.fB,d.fR,d.fP⟩
   rw [LN (fun x=>mT u p (1,d) x) ((a+p.fB.length:Nat):Int) (by omega) (fun k x=>gB u k p (1,d) x) (fun k x=>by rw [← e,← ha]; rfl) (a+p.fB.length - d.fB.length) u d.fB (by rw [Int.toNat_natCast]; omega) (by omega)]
   unfold mT
   rw [ha,UV d.fB a p.fB.length]
   rfl
theorem Mw {d:aG} (h:em d=true):∀ p∈d.fP,mW p=true:=by
 unfold em at h
 simp only [Bool.and_eq_true] at h
 exact List.all_eq_true.1 h.2
def tup (d:aG):List Int×List Int×Int×Int×Int×List cd:=(d.fA,d.fB,d.fR.aP,d.fR.cL,d.fR.aY,d.fP)
def HH (d:aG) (a:List Int) (g:Int) (b:List Int):Bool:=M.holds d 0 a || M.holds d g b
theorem LP {u:Nat} (hu:1099511627776≤u) {d:aG} (hd:M.DOk d) (a:List Int) (g:Int) (b:List Int):s4 u d a g b=some (HH d a g b):=by
 unfold s4 HH
 rw [yd hu hd,yd hu hd]
 cases M.holds d 0 a <;> rfl
def QZ:List cd→aG→aG
 | [],d=>⟨d.fA,d.fB,d.fR,[]⟩
 | p :: l,d=>QZ l (Bj d p)
def Ft (d:aG):aG:=if em d then QZ d.fP d else d
theorem UW {u:Nat} (hu:1099511627776≤u) (d0:aG):∀ (l:List cd) (i:Nat) (d:aG),(∀ p∈l,mW p=true∧p.fB.length≤1048576)→M.DOk d→bt (AN u d0) (AO u d0) l i (tup d)=some (QZ l d):=by
 intro l
 induction l with
 | nil=>intro i d _ _; rfl
 | cons p l ih =>
  intro i d hp hd
  obtain ⟨h1,h2⟩:=hp p (by simp)
  show (qU u d p).bind (fun r25=>bt (AN u d0) (AO u d0) l (i+1) (tup r25))=_
  rw [QY hu hd h2 h1]
  exact ih (i+1) _ (fun q hq=>hp q (by simp [hq])) (S8 hd h1)
theorem TR {u:Nat} (hu:1099511627776≤u) {d:aG} (hd:M.DOk d):CO u d=some (Ft d):=by
 have h3:=hd.p
 unfold CO Ft
 rw [Fq hu hd,Bi hu hd]
 simp only [Option.bind_some]
 cases h:em d with
 | false=>rfl
 | true =>
  simp only [Bool.not_true,cond_false,if_true]
  have:=OV u d (tup d) u (by omega) (by omega)
  exact this.trans (UW hu d d.fP 0 d (fun p hp=>⟨Mw h p hp,hd.puts p hp⟩) hd)
def Q0 (c:Int):Option (Int×Nat)→Option (Int×Nat)
 | some (v,n)=>some (v*128+(c - 128),n+1)
 | none=>none
def M.rd:Nat→Bool→List Int→Option (Int×Nat)
 | 0,_,_=>none
 | _+1,_,[]=>none
 | k+1,f,c :: l=>if c < 128 then (if f || decide (0 < c) then some (c,1) else none) else Q0 c (M.rd k false l)
theorem ZE:∀ (k:Nat) (f:Bool) (l:List Int) (w:Int) (j:Nat),aF l→M.rd k f l=some (w,j)→0≤w∧(f=false→0 < w)∧j≤l.length∧1≤j∧w < 128 ^ k∧∀ K,k≤K+1→l.take j=cW K w:=by
 intro k
 induction k with
 | zero=>intro f l w j _ h; simp [M.rd] at h
 | succ k ih =>
  intro f l w j hb h
  cases l with
  | nil=>simp [M.rd] at h
  | cons c l =>
   have hc:=hb c (by simp)
   unfold M.rd at h
   by_cases hc1:c < 128
   ·rw [if_pos hc1] at h
    split at h
    ·rename_i hf
     simp only [Option.some.injEq,Prod.mk.injEq] at h
     obtain ⟨rfl,rfl⟩:=h
     have hp:(128:Int)≤128 ^ (k+1):=by
      rw [Int.pow_succ]; have:(0:Int) < 128 ^ k:=Int.pow_pos (by decide); omega
     refine ⟨hc.1,fun h0=>by subst h0; simpa using hf,by simp,by omega,by omega,fun K _=>?_⟩
     cases K with
     | zero=>simp [cW]; omega
     | succ K=>unfold cW; rw [if_pos (by omega)]; simp; omega
    ·cases h
   ·rw [if_neg hc1] at h
    cases hr:M.rd k false l with
    | none=>rw [hr] at h; cases h
    | some q =>
     obtain ⟨v,n⟩:=q
     rw [hr] at h
     simp only [Q0,Option.some.injEq,Prod.mk.injEq] at h
     obtain ⟨rfl,rfl⟩:=h
     obtain ⟨h1,h2,h3,h4,h5,h6⟩:=ih false l v n (fun x hx=>hb x (by simp [hx])) hr
     have h2:=h2 rfl
     have hk:k≠0:=by intro h0; subst h0; simp [M.rd] at hr
     refine ⟨by omega,fun _=>by omega,by simp; omega,by omega,by rw [Int.pow_succ]; omega,fun K hK=>?_⟩
     obtain ⟨K,rfl⟩:∃ K',K=K'+1:=⟨K - 1,by omega⟩
     unfold cW
     rw [if_neg (by omega),List.take_succ_cons,h6 K (by omega)]
     congr 1
     ·omega
     ·congr 1; omega
theorem ZF:∀ (k K:Nat) (f:Bool) (n:Int) (t:List Int),1≤k→0≤n→(f=false→0 < n)→n < 128 ^ k→k≤K+1→M.rd k f (cW K n++t)=some (n,(cW K n).length):=by
 intro k
 induction k with
 | zero=>intro K f n t h0; omega
 | succ k ih =>
  intro K f n t h0 h1 h2 h3 h4
  by_cases h:n≤127
  ·have e:cW K n=[n]:=by
    cases K with
    | zero=>simp [cW]; omega
    | succ K=>unfold cW; rw [if_pos h]; simp; omega
   rw [e]
   simp only [List.singleton_append,M.rd,List.length_singleton]
   rw [if_pos (by omega),if_pos (by cases f <;> simp; exact h2 rfl)]
  ·have hk:k≠0:=by
    intro h0; subst h0
    rw [show (128:Int) ^ (0+1)=128 by rfl] at h3; omega
   obtain ⟨K,rfl⟩:∃ K',K=K'+1:=⟨K - 1,by omega⟩
   unfold cW
   rw [if_neg h]
   simp only [List.cons_append,M.rd]
   rw [if_neg (by omega),ih K false (n / 128) t (by omega) (by omega) (fun _=>by omega) (by rw [Int.pow_succ] at h3; omega) (by omega)]
   simp only [Q0,List.length_cons,Option.some.injEq,Prod.mk.injEq,and_true]
   omega
theorem Q1 {a n:Nat} (hn:n≤62) (h:a*2 ^ n < 9223372036854775808):i4 .i64 (a:Int) (n:Int)=((a*2 ^ n:Nat):Int):=by
 unfold i4
 rw [show min (Int.toNat (n:Int)) (IntKind.bits .i64)=n by simp [IntKind.bits]; omega]
 have e:(a:Int)*2 ^ n=((a*2 ^ n:Nat):Int):=by simp
 rw [e]
 exact wrap_i64 (by omega) (by omega)
theorem Yn {v a n:Nat} (hv:v < 2 ^ n):v ||| a*2 ^ n=v+a*2 ^ n:=by
 have h:=Nat.shiftLeft_add_eq_or_of_lt hv a
 rw [Nat.shiftLeft_eq] at h
 rw [Nat.or_comm,← h,Nat.add_comm]
theorem VM {v i:Nat} {c:Int} (hi:i≤7) (hv:v < 2 ^ (7*i)) (h1:0≤c) (h2:c≤255):sV .i64 (v:Int) (i4 .i64 (fx .i64 (IntKind.wrap .i64 c) 127) (gR .i64 7 (i:Int)))=((v+(c % 128).toNat*2 ^ (7*i):Nat):Int)∧v+(c % 128).toNat*2 ^ (7*i) < 2 ^ (7*(i+1)):=by
 have hp:(2:Nat) ^ (7*i)≤2 ^ 49:=Nat.pow_le_pow_right (by omega) (by omega)
 have hq:(2:Nat) ^ (7*(i+1))=128*2 ^ (7*i):=by rw [Nat.mul_add,Nat.pow_add,Nat.mul_comm]
 have hc:(c % 128).toNat < 128:=by omega
 have hm:(c % 128).toNat*2 ^ (7*i)≤127*2 ^ (7*i):=Nat.mul_le_mul_right _ (by omega)
 rw [wrap_i64 (by omega) (by omega),TN,lw (by omega) (by omega),show (7:Int)*(i:Int)=((7*i:Nat):Int) by omega,show c % 128=(((c % 128).toNat:Nat):Int) by omega]
 rw [show (((c % 128).toNat:Nat):Int).toNat=(c % 128).toNat by omega]
 have hp2:(2:Nat) ^ 49=562949953421312:=by decide
 rw [Q1 (by omega) (by omega),FY (by omega) (by omega),Yn hv]
 exact ⟨rfl,by omega⟩
def qH (o:Option (Int×Nat)) (v i a:Nat) (r:Int×Int×Bool):Prop:=match o with
 | some (w,j)=>r=((v:Int)+w*2 ^ (7*i),((a+j:Nat):Int),true)
 | none=>r.2.2=false
theorem Q2 {o:Option (Int×Nat)} {v i a x:Nat} {c:Int} {r:Int×Int×Bool} (hx:(x:Int)=c - 128) (h:qH o (v+x*2 ^ (7*i)) (i+1) (a+1) r):qH (Q0 c o) v i a r:=by
 cases o with
 | none=>exact h
 | some q =>
  obtain ⟨w,j⟩:=q
  unfold qH at h
  unfold qH Q0
  dsimp only at h ⊢
  rw [h]
  refine Prod.ext ?_ (Prod.ext ?_ rfl)
  ·dsimp only
   rw [show 7*(i+1)=7*i+7 by omega,Int.pow_add,← hx]
   have:((v+x*2 ^ (7*i):Nat):Int)=(v:Int)+(x:Int)*2 ^ (7*i):=by simp
   rw [this]
   generalize (2:Int) ^ (7*i)=p
   rw [show (2:Int) ^ 7=128 by rfl,Int.add_mul,Int.mul_assoc w 128 p,Int.mul_comm p 128]
   omega
  ·dsimp only; omega
theorem Q3 {α:Type} {b:List α} {a:Nat} (h:a < b.length):b.drop a=b[a] :: b.drop (a+1):=List.drop_eq_getElem_cons h
theorem Xp (u:Nat) {b:List Int} (hb:aF b) (hl:b.length≤1048576) (a n:Nat) (hn:n≤8):∀ (m i k v:Nat),i+m=n→m < k→v < 2 ^ (7*i)→∃ r,fv u k b a v n i=some r∧qH (M.rd m (i == 0) (b.drop (a+i))) v i (a+i) r:=by
 intro m
 induction m with
 | zero =>
  intro i k v h1 h2 h3
  obtain ⟨k,rfl⟩:∃ j,k=j+1:=⟨k - 1,by omega⟩
  have e:¬ ((i:Int) < (n:Int)):=by omega
  refine ⟨(0,0,false),?_,rfl⟩
  unfold fv uc
  simp only [e,decide_false,cond_false]
 | succ m ih =>
  intro i k v h1 h2 h3
  obtain ⟨k,rfl⟩:∃ j,k=j+1:=⟨k - 1,by omega⟩
  have e:(i:Int) < (n:Int):=by omega
  unfold fv
  simp only [e,decide_true,cond_true]
  rw [cB (a:=(b.length:Int)) (by omega) (by omega),cB (by omega) (by omega),bG]
  simp only [Option.bind_some]
  by_cases ha:a+i < b.length
  ·rw [show am (a:Int) 0 ((b.length:Int) - 1 - (i:Int))=true by simp [am]; omega,Q3 ha,dJ (a:=(a:Int)) (by omega) (by omega),show (a:Int)+(i:Int)=((a+i:Nat):Int) by omega,br,List.getElem?_eq_getElem ha]
   have hc:=hb b[a+i] (List.getElem_mem ha)
   obtain ⟨e1,e2⟩:=VM (i:=i) (by omega) h3 hc.1 hc.2
   simp only [Bool.not_true,cond_false,Option.bind_some]
   rw [e1,lw (by omega) (by omega),bA (by omega),wrap_i64 (by omega) (by omega),dJ (a:=((a+i:Nat):Int)) (by omega) (by omega),jw (by omega)]
   simp only [Option.bind_some,M.rd]
   by_cases hc1:b[a+i] < 128
   ·simp only [hc1,decide_true,cond_true,if_true]
    have hv:((v+(b[a+i] % 128).toNat*2 ^ (7*i):Nat):Int)=(v:Int)+b[a+i]*2 ^ (7*i):=by
     have:((v+(b[a+i] % 128).toNat*2 ^ (7*i):Nat):Int)=(v:Int)+(((b[a+i] % 128).toNat:Nat):Int)*2 ^ (7*i):=by simp
     rw [this,show (((b[a+i] % 128).toNat:Nat):Int)=b[a+i] by omega]
    rw [hv]
    by_cases h0:i=0
    ·subst h0
     refine ⟨_,rfl,?_⟩
     simp [qH]
    ·have e3:((i:Int) == 0)=false:=by simp; omega
     have e4:(i == 0)=false:=by simpa using h0
     simp only [e3,e4,cond_false,Bool.false_or]
     refine ⟨_,rfl,?_⟩
     by_cases hc2:0 < b[a+i]
     ·have hc3:b[a+i] > 0:=hc2
      simp only [hc2,hc3,decide_true,if_true,qH]
      refine Prod.ext rfl (Prod.ext ?_ rfl)
      dsimp only; omega
     ·have hc3:¬ b[a+i] > 0:=hc2
      simp only [hc2,hc3,decide_false,Bool.false_eq_true,if_false,qH]
   ·simp only [hc1,decide_false,cond_false,if_false]
    obtain ⟨r,g1,g2⟩:=ih (i+1) k _ (by omega) (by omega) e2
    refine ⟨r,g1,Q2 (x:=(b[a+i] % 128).toNat) (by omega) ?_⟩
    rw [show (i+1 == 0)=false by rfl] at g2
    exact g2
  ·rw [show am (a:Int) 0 ((b.length:Int) - 1 - (i:Int))=false by simp [am]; omega,List.drop_of_length_le (by omega)]
   exact ⟨(0,0,false),rfl,rfl⟩
def sR (n:Nat) (b:List Int) (a:Int):Option (Int×Int):=if 0≤a then match M.rd n true (b.drop a.toNat) with
  | some (v,j)=>some (v,a+j)
  | none=>none
 else none
theorem Q4 {u:Nat} (hu:1099511627776≤u) {b:List Int} (hb:aF b) (hl:b.length≤1048576) (a:Int) (n:Nat) (h1:1≤n) (hn:n≤8):∃ r,pA u b a n=some r∧(match sR n b a with | some (v,e)=>r=(v,e,true) | none=>r.2.2=false):=by
 unfold pA sR
 by_cases ha:0≤a
 ·obtain ⟨a,rfl⟩:=Int.eq_ofNat_of_zero_le ha
  obtain ⟨r,g1,g2⟩:=Xp u hb hl a n hn n 0 u 0 (by omega) (by omega) (by simp)
  refine ⟨r,g1,?_⟩
  rw [if_pos ha,Int.toNat_natCast]
  rw [Nat.add_zero] at g2
  unfold qH at g2
  cases hr:M.rd n true (b.drop a) with
  | none=>rw [show ((0 == 0:Bool))=true by rfl,hr] at g2; exact g2
  | some q=>obtain ⟨w,j⟩:=q; rw [show ((0 == 0:Bool))=true by rfl,hr] at g2; simpa using g2
 ·obtain ⟨u,rfl⟩:∃ j,u=j+1:=⟨u - 1,by omega⟩
  rw [if_neg ha]
  refine ⟨(0,0,false),?_,rfl⟩
  unfold fv
  have e:(0:Int) < (n:Int):=by omega
  simp only [e,decide_true,cond_true]
  rw [cB (a:=(b.length:Int)) (by omega) (by omega),cB (by omega) (by omega),bG,show am a 0 ((b.length:Int) - 1 - 0)=false by simp [am]; omega]
  rfl
def a9 (b:List Int) (a:Int):Int×Int×Bool:=match sR 6 b a with
 | some (v,e)=>if v≤1000000000000 then (v,e,true) else (0,0,false)
 | none=>(0,0,false)
theorem wY {u:Nat} (hu:1099511627776≤u) {b:List Int} (hb:aF b) (hl:b.length≤1048576) (a:Int):nJ u b a=some (a9 b a):=by
 obtain ⟨r,g1,g2⟩:=Q4 hu hb hl a 6 (by omega) (by omega)
 unfold nJ a9
 rw [show ((6:Nat):Int)=6 by rfl] at g1
 rw [g1]
 simp only [Option.bind_some]
 cases hr:sR 6 b a with
 | none=>rw [hr] at g2; rw [g2]; rfl
 | some q =>
  obtain ⟨v,e⟩:=q
  rw [hr] at g2
  rw [g2]
  by_cases h:v≤1000000000000
  ·have:¬ v > 1000000000000:=by omega
   simp [h,this,re]
  ·have:v > 1000000000000:=by omega
   simp [h,this,re]
theorem VN (u:Nat) {b:List Int} (hb:aF b) (hl:b.length≤1048576) (a:Nat):∀ (m i k v:Nat),i+m=8→m < k→v < 2 ^ (7*i)→∃ r,fE u k b a v i=some r∧qH (M.rd m (i == 0) (b.drop (a+i))) v i (a+i) r:=by
 intro m
 induction m with
 | zero =>
  intro i k v h1 h2 h3
  obtain ⟨k,rfl⟩:∃ j,k=j+1:=⟨k - 1,by omega⟩
  have e:¬ ((i:Int) < 8):=by omega
  refine ⟨(0,0,false),?_,rfl⟩
  unfold fE rL
  simp only [e,decide_false,cond_false]
 | succ m ih =>
  intro i k v h1 h2 h3
  obtain ⟨k,rfl⟩:∃ j,k=j+1:=⟨k - 1,by omega⟩
  have e:(i:Int) < 8:=by omega
  unfold fE
  simp only [e,decide_true,cond_true]
  rw [cB (a:=(b.length:Int)) (by omega) (by omega)]
  by_cases ha:a+i < b.length
  ·have e0:¬ ((a:Int)≥(b.length:Int) - (i:Int)):=by omega
   rw [Q3 ha,dJ (a:=(a:Int)) (by omega) (by omega),show (a:Int)+(i:Int)=((a+i:Nat):Int) by omega,br,List.getElem?_eq_getElem ha]
   have hc:=hb b[a+i] (List.getElem_mem ha)
   obtain ⟨e1,e2⟩:=VM (i:=i) (by omega) h3 hc.1 hc.2
   simp only [e0,decide_false,cond_false,Option.bind_some]
   rw [e1,lw (by omega) (by omega),bA (by omega),wrap_i64 (by omega) (by omega),dJ (a:=((a+i:Nat):Int)) (by omega) (by omega),jw (by omega)]
   simp only [Option.bind_some,M.rd]
   by_cases hc1:b[a+i] < 128
   ·simp only [hc1,decide_true,cond_true,if_true]
    have hv:((v+(b[a+i] % 128).toNat*2 ^ (7*i):Nat):Int)=(v:Int)+b[a+i]*2 ^ (7*i):=by
     have:((v+(b[a+i] % 128).toNat*2 ^ (7*i):Nat):Int)=(v:Int)+(((b[a+i] % 128).toNat:Nat):Int)*2 ^ (7*i):=by simp
     rw [this,show (((b[a+i] % 128).toNat:Nat):Int)=b[a+i] by omega]
    rw [hv]
    by_cases hc2:0 < b[a+i]
    ·have hc3:b[a+i] > 0:=hc2
     simp only [hc2,hc3,decide_true,cond_true,Bool.or_true,if_true,qH]
     refine ⟨_,rfl,Prod.ext rfl (Prod.ext ?_ rfl)⟩
     dsimp only; omega
    ·have hc3:¬ b[a+i] > 0:=hc2
     simp only [hc2,hc3,decide_false,cond_false,Bool.or_false]
     refine ⟨_,rfl,?_⟩
     by_cases h0:i=0
     ·subst h0; simp [qH]
     ·have e4:(i == 0)=false:=by simpa using h0
      simp only [e4,Bool.false_eq_true,if_false,qH]
      simp; omega
   ·simp only [hc1,decide_false,cond_false,if_false]
    obtain ⟨r,g1,g2⟩:=ih (i+1) k _ (by omega) (by omega) e2
    refine ⟨r,g1,Q2 (x:=(b[a+i] % 128).toNat) (by omega) ?_⟩
    rw [show (i+1 == 0)=false by rfl] at g2
    exact g2
  ·have e0:(a:Int)≥(b.length:Int) - (i:Int):=by omega
   simp only [e0,decide_true,cond_true]
   rw [List.drop_of_length_le (by omega)]
   exact ⟨(0,0,false),rfl,rfl⟩
theorem Mx {u:Nat} (hu:1099511627776≤u) {b:List Int} (hb:aF b) (hl:b.length≤1048576) {a:Int} (ha:0≤a):∃ r,s6 u b a=some r∧(match sR 8 b a with | some (v,e)=>r=(v,e,true) | none=>r.2.2=false):=by
 unfold s6 sR
 obtain ⟨a,rfl⟩:=Int.eq_ofNat_of_zero_le ha
 obtain ⟨r,g1,g2⟩:=VN u hb hl a 8 0 u 0 (by omega) (by omega) (by simp)
 refine ⟨r,g1,?_⟩
 rw [if_pos ha,Int.toNat_natCast]
 rw [Nat.add_zero] at g2
 unfold qH at g2
 cases hr:M.rd 8 true (b.drop a) with
 | none=>rw [show ((0 == 0:Bool))=true by rfl,hr] at g2; exact g2
 | some q=>obtain ⟨w,j⟩:=q; rw [show ((0 == 0:Bool))=true by rfl,hr] at g2; simpa using g2
def UX (o:Option (Int×Nat)) (v i a:Nat):Int×Int×Bool:=match o with
 | some (w,j)=>if (v:Int)+w*2 ^ (7*i)≤1000000000000 then ((v:Int)+w*2 ^ (7*i),((a+j:Nat):Int),true) else (0,0,false)
 | none=>(0,0,false)
theorem Y1 (o:Option (Int×Nat)) (v i a x:Nat) (c:Int) (hx:(x:Int)=c - 128):UX (Q0 c o) v i a=UX o (v+x*2 ^ (7*i)) (i+1) (a+1):=by
 cases o with
 | none=>rfl
 | some q =>
  obtain ⟨w,j⟩:=q
  unfold UX Q0
  dsimp only
  have e:(v:Int)+(w*128+(c - 128))*2 ^ (7*i)=((v+x*2 ^ (7*i):Nat):Int)+w*2 ^ (7*(i+1)):=by
   rw [show 7*(i+1)=7*i+7 by omega,Int.pow_add,← hx]
   have:((v+x*2 ^ (7*i):Nat):Int)=(v:Int)+(x:Int)*2 ^ (7*i):=by simp
   rw [this]
   generalize (2:Int) ^ (7*i)=p
   rw [show (2:Int) ^ 7=128 by rfl,Int.add_mul,Int.mul_assoc w 128 p,Int.mul_comm p 128]
   omega
  rw [e,show a+(j+1)=a+1+j by omega]
theorem So (u:Nat) {b:List Int} (hb:aF b) (hl:b.length≤1048576) (a:Nat):∀ (m i k v:Nat),i+m=6→m < k→v < 2 ^ (7*i)→dE u k b a v i=some (UX (M.rd m (i == 0) (b.drop (a+i))) v i (a+i)):=by
 intro m
 induction m with
 | zero =>
  intro i k v h1 h2 h3
  obtain ⟨k,rfl⟩:∃ j,k=j+1:=⟨k - 1,by omega⟩
  have e:¬ ((i:Int) < 6):=by omega
  unfold dE vD
  simp only [e,decide_false,cond_false]; rfl
 | succ m ih =>
  intro i k v h1 h2 h3
  obtain ⟨k,rfl⟩:∃ j,k=j+1:=⟨k - 1,by omega⟩
  have e:(i:Int) < 6:=by omega
  have en:¬ ((a:Int) < 0):=by omega
  unfold dE mC
  simp only [e,en,decide_true,decide_false,cond_true,cond_false]
  rw [cB (a:=(b.length:Int)) (by omega) (by omega)]
  by_cases ha:a+i < b.length
  ·have e0:¬ ((a:Int)≥(b.length:Int) - (i:Int)):=by omega
   rw [Q3 ha,dJ (a:=(a:Int)) (by omega) (by omega),show (a:Int)+(i:Int)=((a+i:Nat):Int) by omega,br,List.getElem?_eq_getElem ha]
   have hc:=hb b[a+i] (List.getElem_mem ha)
   obtain ⟨e1,e2⟩:=VM (i:=i) (by omega) h3 hc.1 hc.2
   simp only [e0,decide_false,cond_false,Option.bind_some]
   unfold qW
   rw [e1,lw (by omega) (by omega),bA (by omega),wrap_i64 (by omega) (by omega),dJ (a:=(a:Int)) (b:=(i:Int)) (by omega) (by omega),dJ (a:=(a:Int)+(i:Int)) (by omega) (by omega),jw (by omega)]
   simp only [Option.bind_some,M.rd]
   by_cases hc1:b[a+i] < 128
   ·simp only [hc1,decide_true,cond_true,if_true]
    have hv:((v+(b[a+i] % 128).toNat*2 ^ (7*i):Nat):Int)=(v:Int)+b[a+i]*2 ^ (7*i):=by
     have:((v+(b[a+i] % 128).toNat*2 ^ (7*i):Nat):Int)=(v:Int)+(((b[a+i] % 128).toNat:Nat):Int)*2 ^ (7*i):=by simp
     rw [this,show (((b[a+i] % 128).toNat:Nat):Int)=b[a+i] by omega]
    rw [hv]
    have hgt:∀ x:Int,decide (x > 1000000000000)=!decide (x≤1000000000000):=fun x=>by rw [← decide_not,decide_eq_decide]; omega
    have hs:((a:Int)+(i:Int)+1)=((a+i+1:Nat):Int):=by omega
    rw [hs]
    by_cases hc2:b[a+i]=0
    ·have e5:¬ (0 < b[a+i]):=by omega
     have e6:(b[a+i] == 0)=true:=by simpa using hc2
     by_cases h0:i=0
     ·subst h0
      have hv0:v=0:=by simpa using h3
      subst hv0
      simp only [e6,cond_true,hgt,UX]
      rw [hc2]
      rfl
     ·have e4:(i == 0)=false:=by simpa using h0
      have e7:(i:Int) > 0:=by omega
      simp only [e4,e5,e6,e7,decide_true,decide_false,cond_true,Bool.or_false,Bool.false_eq_true,if_false,UX]
    ·have e5:0 < b[a+i]:=by omega
     have e6:(b[a+i] == 0)=false:=by simpa using hc2
     simp only [e5,e6,decide_true,cond_false,Bool.or_true,if_true,hgt,UX]
     by_cases hq:(v:Int)+b[a+i]*2 ^ (7*i)≤1000000000000
     ·simp [hq]
     ·simp [hq]
   ·simp only [hc1,decide_false,cond_false,if_false]
    rw [ih (i+1) k _ (by omega) (by omega) e2,show (i+1 == 0)=false by rfl,Y1 _ v i (a+i) (b[a+i] % 128).toNat _ (by omega)]
    rfl
  ·have e0:(a:Int)≥(b.length:Int) - (i:Int):=by omega
   simp only [e0,decide_true,cond_true]
   rw [List.drop_of_length_le (by omega)]; rfl
theorem kh {u:Nat} (hu:1099511627776≤u) {b:List Int} (hb:aF b) (hl:b.length≤1048576) (a:Int):ga u b a=some (a9 b a):=by
 unfold ga a9 sR
 by_cases ha:0≤a
 ·obtain ⟨a,rfl⟩:=Int.eq_ofNat_of_zero_le ha
  have h:=So u hb hl a 6 0 u 0 (by omega) (by omega) (by simp)
  rw [Nat.add_zero] at h
  rw [show dE u u b (a:Int) 0 0=_ from h,if_pos ha,Int.toNat_natCast,show (0 == 0:Bool)=true by rfl]
  unfold UX
  cases M.rd 6 true (b.drop a) with
  | none=>rfl
  | some q=>obtain ⟨w,j⟩:=q; simp
 ·obtain ⟨u,rfl⟩:∃ j,u=j+1:=⟨u - 1,by omega⟩
  rw [if_neg ha]
  unfold dE mC
  have e:a < 0:=by omega
  simp [e]
theorem GM {α:Type} (b:List α) (a j:Nat):b.take (a+j)=b.take a++(b.drop a).take j:=List.take_add
theorem JE {n:Nat} {b:List Int} {a v e:Int} (hb:aF b) (h:sR n b a=some (v,e)) (hn:n≤10):0≤a∧a < e∧e≤b.length∧0≤v∧v < 128 ^ n∧b.take e.toNat=b.take a.toNat++cW 9 v:=by
 unfold sR at h
 by_cases ha:0≤a
 ·rw [if_pos ha] at h
  cases hr:M.rd n true (b.drop a.toNat) with
  | none=>rw [hr] at h; cases h
  | some q =>
   obtain ⟨w,j⟩:=q
   rw [hr] at h
   simp only [Option.some.injEq,Prod.mk.injEq] at h
   obtain ⟨rfl,rfl⟩:=h
   obtain ⟨h1,h2,h3,h4,h5,h6⟩:=ZE n true _ w j (fun x hx=>hb x (List.mem_of_mem_drop hx)) hr
   rw [List.length_drop] at h3
   refine ⟨ha,by omega,by omega,h1,h5,?_⟩
   rw [show (a+(j:Int)).toNat=a.toNat+j by omega,GM,h6 9 (by omega)]
 ·rw [if_neg ha] at h; cases h
theorem cA {b:List Int} {a v e:Int} (hb:aF b) (h:a9 b a=(v,e,true)):0≤a∧a < e∧e≤b.length∧0≤v∧v≤1000000000000∧b.take e.toNat=b.take a.toNat++cW 9 v:=by
 unfold a9 at h
 cases hr:sR 6 b a with
 | none=>rw [hr] at h; cases h
 | some q =>
  obtain ⟨w,e'⟩:=q
  rw [hr] at h
  dsimp only at h
  split at h
  ·simp only [Prod.mk.injEq,and_true] at h
   obtain ⟨rfl,rfl⟩:=h
   have:=JE hb hr (by omega)
   exact ⟨this.1,this.2.1,this.2.2.1,this.2.2.2.1,by assumption,this.2.2.2.2.2⟩
  ·cases h
theorem b7 (b:List Int) (a:Int):(∃ v e,a9 b a=(v,e,true))∨a9 b a=(0,0,false):=by
 unfold a9
 split
 ·split
  ·exact .inl ⟨_,_,rfl⟩
  ·exact .inr rfl
 ·exact .inr rfl
theorem Q5 {p:List Int} {n:Int} (t:List Int) (h0:0≤n) (h1:n≤1000000000000):a9 (p++cW 9 n++t) p.length=(n,((p.length+(cW 9 n).length:Nat):Int),true):=by
 unfold a9 sR
 rw [if_pos (by omega),Int.toNat_natCast,List.append_assoc,List.drop_left,ZF 6 9 true n t (by omega) h0 (fun h=>by cases h) (by rw [show (128:Int) ^ 6=4398046511104 by decide]; omega) (by omega)]
 simp [h1]
def lY (m:af):Bool:=(m.aP == 0) && (m.aS == 0) && (m.aY == 0) && (m.aD.length == 0)
theorem wZ (u:Nat) (m:af):iG u m=some (lY m):=by
 unfold iG lY
 rw [show ((m.aD.length:Int) == 0)=(m.aD.length == 0) from JC _ 0]
 cases m.aP == 0 <;> cases m.aS == 0 <;> cases m.aY == 0 <;> rfl
theorem JF (m:af):et m ⟨0,0,0,[]⟩=lY m:=by
 unfold et lY M.same
 cases h:m.aD with
 | nil=>simp [Bf]
 | cons s l=>simp
def lD (m:ei):Bool :=
 if m.bz=1 then (m.aP == 0) && (m.av.aP != 0) && cS m.av && ((m.bw == 0) && (m.bL == 0) && (m.fI == 0) && (m.fB.length == 0))
 else if m.bz=2 then am m.aP 0 1000000 && lY m.av && bF m.bw && bF m.bL && (m.fI == 0) && (m.fB.length == 0)
 else if m.bz=3 then am m.aP 1 1000000 && lY m.av && (m.bw == 0) && (m.bL == 0) && am m.fI 0 39 && am m.fB.length 1 6
 else if m.bz=4 then am m.aP 0 1000000 && lY m.av && ((m.bw == 0) && (m.bL == 0) && (m.fI == 0) && (m.fB.length == 0))
 else false
theorem Cu {u:Nat} (hu:1099511627776≤u) {m:ei} (hs:m.av.aD.length≤1048576):xA u m=some (lD m):=by
 unfold xA lD ju uv pv
 simp only [n7 hu m.av (show m.av.aD.length≤1073741824 by omega),wZ,lM,bG,Option.bind_some]
 rw [show ((m.fB.length:Int) == 0)=(m.fB.length == 0) from JC _ 0]
 generalize cS m.av=x1
 generalize lY m.av=x2
 generalize bF m.bw=x3
 generalize bF m.bL=x4
 generalize am m.aP 0 1000000=x5
 generalize am m.aP 1 1000000=x6
 generalize am m.fI 0 39=x7
 generalize am m.fB.length 1 6=x8
 generalize (m.fB.length == 0)=x9
 generalize (m.av.aP != 0)=x10
 generalize (m.aP == 0)=x11
 generalize (m.bw == 0)=x12
 generalize (m.bL == 0)=x13
 generalize (m.fI == 0)=x14
 by_cases h1:m.bz=1
 ·simp only [h1,beq_self_eq_true,cond_true,if_true]
  cases x1 <;> cases x10 <;> cases x11 <;> cases x12 <;> cases x13 <;> cases x14 <;> cases x9 <;> rfl
 ·have e1:(m.bz == 1)=false:=by simpa using h1
  by_cases h2:m.bz=2
  ·simp only [h2,e1,beq_self_eq_true,cond_true,if_true]
   cases x5 <;> cases x2 <;> cases x3 <;> cases x4 <;> cases x14 <;> cases x9 <;> rfl
  ·have e2:(m.bz == 2)=false:=by simpa using h2
   by_cases h3:m.bz=3
   ·simp only [h3,beq_self_eq_true,cond_true,if_true]
    cases x6 <;> cases x2 <;> cases x12 <;> cases x13 <;> cases x7 <;> cases x8 <;> rfl
   ·have e3:(m.bz == 3)=false:=by simpa using h3
    by_cases h4:m.bz=4
    ·simp only [h4,beq_self_eq_true,cond_true,if_true]
     cases x5 <;> cases x2 <;> cases x12 <;> cases x13 <;> cases x14 <;> cases x9 <;> rfl
    ·have e4:(m.bz == 4)=false:=by simpa using h4
     simp only [e1,e2,e3,e4,h1,h2,h3,h4,cond_false,if_false]
theorem Cv {u:Nat} (hu:1099511627776≤u) {m:ei} (hs:m.av.aD.length≤1048576):xr u m=some (lD m):=by
 unfold xr lD qc
 simp only [pT hu hs,JF,iy hu m.av (show m.av.aD.length≤1073741824 by omega),jU,bU,Option.bind_some]
 rw [show ((m.fB.length:Int) == 0)=(m.fB.length == 0) from JC _ 0]
 generalize cS m.av=x1
 generalize lY m.av=x2
 generalize bF m.bw=x3
 generalize bF m.bL=x4
 generalize am m.aP 0 1000000=x5
 generalize am m.aP 1 1000000=x6
 generalize am m.fI 0 39=x7
 generalize am m.fB.length 1 6=x8
 generalize (m.fB.length == 0)=x9
 generalize (m.av.aP != 0)=x10
 generalize (m.aP == 0)=x11
 generalize (m.bw == 0)=x12
 generalize (m.bL == 0)=x13
 generalize (m.fI == 0)=x14
 by_cases h1:m.bz=1
 ·simp only [h1,beq_self_eq_true,cond_true,if_true]
  cases x1 <;> cases x10 <;> cases x11 <;> cases x12 <;> cases x13 <;> cases x14 <;> cases x9 <;> rfl
 ·have e1:(m.bz == 1)=false:=by simpa using h1
  by_cases h2:m.bz=2
  ·simp only [h2,e1,beq_self_eq_true,cond_true,if_true]
   cases x5 <;> cases x2 <;> cases x3 <;> cases x4 <;> cases x14 <;> cases x9 <;> cases x12 <;> cases x13 <;> rfl
  ·have e2:(m.bz == 2)=false:=by simpa using h2
   by_cases h3:m.bz=3
   ·simp only [h3,beq_self_eq_true,cond_true,if_true]
    cases x6 <;> cases x2 <;> cases x12 <;> cases x13 <;> cases x7 <;> cases x8 <;> cases x14 <;> cases x9 <;> rfl
   ·have e3:(m.bz == 3)=false:=by simpa using h3
    by_cases h4:m.bz=4
    ·simp only [h4,beq_self_eq_true,cond_true,if_true]
     cases x5 <;> cases x2 <;> cases x12 <;> cases x13 <;> cases x14 <;> cases x9 <;> rfl
    ·have e4:(m.bz == 4)=false:=by simpa using h4
     simp only [e1,e2,e3,e4,h1,h2,h3,h4,cond_false,if_false]
     cases x12 <;> cases x13 <;> cases x14 <;> rfl
def w4:af×Int×Bool:=(⟨0,0,0,[]⟩,0,false)
def lZ:Nat→List Int→Int→List bM→Option (List bM×Int)
 | 0,_,a,acc=>some (acc,a)
 | n+1,b,a,acc=>match sR 8 b a with
  | some (v,e)=>if (ce v).2 then lZ n b e (acc++[eg (ce v).1]) else none
  | none=>none
def rz (g s l:Int):Option (List bM×Int)→af×Int×Bool
 | some (ss,e)=>if cS ⟨g,s,l,ss⟩ then (⟨g,s,l,ss⟩,e,true) else w4
 | none=>w4
theorem Sp {u:Nat} (hu:1099511627776≤u) {b:List Int} (hb:aF b) (hl:b.length≤1048576) (g s l:Int) (n:Nat) (hn:n≤1000):∀ (m i k:Nat) (a:Int) (acc:List bM),i+m=n→m < k→acc.length+m≤1000→fm u k b a n i g s l acc=some (rz g s l (lZ m b a acc)):=by
 intro m
 induction m with
 | zero =>
  intro i k a acc h1 h2 h3
  obtain ⟨k,rfl⟩:∃ j,k=j+1:=⟨k - 1,by omega⟩
  have e:¬ ((i:Int) < (n:Int)):=by omega
  unfold fm wb
  simp only [e,decide_false,cond_false]
  rw [n7 hu _ (show acc.length≤1073741824 by omega)]
  simp only [Option.bind_some,lZ,rz,w4]
  cases cS ⟨g,s,l,acc⟩ <;> rfl
 | succ m ih =>
  intro i k a acc h1 h2 h3
  obtain ⟨k,rfl⟩:∃ j,k=j+1:=⟨k - 1,by omega⟩
  have e:(i:Int) < (n:Int):=by omega
  obtain ⟨r,g1,g2⟩:=Q4 hu hb hl a 8 (by omega) (by omega)
  rw [show ((8:Nat):Int)=8 by rfl] at g1
  unfold fm oI
  simp only [e,decide_true,cond_true,g1,Option.bind_some,Ew hu,lZ]
  cases hr:sR 8 b a with
  | none=>rw [hr] at g2; rw [g2]; rfl
  | some q =>
   obtain ⟨v,e'⟩:=q
   rw [hr] at g2
   rw [g2]
   have hv:=tA v
   dsimp only
   cases h:(ce v).2 with
   | false=>rfl
   | true =>
    simp only [Bool.not_true,cond_false,if_true]
    rw [tD hu hv.1 (by omega)]
    simp only [Option.bind_some]
    rw [bA (by simp; omega),jw (by omega)]
    exact ih (i+1) k e' _ (by omega) (by omega) (by simp; omega)
theorem VO (size len:Int):∀ (l:List bM) (i:Nat),oX size len l i=true→∀ s∈l,(ce s.fS).2=true:=by
 intro l
 induction l with
 | nil=>intro i _ s hs; simp at hs
 | cons x l ih =>
  intro i h s hs
  simp only [oX,yT,Bool.and_eq_true] at h
  rcases List.mem_cons.1 hs with rfl | hs
  ·exact h.1.1.1
  ·exact ih (i+1) h.2 s hs
theorem S9 {g s l:Int} {ss:List bM} (h:∃ x∈ss,(ce x.fS).2=false):cS ⟨g,s,l,ss⟩=false:=by
 obtain ⟨x,hx,hb⟩:=h
 cases hm:cS ⟨g,s,l,ss⟩ with
 | false=>rfl
 | true =>
  unfold cS at hm
  dsimp only at hm
  split at hm
  ·simp only [Bool.and_eq_true,beq_iff_eq,List.length_eq_zero_iff] at hm
   rw [hm.2] at hx; simp at hx
  ·simp only [Bool.and_eq_true] at hm
   have:=VO _ _ _ _ hm.2 x hx
   rw [this] at hb; cases hb
theorem Ol {u:Nat} (hu:1099511627776≤u) {b:List Int} (hb:aF b) (hl:b.length≤1048576) (r1 r2 r3:Int×Int×Bool):∀ (m i k:Nat) (a:Int) (acc:List bM),i+m=(di r2.1 r3.1).toNat∨(m=0∧(di r2.1 r3.1).toNat≤i)→m < k→acc.length+m≤1000→0≤a→(∃ x∈acc,(ce x.fS).2=false)→dG u k b r1 r2 r3 a i acc=some w4:=by
 have hk:=gT r2.1 r3.1
 intro m
 induction m with
 | zero =>
  intro i k a acc h1 h2 h3 h4 h5
  obtain ⟨k,rfl⟩:∃ j,k=j+1:=⟨k - 1,by omega⟩
  have e:¬ ((i:Int) < di r2.1 r3.1):=by omega
  unfold dG jW ou
  simp only [kf,Option.bind_some,e,decide_false,cond_false]
  rw [iy hu _ (show acc.length≤1073741824 by omega),S9 h5]; rfl
 | succ m ih =>
  intro i k a acc h1 h2 h3 h4 h5
  obtain ⟨k,rfl⟩:∃ j,k=j+1:=⟨k - 1,by omega⟩
  have e:(i:Int) < di r2.1 r3.1:=by omega
  obtain ⟨r,g1,g2⟩:=Mx hu hb hl h4
  unfold dG jW ou
  simp only [kf,Option.bind_some,e,decide_true,cond_true,g1,zF hu]
  by_cases hg:r1.1 > 0
  ·simp only [hg,decide_true,cond_true]
   cases hr:sR 8 b a with
   | none=>rw [hr] at g2; rw [g2]; rfl
   | some q =>
    obtain ⟨v,e'⟩:=q
    rw [hr] at g2
    rw [g2]
    have hv:=tA v
    have hp:=JE hb hr (by omega)
    dsimp only
    simp only [Bool.not_true,cond_false]
    rw [n6 hu hv.1 (by omega)]
    simp only [Option.bind_some]
    rw [bA (by simp; omega),jw (by omega)]
    obtain ⟨x,hx,hbx⟩:=h5
    exact ih (i+1) k e' _ (by omega) (by omega) (by simp; omega) (by omega) ⟨x,by simp [hx],hbx⟩
  ·simp only [hg,decide_false,cond_false]
   rw [iy hu _ (show acc.length≤1073741824 by omega),S9 h5]; rfl
theorem Sq {u:Nat} (hu:1099511627776≤u) {b:List Int} (hb:aF b) (hl:b.length≤1048576) {r1 r2 r3:Int×Int×Bool} (hg:0 < r1.1):∀ (m i k:Nat) (a:Int) (acc:List bM),i+m=(di r2.1 r3.1).toNat→m < k→acc.length+m≤1000→0≤a→dG u k b r1 r2 r3 a i acc=some (rz r1.1 r2.1 r3.1 (lZ m b a acc)):=by
 have hk:=gT r2.1 r3.1
 intro m
 induction m with
 | zero =>
  intro i k a acc h1 h2 h3 h4
  obtain ⟨k,rfl⟩:∃ j,k=j+1:=⟨k - 1,by omega⟩
  have e:¬ ((i:Int) < di r2.1 r3.1):=by omega
  unfold dG jW ou
  simp only [kf,Option.bind_some,e,decide_false,cond_false]
  rw [iy hu _ (show acc.length≤1073741824 by omega)]
  simp only [Option.bind_some,lZ,rz,w4]
  cases cS ⟨r1.1,r2.1,r3.1,acc⟩ <;> rfl
 | succ m ih =>
  intro i k a acc h1 h2 h3 h4
  obtain ⟨k,rfl⟩:∃ j,k=j+1:=⟨k - 1,by omega⟩
  have e:(i:Int) < di r2.1 r3.1:=by omega
  have hg':r1.1 > 0:=hg
  obtain ⟨r,g1,g2⟩:=Mx hu hb hl h4
  unfold dG jW
  simp only [kf,Option.bind_some,e,hg',decide_true,cond_true,g1,zF hu,lZ]
  cases hr:sR 8 b a with
  | none=>rw [hr] at g2; rw [g2]; rfl
  | some q =>
   obtain ⟨v,e'⟩:=q
   rw [hr] at g2
   rw [g2]
   have hv:=tA v
   have hp:=JE hb hr (by omega)
   dsimp only
   simp only [Bool.not_true,cond_false]
   rw [n6 hu hv.1 (by omega)]
   simp only [Option.bind_some]
   rw [bA (by simp; omega),jw (by omega)]
   simp only [Option.bind_some]
   cases h:(ce v).2 with
   | false =>
    simp only [Bool.false_eq_true,if_false]
    exact Ol hu hb hl r1 r2 r3 m (i+1) k e' _ (by omega) (by omega) (by simp; omega) (by omega) ⟨_,List.mem_append_right _ (List.mem_singleton.2 rfl),h⟩
   | true =>
    simp only [if_true]
    have hs:eg (ce v).1=⟨(eg (ce v).1).fW,v⟩:=by
     have:=Cr (s:=v) (b:=(ce v).1) (by rw [← h])
     rw [this]
    rw [← hs]
    exact ih (i+1) k e' _ (by omega) (by omega) (by simp; omega) (by omega)
theorem LQ {u:Nat} (hu:1099511627776≤u) (b:List Int) {r1 r2 r3:Int×Int×Bool} (hg:r1.1=0) (k:Nat) (a:Int):dG u (k+1) b r1 r2 r3 a 0 []=some (rz r1.1 r2.1 r3.1 (some ([],a))):=by
 have hg':¬ r1.1 > 0:=by omega
 unfold dG jW ou
 simp only [kf,Option.bind_some,hg',decide_false]
 have:∀ c:Bool,(bif c then (jp u ⟨r1.1,r2.1,r3.1,[]⟩).bind fun r22=>bif !r22 then some ((⟨0,0,0,[]⟩,0,false):af×Int×Bool) else some (⟨r1.1,r2.1,r3.1,[]⟩,a,true) else (jp u ⟨r1.1,r2.1,r3.1,[]⟩).bind fun r22=>bif !r22 then some ((⟨0,0,0,[]⟩,0,false):af×Int×Bool) else some (⟨r1.1,r2.1,r3.1,[]⟩,a,true))=some (rz r1.1 r2.1 r3.1 (some ([],a))):=by
  intro c
  rw [iy hu _ (show ([]:List bM).length≤1073741824 by simp)]
  simp only [Option.bind_some,rz,w4]
  cases c <;> cases cS ⟨r1.1,r2.1,r3.1,[]⟩ <;> rfl
 exact this _
def xM:Nat→List Int→Int→List Int→List Int×Int×Bool
 | 0,_,a,acc=>(acc,a,true)
 | n+1,b,a,acc=>if (a9 b a).2.2 then xM n b (a9 b a).2.1 (acc++[(a9 b a).1]) else ([],0,false)
theorem VP {u:Nat} (hu:1099511627776≤u) {b:List Int} (hb:aF b) (hl:b.length≤1048576) (n:Nat) (hn:n≤1000):∀ (m i k:Nat) (a:Int) (acc:List Int),i+m=n→m < k→acc.length+m≤1000→fG u k b a acc n i=some (xM m b a acc):=by
 intro m
 induction m with
 | zero =>
  intro i k a acc h1 h2 h3
  obtain ⟨k,rfl⟩:∃ j,k=j+1:=⟨k - 1,by omega⟩
  have e:¬ ((i:Int) < (n:Int)):=by omega
  unfold fG se
  simp only [e,decide_false,cond_false]; rfl
 | succ m ih =>
  intro i k a acc h1 h2 h3
  obtain ⟨k,rfl⟩:∃ j,k=j+1:=⟨k - 1,by omega⟩
  have e:(i:Int) < (n:Int):=by omega
  unfold fG
  simp only [e,decide_true,cond_true,wY hu hb hl,Option.bind_some,xM]
  cases h:(a9 b a).2.2 with
  | false=>rfl
  | true =>
   simp only [Bool.not_true,cond_false,if_true]
   rw [bA (by simp; omega),jw (by omega)]
   exact ih (i+1) k _ _ (by omega) (by omega) (by simp; omega)
theorem Fu {u:Nat} (hu:1099511627776≤u) {b:List Int} (hb:aF b) (hl:b.length≤1048576) (a:Int) (n:Nat) (hn:n≤1000):nU u b a n=some (xM n b a []):=by
 unfold nU
 exact VP hu hb hl n hn n 0 u a [] (by omega) (by omega) (by simp; omega)
def ki (b:List Int) (a:Int):af×Int×Bool :=
 let g1:=a9 b a
 let g2:=a9 b g1.2.1
 let g3:=a9 b g2.2.1
 if g1.2.2 && g2.2.2 && g3.2.2 then rz g1.1 g2.1 g3.1 (lZ (di g2.1 g3.1).toNat b g3.2.1 []) else w4
theorem Q6 {u:Nat} (hu:1099511627776≤u) {b:List Int} (hb:aF b) (hl:b.length≤1048576) (a:Int):yE u b a=some (ki b a):=by
 unfold yE ki
 rw [show (3:Int)=((3:Nat):Int) by rfl,Fu hu hb hl a 3 (by omega)]
 simp only [Option.bind_some,xM]
 cases h1:(a9 b a).2.2 with
 | false=>rfl
 | true =>
  cases h2:(a9 b (a9 b a).2.1).2.2 with
  | false=>rfl
  | true =>
   cases h3:(a9 b (a9 b (a9 b a).2.1).2.1).2.2 with
   | false=>rfl
   | true =>
    have hk:=gT (a9 b (a9 b a).2.1).1 (a9 b (a9 b (a9 b a).2.1).2.1).1
    simp only [if_true,Bool.not_true,cond_false,Bool.and_self,List.nil_append,List.append_assoc,List.cons_append]
    rw [show (0:Int)=((0:Nat):Int) by rfl,show (1:Int)=((1:Nat):Int) by rfl,show (2:Int)=((2:Nat):Int) by rfl]
    simp only [br,List.getElem?_cons_zero,List.getElem?_cons_succ,Option.bind_some,wU]
    generalize hn:(di (a9 b (a9 b a).2.1).1 (a9 b (a9 b (a9 b a).2.1).2.1).1)=n at hk
    obtain ⟨n,rfl⟩:=Int.eq_ofNat_of_zero_le hk.1
    rw [Int.toNat_natCast]
    exact Sp hu hb hl _ _ _ n (by omega) n 0 u _ [] (by omega) (by omega) (by simp; omega)
theorem My {s l:Int} {ss:List bM} {e:Int} (h:di s l≠0):rz 0 s l (some (ss,e))=w4:=by
 unfold rz cS
 dsimp only
 have hz:¬ (s=0):=by
  intro h0; subst h0
  apply h
  unfold di fQ am
  simp
 simp [hz]
theorem Q7 {u:Nat} (hu:1099511627776≤u) {b:List Int} (hb:aF b) (hl:b.length≤1048576) (a:Int):yw u b a=some (ki b a):=by
 unfold yw ki qX
 simp only [kh hu hb hl,Option.bind_some]
 rcases b7 b a with ⟨v1,e1,h1⟩ | h1
 ·rw [h1]
  rcases b7 b e1 with ⟨v2,e2,h2⟩ | h2
  ·dsimp only
   rw [h2]
   rcases b7 b e2 with ⟨v3,e3,h3⟩ | h3
   ·dsimp only
    rw [h3]
    have p1:=cA hb h1
    have p3:=cA hb h3
    have hk:=gT v2 v3
    simp only [Bool.not_true,cond_false,Bool.and_self,if_true]
    by_cases hg:0 < v1
    ·exact Sq hu hb hl (r1:=(v1,e1,true)) (r2:=(v2,e2,true)) (r3:=(v3,e3,true)) hg (di v2 v3).toNat 0 u e3 [] (by simp) (by omega) (by simp; omega) (by omega)
    ·have h0:v1=0:=by omega
     subst h0
     obtain ⟨u',rfl⟩:∃ j,u=j+1:=⟨u - 1,by omega⟩
     rw [LQ (r1:=(0,e1,true)) (r2:=(v2,e2,true)) (r3:=(v3,e3,true)) hu b rfl u' e3]
     dsimp only
     by_cases hn:di v2 v3=0
     ·rw [hn]; rfl
     ·rw [My hn]
      cases hs:lZ (di v2 v3).toNat b e3 [] with
      | none=>rfl
      | some q=>obtain ⟨ss,e⟩:=q; rw [My hn]
   ·dsimp only
    rw [h3]; rfl
  ·dsimp only
   rw [h2]; simp
   rfl
 ·rw [h1]; simp
  rfl
theorem Q8 (xs:List Int):(strOfNums xs).toList=xs.map fun n=>UInt8.ofNat n.toNat:=by
 rw [ByteArray.toList_eq,strOfNums_data]
theorem ZG {a b:Int} (h1:0≤a) (h2:a≤255) (h3:0≤b) (h4:b≤255) (h:UInt8.ofNat a.toNat=UInt8.ofNat b.toNat):a=b:=by
 have:=congrArg UInt8.toNat h
 simp only [UInt8.toNat_ofNat'] at this
 omega
theorem JG {a b:List Int} (ha:aF a) (hb:aF b):lN a b=decide (a=b):=by
 unfold lN
 rw [Bool.eq_iff_iff,beq_iff_eq,decide_eq_true_eq,Q8,Q8]
 constructor
 ·intro h
  revert b
  induction a with
  | nil=>intro b _ h; cases b with
   | nil=>rfl
   | cons y b=>simp at h
  | cons x a ih =>
   intro b hb h
   cases b with
   | nil=>simp at h
   | cons y b =>
    simp only [List.map_cons,List.cons.injEq] at h
    have hx:=ha x (by simp)
    have hy:=hb y (by simp)
    rw [ZG hx.1 hx.2 hy.1 hy.2 h.1,ih (fun z hz=>ha z (by simp [hz])) (fun z hz=>hb z (by simp [hz])) h.2]
 ·intro h; rw [h]
def qv (b:List Int) (a:Int):List Int×Int×Bool :=
 let g:=a9 b a
 if g.2.2 && decide (g.1≤6) && decide (g.1≤b.length - g.2.1) then (M.win b g.2.1.toNat g.1.toNat,g.2.1+g.1,true) else ([],0,false)
theorem Om {u:Nat} (hu:1099511627776≤u) {b:List Int} (hb:aF b) (hl:b.length≤1048576) (a:Int):wc u b a 6=some (qv b a):=by
 unfold wc qv ud
 simp only [wY hu hb hl,Option.bind_some]
 rcases b7 b a with ⟨v,e,h⟩ | h
 ·rw [h]
  have p:=cA hb h
  dsimp only
  by_cases h6:v≤6
  ·have h7:¬ v > 6:=by omega
   simp only [h6,h7,decide_true,decide_false,Bool.not_true,cond_false,Bool.true_and]
   obtain ⟨v,rfl⟩:=Int.eq_ofNat_of_zero_le p.2.2.2.1
   obtain ⟨e,rfl⟩:=Int.eq_ofNat_of_zero_le (show 0≤e by omega)
   by_cases hv:(v:Int)≤(b.length:Int) - (e:Int)
   ·rw [GH u (show e+v≤b.length by omega) (by omega)]
    simp only [hv,decide_true,if_true,Option.bind_some,Bool.not_true,cond_false,Int.toNat_natCast]
    rw [dJ (by omega) (by omega)]
   ·simp only [hv,decide_false,Bool.false_eq_true,if_false]
    unfold ut td
    rw [cB (by omega) (by omega),bG,bG,show am (e:Int) 0 (b.length:Int)=true by simp [am]; omega,show am (v:Int) 0 ((b.length:Int) - (e:Int))=false by simp [am]; omega]
    rfl
  ·have h7:v > 6:=by omega
   simp [h6,h7]
 ·rw [h]; simp
theorem Oo {u:Nat} (hu:1099511627776≤u) {b:List Int} (hb:aF b) (hl:b.length≤1048576) (a:Int):vE u b a 6=some (qv b a):=by
 unfold vE qv pI
 simp only [kh hu hb hl,Option.bind_some]
 rcases b7 b a with ⟨v,e,h⟩ | h
 ·rw [h]
  have p:=cA hb h
  dsimp only
  by_cases h6:v≤6
  ·have h7:¬ v > 6:=by omega
   simp only [h6,h7,decide_true,decide_false,Bool.not_true,cond_false,Bool.true_and]
   obtain ⟨v,rfl⟩:=Int.eq_ofNat_of_zero_le p.2.2.2.1
   obtain ⟨e,rfl⟩:=Int.eq_ofNat_of_zero_le (show 0≤e by omega)
   rw [cB (by omega) (by omega)]
   by_cases hv:(v:Int)≤(b.length:Int) - (e:Int)
   ·have hv':¬ ((v:Int) > (b.length:Int) - (e:Int)):=by omega
    simp only [hv,hv',decide_true,decide_false,cond_false,if_true]
    rw [tE (by omega),eK (by omega) (by omega),bA (by simp; omega)]
    simp only [Option.bind_some,Int.toNat_natCast,List.nil_append]
    rw [show ((e+v:Nat):Int)=(e:Int)+(v:Int) by omega]; rfl
   ·have hv':(v:Int) > (b.length:Int) - (e:Int):=by omega
    simp [hv,hv']
  ·have h7:v > 6:=by omega
   simp [h6,h7]
 ·rw [h]; simp
theorem UY {b p:List Int} {a e:Int} (hb:aF b) (h:qv b a=(p,e,true)):0≤a∧a < e∧e≤b.length∧aF p∧p.length≤6∧b.take e.toNat=(b.take a.toNat++cW 9 p.length)++p:=by
 unfold qv at h
 rcases b7 b a with ⟨v,e',g⟩ | g
 ·rw [g] at h
  have q:=cA hb g
  dsimp only at h
  split at h
  ·rename_i hc
   simp only [Bool.true_and,Bool.and_eq_true,decide_eq_true_eq] at hc
   simp only [Prod.mk.injEq,and_true] at h
   obtain ⟨rfl,rfl⟩:=h
   obtain ⟨v,rfl⟩:=Int.eq_ofNat_of_zero_le q.2.2.2.1
   obtain ⟨e',rfl⟩:=Int.eq_ofNat_of_zero_le (show 0≤e' by omega)
   simp only [Int.toNat_natCast] at q ⊢
   have hw:(M.win b e' v).length=v:=by unfold M.win; rw [List.length_drop,List.length_take]; omega
   refine ⟨q.1,by omega,by omega,nQ hb _ _,by omega,?_⟩
   rw [show ((e':Int)+(v:Int)).toNat=e'+v by omega,GM,q.2.2.2.2.2,hw,QP]
  ·cases h
 ·rw [g] at h; cases h
def pU (c:List Int) (s:Int):List Int:=aQ (aQ c (fx .i64 s 1048575)) (nY .i64 s 20)
def eu (m:ei):List Int :=
 if m.bz=1 then rx (aQ [] m.bz) m.av
 else if m.bz=2 then pU (pU (aQ (aQ [] m.bz) m.aP) m.bw) m.bL
 else if m.bz=3 then aQ (aQ (aQ (aQ [] m.bz) m.aP) m.fI) m.fB.length++m.fB
 else if m.bz=4 then aQ (aQ [] m.bz) m.aP
 else aQ [] m.bz
def gL (m:ei):List Int:=if lD m then aQ (eu m) (cx (eu m)) else []
structure M.MsgWf (m:ei):Prop where
 sums:m.av.aD.length≤1048576
 wf:xY m.av
 b:aF m.fB
 len:m.fB.length≤1048576
theorem gU {b:List Int} (h:aF b) (n:Int):aF (aQ b n):=by
 unfold aQ
 split
 ·exact Fj h (S7 9 n)
 ·exact h
theorem Sr:∀ (l:List bM) (b:List Int),aF b→aF (nv b l):=by
 intro l
 induction l with
 | nil=>intro b h; exact h
 | cons s l ih=>intro b h; exact ih _ (Fj h (S7 9 s.fS))
theorem TS {b:List Int} (h:aF b) (m:af):aF (rx b m):=by
 unfold rx
 split
 ·exact Sr _ _ (gU (gU (gU h _) _) _)
 ·exact h
theorem GN (b:List Int) (m:af):(rx b m).length≤b.length+430:=by
 unfold rx
 split
 ·rename_i h
  have h0:=u7 h
  have h1:=bi b m.aP
  have h2:=bi (aQ b m.aP) m.aS
  have h3:=bi (aQ (aQ b m.aP) m.aS) m.aY
  have h4:=QT m.aD (aQ (aQ (aQ b m.aP) m.aS) m.aY)
  omega
 ·omega
theorem l0:aF []:=fun x hx=>by simp at hx
theorem HI {m:ei} (hm:M.MsgWf m):aF (eu m)∧(eu m).length≤1049600:=by
 have k:=bi [] m.bz
 have kb:=gU l0 m.bz
 have g:=bi (aQ [] m.bz) m.aP
 have gb:=gU kb m.aP
 simp only [List.length_nil] at k
 unfold eu pU
 split
 ·exact ⟨TS kb _,by have:=GN (aQ [] m.bz) m.av; omega⟩
 ·split
  ·refine ⟨gU (gU (gU (gU gb _) _) _) _,?_⟩
   have h1:=bi (aQ (aQ [] m.bz) m.aP) (fx .i64 m.bw 1048575)
   have h2:=bi (aQ (aQ (aQ [] m.bz) m.aP) (fx .i64 m.bw 1048575)) (nY .i64 m.bw 20)
   have h3:=bi (aQ (aQ (aQ (aQ [] m.bz) m.aP) (fx .i64 m.bw 1048575)) (nY .i64 m.bw 20)) (fx .i64 m.bL 1048575)
   have h4:=bi (aQ (aQ (aQ (aQ (aQ [] m.bz) m.aP) (fx .i64 m.bw 1048575)) (nY .i64 m.bw 20)) (fx .i64 m.bL 1048575)) (nY .i64 m.bL 20)
   omega
  ·split
   ·refine ⟨Fj (gU (gU gb _) _) hm.b,?_⟩
    have h1:=bi (aQ (aQ [] m.bz) m.aP) m.fI
    have h2:=bi (aQ (aQ (aQ [] m.bz) m.aP) m.fI) m.fB.length
    have h3:=hm.len
    rw [List.length_append]; omega
   ·split
    ·exact ⟨gb,by omega⟩
    ·exact ⟨kb,by omega⟩
theorem Bk {u:Nat} (hu:1099511627776≤u) {m:ei} (hm:M.MsgWf m):uX u m=some (gL m):=by
 have k:=bi [] m.bz
 have g:=bi (aQ [] m.bz) m.aP
 simp only [List.length_nil] at k
 have hl:=hm.len
 obtain ⟨hb,hbl⟩:=HI hm
 unfold uX gL
 rw [Cu hu hm.sums]
 simp only [Option.bind_some]
 cases hok:lD m with
 | false=>rfl
 | true =>
  simp only [Bool.not_true,cond_false,if_true]
  rw [dL hu (by simp)]
  simp only [Option.bind_some]
  have tail:kd u (eu m)=some (aQ (eu m) (cx (eu m))):=by
   unfold kd
   rw [Bd hu hb (by omega)]
   simp only [Option.bind_some]
   rw [dL hu (by omega)]; rfl
  rw [← tail]
  clear tail hbl hb
  unfold eu pU
  by_cases h1:m.bz=1
  ·simp only [h1,beq_self_eq_true,cond_true,if_true]
   rw [h1] at k
   rw [QN hu (by omega) (by have:=hm.sums; omega) hm.wf]; rfl
  ·have e1:(m.bz == 1)=false:=by simpa using h1
   by_cases h2:m.bz=2
   ·rw [h2] at k g
    have h3:=bi (aQ (aQ [] 2) m.aP) (fx .i64 m.bw 1048575)
    have h4:=bi (aQ (aQ (aQ [] 2) m.aP) (fx .i64 m.bw 1048575)) (nY .i64 m.bw 20)
    have h5:=bi (aQ (aQ (aQ (aQ [] 2) m.aP) (fx .i64 m.bw 1048575)) (nY .i64 m.bw 20)) (fx .i64 m.bL 1048575)
    simp only [h2,beq_self_eq_true,cond_true,if_true,yG]
    rw [dL hu (by omega)]; simp only [Option.bind_some]
    rw [dL hu (by omega)]; simp only [Option.bind_some]
    rw [dL hu (by omega)]; simp only [Option.bind_some]
    rw [dL hu (by omega)]; simp only [Option.bind_some]
    rw [dL hu (by omega)]; rfl
   ·have e2:(m.bz == 2)=false:=by simpa using h2
    by_cases h3:m.bz=3
    ·rw [h3] at k g
     have h4:=bi (aQ (aQ [] 3) m.aP) m.fI
     have h5:=bi (aQ (aQ (aQ [] 3) m.aP) m.fI) m.fB.length
     simp only [h3,beq_self_eq_true,cond_true,if_true,Af]
     rw [dL hu (by omega)]; simp only [Option.bind_some]
     rw [dL hu (by omega)]; simp only [Option.bind_some]
     rw [dL hu (by omega)]; simp only [Option.bind_some]
     rw [bA (by omega)]; rfl
    ·have e3:(m.bz == 3)=false:=by simpa using h3
     by_cases h4:m.bz=4
     ·rw [h4] at k
      simp only [h4,beq_self_eq_true,cond_true,if_true]
      rw [dL hu (by omega)]; rfl
     ·have e4:(m.bz == 4)=false:=by simpa using h4
      simp only [e1,e2,e3,e4,h1,h2,h3,h4,cond_false,if_false]
theorem fd {c:List Int} {n:Int} (h0:0≤n) (h1:n≤1000000000000):aQ c n=c++cW 9 n:=by
 unfold aQ
 rw [if_pos (by simp [am]; omega)]
theorem UZ {b:List Int} (hb:aF b):∀ (n:Nat) (a:Int) (acc l:List bM) (e:Int),lZ n b a acc=some (l,e)→0≤a→a≤b.length→∃ l',l=acc++l'∧a≤e∧e≤b.length∧b.take e.toNat=nv (b.take a.toNat) l'∧∀ s∈l',s.fS≤9223372036854775807:=by
 intro n
 induction n with
 | zero =>
  intro a acc l e h h0 h1
  simp only [lZ,Option.some.injEq,Prod.mk.injEq] at h
  obtain ⟨rfl,rfl⟩:=h
  exact ⟨[],by simp,by omega,h1,rfl,by simp⟩
 | succ n ih =>
  intro a acc l e h h0 h1
  unfold lZ at h
  cases hr:sR 8 b a with
  | none=>rw [hr] at h; cases h
  | some q =>
   obtain ⟨v,e1⟩:=q
   rw [hr] at h
   dsimp only at h
   have p:=JE hb hr (by omega)
   split at h
   ·rename_i hv
    obtain ⟨l',g1,g2,g3,g4,g5⟩:=ih e1 _ l e h (by omega) p.2.2.1
    have hs:(eg (ce v).1).fS=v:=by
     have:=Cr (s:=v) (b:=(ce v).1) (by rw [← hv])
     rw [this]
    have hp:(128:Int) ^ 8=72057594037927936:=by decide
    refine ⟨eg (ce v).1 :: l',by rw [g1]; simp,by omega,g3,?_,?_⟩
    ·rw [g4,p.2.2.2.2.2,nv,hs]
    ·intro s hs'
     rcases List.mem_cons.1 hs' with rfl | hs'
     ·rw [hs]; omega
     ·exact g5 s hs'
   ·cases h
theorem VQ {b:List Int} (hb:aF b) {a e:Int} {m:af} (h:ki b a=(m,e,true)):0≤a∧a≤e∧e≤b.length∧cS m=true∧xY m∧b.take e.toNat=rx (b.take a.toNat) m:=by
 unfold ki at h
 rcases b7 b a with ⟨v1,e1,h1⟩ | h1
 ·rw [h1] at h
  dsimp only at h
  rcases b7 b e1 with ⟨v2,e2,h2⟩ | h2
  ·rw [h2] at h
   dsimp only at h
   rcases b7 b e2 with ⟨v3,e3,h3⟩ | h3
   ·rw [h3] at h
    simp only [Bool.and_self,if_true] at h
    have p1:=cA hb h1
    have p2:=cA hb h2
    have p3:=cA hb h3
    cases hs:lZ (di v2 v3).toNat b e3 [] with
    | none=>rw [hs] at h; cases h
    | some q =>
     obtain ⟨ss,e'⟩:=q
     rw [hs] at h
     unfold rz at h
     dsimp only at h
     split at h
     ·rename_i hm
      simp only [Prod.mk.injEq,and_true] at h
      obtain ⟨rfl,rfl⟩:=h
      obtain ⟨l',g1,g2,g3,g4,g5⟩:=UZ hb _ e3 [] ss e' hs (by omega) p3.2.2.1
      rw [List.nil_append] at g1
      subst g1
      refine ⟨p1.1,by omega,g3,hm,g5,?_⟩
      unfold rx
      rw [if_pos hm,fd p1.2.2.2.1 p1.2.2.2.2.1,fd p2.2.2.2.1 p2.2.2.2.2.1,fd p3.2.2.2.1 p3.2.2.2.2.1,g4,p3.2.2.2.2.2,p2.2.2.2.2.2,p1.2.2.2.2.2]
     ·cases h
   ·rw [h3] at h; simp [w4] at h
  ·rw [h2] at h; simp [w4] at h
 ·rw [h1] at h; simp [w4] at h
def pm (n:Int):Bool:=decide (n < 1048576)
def HJ:af:=⟨0,0,0,[]⟩
def yU (b:List Int) (a:Int):Option (ei×Int) :=
 let g0:=a9 b a
 let g1:=a9 b g0.2.1
 let g2:=a9 b g1.2.1
 let g3:=a9 b g2.2.1
 let g4:=a9 b g3.2.1
 if g0.2.2 && ((g1.2.2 && pm g1.1) && ((g2.2.2 && pm g2.1) && ((g3.2.2 && pm g3.1) && (g4.2.2 && pm g4.1)))) then some (⟨2,g0.1,HJ,g1.1+g2.1*1048576,g3.1+g4.1*1048576,0,[]⟩,g4.2.1) else none
def Bl (b:List Int) (a:Int):Option (ei×Int) :=
 let g0:=a9 b a
 let g1:=a9 b g0.2.1
 let g2:=qv b g1.2.1
 if g0.2.2 && g1.2.2 && g2.2.2 then some (⟨3,g0.1,HJ,0,0,g1.1,g2.1⟩,g2.2.1) else none
theorem ye {b:List Int} (hb:aF b) (a:Int):0≤(a9 b a).1:=by
 rcases b7 b a with ⟨v,e,h⟩ | h
 ·rw [h]; exact (cA hb h).2.2.2.1
 ·rw [h]; exact Int.le_refl 0
theorem Yo {u:Nat} (hu:1099511627776≤u) {b:List Int} (hb:aF b) (hl:b.length≤1048576) (k:Nat) (a:Int) (acc:List Int) (i:Nat) (hi:i < 4) (hacc:acc.length≤4) (p2:Int) (r2:Int×Int×Bool) :
  cY u (k+1) b a acc i p2 r2=if (a9 b a).2.2 && pm (a9 b a).1 then cY u k b (a9 b a).2.1 (acc++[(a9 b a).1]) ((i+1:Nat):Int) p2 r2 else some (⟨p2,r2.1,HJ,0,0,0,[]⟩,0,false):=by
 have e:(i:Int) < 4:=by omega
 rw [cY]
 simp only [e,decide_true,cond_true,kh hu hb hl,Option.bind_some]
 unfold nb pm
 rw [bA (by simp; omega),jw (by omega)]
 cases h:(a9 b a).2.2 with
 | false=>rfl
 | true =>
  by_cases hq:(a9 b a).1 < 1048576
  ·have hq':¬ (a9 b a).1≥1048576:=by omega
   simp [hq,hq']
  ·have hq':(a9 b a).1≥1048576:=by omega
   simp [hq,hq',HJ]
theorem D2 {x y:Int} (h1:0≤x) (h2:x < 1048576) (h3:0≤y) (h4:y < 1048576):aX .i64 x (i4 .i64 y 20)=x+y*1048576∧sV .i64 x (i4 .i64 y 20)=x+y*1048576∧fx .i64 (x+y*1048576) 1048575=x∧nY .i64 (x+y*1048576) 20=y:=by
 obtain ⟨a,rfl⟩:=Int.eq_ofNat_of_zero_le h1
 obtain ⟨c,rfl⟩:=Int.eq_ofNat_of_zero_le h3
 have hp:(2:Nat) ^ 20=1048576:=by decide
 have e:=Q1 (a:=c) (n:=20) (by omega) (by rw [hp]; omega)
 rw [hp] at e
 rw [show ((20:Nat):Int)=20 by rfl] at e
 rw [e]
 refine ⟨by rw [dJ (by omega) (by omega)]; omega,?_,?_,?_⟩
 ·have h:=Yn (v:=a) (a:=c) (n:=20) (by rw [hp]; omega)
  rw [hp] at h
  rw [FY (by omega) (by omega),h]; omega
 ·rw [show (a:Int)+(c:Int)*1048576=((a+c*1048576:Nat):Int) by omega,show (1048575:Int)=((1048575:Nat):Int) by rfl,UT (by omega) (by omega),show (1048575:Nat)=2 ^ 20 - 1 by decide,Nat.and_two_pow_sub_one_eq_mod,hp]; omega
 ·rw [show (a:Int)+(c:Int)*1048576=((a+c*1048576:Nat):Int) by omega,show (20:Int)=((20:Nat):Int) by rfl,UU (by omega),hp]; omega
theorem VS {u:Nat} (hu:1099511627776≤u) {b:List Int} (hb:aF b) (hl:b.length≤1048576) (a:Int):∃ r,fF u b a 2=some r∧(match yU b a with | some (m,e)=>r=(m,e,true) | none=>r.2.2=false):=by
 obtain ⟨u',hu'⟩:∃ j,u=j+5:=⟨u - 5,by omega⟩
 unfold fF yU
 rw [show ((2:Int) == 1)=false by rfl,show ((2:Int) == 2)=true by rfl]
 simp only [cond_false,cond_true,kh hu hb hl,Option.bind_some]
 cases h0:(a9 b a).2.2 with
 | false=>exact ⟨_,rfl,rfl⟩
 | true =>
  simp only [Bool.not_true,cond_false,Bool.true_and]
  have st:∀ (k:Nat) (a:Int) (acc:List Int) (i:Nat),i < 4→acc.length≤4→∀ r2:Int×Int×Bool,cY u (k+1) b a acc i 2 r2=if (a9 b a).2.2 && pm (a9 b a).1 then cY u k b (a9 b a).2.1 (acc++[(a9 b a).1]) ((i+1:Nat):Int) 2 r2 else some (⟨2,r2.1,HJ,0,0,0,[]⟩,0,false):=fun k a acc i h1 h2 r2=>Yo hu hb hl k a acc i h1 h2 2 r2
  generalize hv:a9 b a=g0
  rw [show cY u u b g0.2.1 [] 0 2 g0=cY u (u'+4+1) b g0.2.1 [] ((0:Nat):Int) 2 g0 by rw [← hu']; rfl,st _ _ _ 0 (by omega) (by simp)]
  cases h1:((a9 b g0.2.1).2.2 && pm (a9 b g0.2.1).1) with
  | false=>exact ⟨_,rfl,rfl⟩
  | true =>
   simp only [if_true,Bool.true_and,List.nil_append]
   rw [show u'+4=u'+3+1 by omega,st _ _ _ 1 (by omega) (by simp)]
   generalize hv1:a9 b g0.2.1=g1
   cases h2:((a9 b g1.2.1).2.2 && pm (a9 b g1.2.1).1) with
   | false=>exact ⟨_,rfl,rfl⟩
   | true =>
    simp only [if_true,Bool.true_and]
    rw [show u'+3=u'+2+1 by omega,st _ _ _ 2 (by omega) (by simp)]
    generalize hv2:a9 b g1.2.1=g2
    cases h3:((a9 b g2.2.1).2.2 && pm (a9 b g2.2.1).1) with
    | false=>exact ⟨_,rfl,rfl⟩
    | true =>
     simp only [if_true,Bool.true_and]
     rw [show u'+2=u'+1+1 by omega,st _ _ _ 3 (by omega) (by simp)]
     generalize hv3:a9 b g2.2.1=g3
     cases h4:((a9 b g3.2.1).2.2 && pm (a9 b g3.2.1).1) with
     | false=>exact ⟨_,rfl,rfl⟩
     | true =>
      simp only [if_true]
      rw [cY]
      have e:¬ (((3+1:Nat):Int) < 4):=by omega
      simp only [e,decide_false,cond_false]
      unfold tP tO
      rw [show (0:Int)=((0:Nat):Int) by rfl,show (1:Int)=((1:Nat):Int) by rfl,show (2:Int)=((2:Nat):Int) by rfl,show (3:Int)=((3:Nat):Int) by rfl]
      simp only [br,List.nil_append,List.cons_append,List.append_assoc,List.getElem?_cons_zero,List.getElem?_cons_succ,Option.bind_some]
      refine ⟨_,rfl,?_⟩
      have r1:0≤g1.1∧g1.1 < 1048576:=by
       rw [← hv1]; refine ⟨ye hb _,?_⟩
       simp only [Bool.and_eq_true,pm,decide_eq_true_eq] at h1; exact h1.2
      have r2:0≤g2.1∧g2.1 < 1048576:=by
       rw [← hv2]; refine ⟨ye hb _,?_⟩
       simp only [Bool.and_eq_true,pm,decide_eq_true_eq] at h2; exact h2.2
      have r3:0≤g3.1∧g3.1 < 1048576:=by
       rw [← hv3]; refine ⟨ye hb _,?_⟩
       simp only [Bool.and_eq_true,pm,decide_eq_true_eq] at h3; exact h3.2
      have r4:0≤(a9 b g3.2.1).1∧(a9 b g3.2.1).1 < 1048576:=by
       refine ⟨ye hb _,?_⟩
       simp only [Bool.and_eq_true,pm,decide_eq_true_eq] at h4; exact h4.2
      rw [(D2 r1.1 r1.2 r2.1 r2.2).1,(D2 r3.1 r3.2 r4.1 r4.2).1]
      rfl
theorem nxt {b p t:List Int} {e e' v n:Int} (hb:b=p++cW 9 n++t) (hp:b.take e.toNat=p) (h0:0≤e) (h1:e≤b.length) (hg:a9 b e=(v,e',true)) (n0:0≤n) (n1:n≤1000000000000):v=n∧b.take e'.toNat=p++cW 9 n:=by
 have hl:p.length=e.toNat:=by rw [← hp,List.length_take]; omega
 have h:=Q5 (p:=p) (n:=n) t n0 n1
 rw [← hb,hl,show ((e.toNat:Nat):Int)=e by omega,hg] at h
 simp only [Prod.mk.injEq,and_true] at h
 refine ⟨h.1,?_⟩
 rw [h.2,Int.toNat_natCast,hb,← hl,← List.length_append,List.take_left]
theorem Mz {w:Int} (h:bF w=true):∃ x y,0≤x∧x < 1048576∧0≤y∧y < 1048576∧fx .i64 w 1048575=x∧nY .i64 w 20=y:=by
 have h:=b9 h
 have:=D2 (x:=w % 1048576) (y:=w / 1048576) (by omega) (by omega) (by omega) (by omega)
 refine ⟨w % 1048576,w / 1048576,by omega,by omega,by omega,by omega,?_,?_⟩
 ·have h2:=this.2.2.1
  rwa [show w % 1048576+w / 1048576*1048576=w by omega] at h2
 ·have h2:=this.2.2.2
  rwa [show w % 1048576+w / 1048576*1048576=w by omega] at h2
theorem JH {k:Int} (h0:0≤k) (h1:k≤1000000000000):aQ [] k=cW 9 k:=by rw [fd h0 h1]; rfl
theorem Y2 {b:List Int} (hb:aF b) {a v0 e0 v1 e1 v2 e2 v3 e3 v4 e4 W D:Int} (ha:b.take a.toNat=cW 9 2) (h0:a9 b a=(v0,e0,true)) (h1:a9 b e0=(v1,e1,true)) (h2:a9 b e1=(v2,e2,true)) (h3:a9 b e2=(v3,e3,true)) (h4:a9 b e3=(v4,e4,true))
  (hok:lD ⟨2,v0,HJ,W,D,0,[]⟩=true) (hp:gL ⟨2,v0,HJ,W,D,0,[]⟩=b):pm v1=true∧pm v2=true∧pm v3=true∧pm v4=true:=by
 have p0:=cA hb h0
 have p1:=cA hb h1
 have p2:=cA hb h2
 have p3:=cA hb h3
 have p4:=cA hb h4
 have hs:bF W=true∧bF D=true:=by
  unfold lD at hok
  dsimp only at hok
  rw [if_neg (show ¬ ((2:Int)=1) by decide),if_pos rfl] at hok
  simp only [Bool.and_eq_true] at hok
  exact ⟨hok.1.1.1.2,hok.1.1.2⟩
 obtain ⟨x1,x2,a1,a2,a3,a4,a5,a6⟩:=Mz hs.1
 obtain ⟨x3,x4,c1,c2,c3,c4,c5,c6⟩:=Mz hs.2
 unfold gL at hp
 rw [if_pos hok] at hp
 have hbody:eu ⟨2,v0,HJ,W,D,0,[]⟩=cW 9 2++cW 9 v0++cW 9 x1++cW 9 x2++cW 9 x3++cW 9 x4:=by
  show pU (pU (aQ (aQ [] 2) v0) W) D=_
  unfold pU
  rw [a5,a6,c5,c6,JH (by omega) (by omega),fd p0.2.2.2.1 p0.2.2.2.2.1,fd a1 (by omega),fd a3 (by omega),fd c1 (by omega),fd c3 (by omega)]
 have hw:=DW (eu ⟨2,v0,HJ,W,D,0,[]⟩)
 rw [fd hw.1 (by omega),hbody] at hp
 generalize cW 9 (cx (cW 9 2++cW 9 v0++cW 9 x1++cW 9 x2++cW 9 x3++cW 9 x4))=t at hp
 have q0:b.take e0.toNat=cW 9 2++cW 9 v0:=by rw [p0.2.2.2.2.2,ha]
 have q1:=nxt (t:=cW 9 x2++cW 9 x3++cW 9 x4++t) (by rw [← hp]; simp) q0 (by omega) p0.2.2.1 h1 a1 (by omega)
 have q2:=nxt (t:=cW 9 x3++cW 9 x4++t) (by rw [← hp]; simp) q1.2 (by omega) p1.2.2.1 h2 a3 (by omega)
 have q3:=nxt (t:=cW 9 x4++t) (by rw [← hp]; simp) q2.2 (by omega) p2.2.2.1 h3 c1 (by omega)
 have q4:=nxt (t:=t) (by rw [← hp]) q3.2 (by omega) p3.2.2.1 h4 c3 (by omega)
 unfold pm
 simp only [decide_eq_true_eq]
 omega
theorem JI (k g w d i:Int) {p:List Int} (hp:aF p) (hl:p.length≤1048576):M.MsgWf ⟨k,g,HJ,w,d,i,p⟩:=⟨by simp [HJ],by intro s hs; simp [HJ] at hs,hp,hl⟩
def Cw (b:List Int) (r:ei×Bool) (o:Option (ei×Int)):Prop:=match o with
 | some (m,e)=>r=(m,true)
 | none=>r.2=false∨(M.MsgWf r.1∧(lD r.1=true→gL r.1≠b))
theorem D3 {b:List Int} {r:ei×Bool} {c:Bool} {x:ei×Int} (hc:c=false) (hr:r.2=false):Cw b r (if c then some x else none):=by
 subst hc; exact .inl hr
theorem WJ {α:Type} {b:Bool} (h:b=true) (x y:α):(bif !b then x else y)=y:=by subst h; rfl
theorem Q9 {α β:Type} (a:α) (f:α→Option β):(some a).bind f=f a:=(Option.bind_some (a:=a) (f:=f)).trans (Eq.refl _)
theorem Z7 (a b c d e:Int):ci [a,b,c,d,e] 0=some a:=(br [a,b,c,d,e] 0).trans rfl
theorem Z8 (a b c d e:Int):ci [a,b,c,d,e] 1=some b:=(br [a,b,c,d,e] 1).trans rfl
theorem Z9 (a b c d e:Int):ci [a,b,c,d,e] 2=some c:=(br [a,b,c,d,e] 2).trans rfl
theorem qaa (a b c d e:Int):ci [a,b,c,d,e] 3=some d:=(br [a,b,c,d,e] 3).trans rfl
theorem qab (a b c d e:Int):ci [a,b,c,d,e] 4=some e:=(br [a,b,c,d,e] 4).trans rfl
theorem VT {u:Nat} (hu:1099511627776≤u) {b:List Int} (hb:aF b) (hl:b.length≤1048576) {a:Int} (ha:b.take a.toNat=cW 9 2):∃ r,fH u b 2 a=some r∧Cw b r (yU b a):=by
 unfold fH yU
 rw [show ((2:Int) == 1)=false by rfl,show ((2:Int) == 2)=true by rfl]
 simp only [cond_false,cond_true]
 rw [show (5:Int)=((5:Nat):Int) by rfl,Fu hu hb hl a 5 (by omega)]
 simp only [Option.bind_some,xM]
 rcases b7 b a with ⟨v0,e0,h0⟩ | h0
 ·rw [h0]
  simp only [if_true]
  rcases b7 b e0 with ⟨v1,e1,h1⟩ | h1
  ·rw [h1]
   simp only [if_true]
   rcases b7 b e1 with ⟨v2,e2,h2⟩ | h2
   ·rw [h2]
    simp only [if_true]
    rcases b7 b e2 with ⟨v3,e3,h3⟩ | h3
    ·rw [h3]
     simp only [if_true]
     rcases b7 b e3 with ⟨v4,e4,h4⟩ | h4
     ·rw [h4]
      rw [if_pos rfl,WJ (by rfl)]
      have hq:[]++[v0]++[v1]++[v2]++[v3]++[v4]=[v0,v1,v2,v3,v4]:=rfl
      rw [hq,Z7,Z8,Z9,qaa,qab,Q9,Q9,Q9,Q9,Q9]
      unfold kY
      refine ⟨_,rfl,?_⟩
      have p1:=cA hb h1
      have p2:=cA hb h2
      have p3:=cA hb h3
      have p4:=cA hb h4
      cases hc:(true && (true && pm v1 && (true && pm v2 && (true && pm v3 && (true && pm v4))))) with
      | true =>
       simp only [Bool.true_and,Bool.and_eq_true,pm,decide_eq_true_eq] at hc
       simp only [if_true,Cw]
       rw [(D2 p1.2.2.2.1 hc.1 p2.2.2.2.1 hc.2.1).2.1,(D2 p3.2.2.2.1 hc.2.2.1 p4.2.2.2.1 hc.2.2.2).2.1]
       rfl
      | false =>
       simp only [Bool.false_eq_true,if_false,Cw]
       refine .inr ⟨JI _ _ _ _ _ l0 (by simp),fun hok hp=>?_⟩
       have:=Y2 hb ha h0 h1 h2 h3 h4 hok hp
       rw [this.1,this.2.1,this.2.2.1,this.2.2.2] at hc
       cases hc
     ·rw [h4]; exact ⟨_,rfl,D3 (by simp) rfl⟩
    ·rw [h3]; exact ⟨_,rfl,D3 (by simp) rfl⟩
   ·rw [h2]; exact ⟨_,rfl,D3 (by simp) rfl⟩
  ·rw [h1]; exact ⟨_,rfl,D3 (by simp) rfl⟩
 ·rw [h0]; exact ⟨_,rfl,D3 (by simp) rfl⟩
theorem qaw {b:List Int} (hb:aF b) {a e:Int} {m:ei} (ha:b.take a.toNat=cW 9 2) (h:yU b a=some (m,e)):M.MsgWf m∧0≤e∧e≤b.length∧eu m=b.take e.toNat:=by
 unfold yU at h
 dsimp only at h
 split at h
 ·rename_i hc
  simp only [Bool.and_eq_true,pm,decide_eq_true_eq] at hc
  obtain ⟨k0,⟨k1,l1⟩,⟨k2,l2⟩,⟨k3,l3⟩,k4,l4⟩:=hc
  simp only [Option.some.injEq,Prod.mk.injEq] at h
  obtain ⟨rfl,rfl⟩:=h
  rcases (b7 b a).symm with h0 | ⟨v0,e0,h0⟩
  ·simp [h0] at k0
  simp only [h0] at k0 k1 l1 k2 l2 k3 l3 k4 l4 ⊢
  rcases (b7 b e0).symm with h1 | ⟨v1,e1,h1⟩
  ·simp [h1] at k1
  simp only [h1] at k0 k1 l1 k2 l2 k3 l3 k4 l4 ⊢
  rcases (b7 b e1).symm with h2 | ⟨v2,e2,h2⟩
  ·simp [h2] at k2
  simp only [h2] at k0 k1 l1 k2 l2 k3 l3 k4 l4 ⊢
  rcases (b7 b e2).symm with h3 | ⟨v3,e3,h3⟩
  ·simp [h3] at k3
  simp only [h3] at k0 k1 l1 k2 l2 k3 l3 k4 l4 ⊢
  rcases (b7 b e3).symm with h4 | ⟨v4,e4,h4⟩
  ·simp [h4] at k4
  simp only [h4] at k0 k1 l1 k2 l2 k3 l3 k4 l4 ⊢
  have p0:=cA hb h0
  have p1:=cA hb h1
  have p2:=cA hb h2
  have p3:=cA hb h3
  have p4:=cA hb h4
  have s1:=D2 p1.2.2.2.1 l1 p2.2.2.2.1 l2
  have s2:=D2 p3.2.2.2.1 l3 p4.2.2.2.1 l4
  refine ⟨JI _ _ _ _ _ l0 (by simp),by omega,p4.2.2.1,?_⟩
  show pU (pU (aQ (aQ [] 2) v0) (v1+v2*1048576)) (v3+v4*1048576)=b.take e4.toNat
  unfold pU
  rw [s1.2.2.1,s1.2.2.2,s2.2.2.1,s2.2.2.2,JH (by omega) (by omega),fd p0.2.2.2.1 p0.2.2.2.2.1,fd p1.2.2.2.1 p1.2.2.2.2.1,fd p2.2.2.2.1 p2.2.2.2.2.1,fd p3.2.2.2.1 p3.2.2.2.2.1,fd p4.2.2.2.1 p4.2.2.2.2.1]
  rw [p4.2.2.2.2.2,p3.2.2.2.2.2,p2.2.2.2.2.2,p1.2.2.2.2.2,p0.2.2.2.2.2,ha]
 ·cases h
def D4 (r:ei×Int×Bool) (o:Option (ei×Int)):Prop:=match o with
 | some (m,e)=>r=(m,e,true)
 | none=>r.2.2=false∨(r.1.av.aD.length≤1048576∧lD r.1=false)
def M.puts (b:List Int) (o:Option (ei×Int)):Prop:=∀ m e,o=some (m,e)→M.MsgWf m∧0≤e∧e≤b.length∧eu m=b.take e.toNat
theorem Ta {α:Type} (r:α×Int×Bool) (h:r.2.2=true):r=(r.1,r.2.1,true):=by rw [← h]
def Bm (b:List Int) (a:Int):Option (ei×Int):=if (ki b a).2.2 then some (⟨1,0,(ki b a).1,0,0,0,[]⟩,(ki b a).2.1) else none
def Bn (b:List Int) (a:Int):Option (ei×Int):=if (a9 b a).2.2 then some (⟨4,(a9 b a).1,HJ,0,0,0,[]⟩,(a9 b a).2.1) else none
theorem VU {u:Nat} (hu:1099511627776≤u) {b:List Int} (hb:aF b) (hl:b.length≤1048576) (a:Int):∃ r,fF u b a 1=some r∧D4 r (Bm b a):=by
 refine ⟨(⟨1,0,(ki b a).1,0,0,0,[]⟩,(ki b a).2.1,(ki b a).2.2),?_,?_⟩
 ·unfold fF
  rw [Q7 hu hb hl]; rfl
 ·unfold Bm D4
  cases h:(ki b a).2.2 with
  | false=>exact .inl rfl
  | true=>rfl
theorem VW {u:Nat} (hu:1099511627776≤u) {b:List Int} (hb:aF b) (hl:b.length≤1048576) (a:Int):∃ r,fH u b 1 a=some r∧Cw b r (Bm b a):=by
 refine ⟨(⟨1,0,(ki b a).1,0,0,0,[]⟩,(ki b a).2.2),?_,?_⟩
 ·unfold fH
  rw [Q6 hu hb hl]; rfl
 ·unfold Bm Cw
  cases h:(ki b a).2.2 with
  | false=>exact .inl rfl
  | true=>rfl
theorem qax {b:List Int} (hb:aF b) {a:Int} (ha:b.take a.toNat=cW 9 1):M.puts b (Bm b a):=by
 intro m e h
 unfold Bm at h
 split at h
 ·rename_i hc
  simp only [Option.some.injEq,Prod.mk.injEq] at h
  obtain ⟨rfl,rfl⟩:=h
  have p:=VQ hb (Ta _ hc)
  refine ⟨⟨by have:=u7 p.2.2.2.1; show (ki b a).1.aD.length≤_; omega,p.2.2.2.2.1,l0,by simp⟩,by omega,p.2.2.1,?_⟩
  rw [p.2.2.2.2.2,ha,← JH (by omega) (by omega)]
  rfl
 ·cases h
theorem VX {u:Nat} (hu:1099511627776≤u) {b:List Int} (hb:aF b) (hl:b.length≤1048576) (a:Int):∃ r,fF u b a 3=some r∧D4 r (Bl b a):=by
 unfold fF Bl
 rw [show ((3:Int) == 1)=false by rfl,show ((3:Int) == 2)=false by rfl,show ((3:Int) == 3)=true by rfl]
 simp only [cond_false,cond_true,kh hu hb hl,Oo hu hb hl,Option.bind_some]
 rcases b7 b a with ⟨v0,e0,h0⟩ | h0
 ·rw [h0]
  dsimp only
  rcases b7 b e0 with ⟨v1,e1,h1⟩ | h1
  ·rw [h1]
   dsimp only
   cases h2:(qv b e1).2.2 with
   | false=>exact ⟨_,rfl,.inl rfl⟩
   | true=>exact ⟨_,rfl,rfl⟩
  ·rw [h1]; exact ⟨_,rfl,.inl rfl⟩
 ·rw [h0]; exact ⟨_,rfl,.inl rfl⟩
theorem qac (a b:Int):ci [a,b] 0=some a:=(br [a,b] 0).trans rfl
theorem qad (a b:Int):ci [a,b] 1=some b:=(br [a,b] 1).trans rfl
theorem VY {u:Nat} (hu:1099511627776≤u) {b:List Int} (hb:aF b) (hl:b.length≤1048576) (a:Int):∃ r,fH u b 3 a=some r∧Cw b r (Bl b a):=by
 unfold fH Bl
 rw [show ((3:Int) == 1)=false by rfl,show ((3:Int) == 2)=false by rfl,show ((3:Int) == 3)=true by rfl]
 simp only [cond_false,cond_true,Om hu hb hl]
 have hrv:=Fu hu hb hl a 2 (by omega)
 rw [show ((2:Nat):Int)=2 from rfl] at hrv
 rw [hrv]
 simp only [Option.bind_some,xM]
 rcases b7 b a with ⟨v0,e0,h0⟩ | h0
 ·rw [h0]
  simp only [if_true]
  rcases b7 b e0 with ⟨v1,e1,h1⟩ | h1
  ·rw [h1,if_pos rfl,WJ (by rfl)]
   have hq:[]++[v0]++[v1]=[v0,v1]:=rfl
   rw [hq,qac,qad,Q9,Q9]
   dsimp only
   cases h2:(qv b e1).2.2 with
   | false=>exact ⟨_,rfl,.inl rfl⟩
   | true=>exact ⟨_,rfl,rfl⟩
  ·rw [h1]; exact ⟨_,rfl,D3 (by simp) rfl⟩
 ·rw [h0]; exact ⟨_,rfl,D3 (by simp) rfl⟩
theorem qay {b:List Int} (hb:aF b) {a:Int} (ha:b.take a.toNat=cW 9 3):M.puts b (Bl b a):=by
 intro m e h
 unfold Bl at h
 dsimp only at h
 split at h
 ·rename_i hc
  simp only [Bool.and_eq_true] at hc
  obtain ⟨⟨k0,k1⟩,k2⟩:=hc
  simp only [Option.some.injEq,Prod.mk.injEq] at h
  obtain ⟨rfl,rfl⟩:=h
  have p0:=cA hb (Ta _ k0)
  have p1:=cA hb (Ta _ k1)
  have p2:=UY hb (Ta _ k2)
  generalize a9 b a=g0 at *
  generalize a9 b g0.2.1=g1 at *
  generalize qv b g1.2.1=g2 at *
  refine ⟨JI _ _ _ _ _ p2.2.2.2.1 (by omega),by omega,p2.2.2.1,?_⟩
  show aQ (aQ (aQ (aQ [] 3) g0.1) g1.1) g2.1.length++g2.1=b.take g2.2.1.toNat
  rw [JH (by omega) (by omega),fd p0.2.2.2.1 p0.2.2.2.2.1,fd p1.2.2.2.1 p1.2.2.2.2.1,fd (by omega) (by omega),p2.2.2.2.2.2,p1.2.2.2.2.2,p0.2.2.2.2.2,ha]
 ·cases h
theorem VZ {u:Nat} (hu:1099511627776≤u) {b:List Int} (hb:aF b) (hl:b.length≤1048576) (a:Int):∃ r,fF u b a 4=some r∧D4 r (Bn b a):=by
 unfold fF Bn
 rw [show ((4:Int) == 1)=false by rfl,show ((4:Int) == 2)=false by rfl,show ((4:Int) == 3)=false by rfl]
 simp only [cond_false,cond_true,kh hu hb hl,Option.bind_some]
 rcases b7 b a with ⟨v0,e0,h0⟩ | h0
 ·rw [h0]; exact ⟨_,rfl,rfl⟩
 ·rw [h0]; exact ⟨_,rfl,.inl rfl⟩
theorem V0 {u:Nat} (hu:1099511627776≤u) {b:List Int} (hb:aF b) (hl:b.length≤1048576) (a:Int):∃ r,fH u b 4 a=some r∧Cw b r (Bn b a):=by
 unfold fH Bn
 rw [show ((4:Int) == 1)=false by rfl,show ((4:Int) == 2)=false by rfl,show ((4:Int) == 3)=false by rfl,show ((4:Int) == 4)=true by rfl]
 simp only [cond_false,cond_true,wY hu hb hl,Option.bind_some]
 rcases b7 b a with ⟨v0,e0,h0⟩ | h0
 ·rw [h0]; exact ⟨_,rfl,rfl⟩
 ·rw [h0]; exact ⟨_,rfl,.inl rfl⟩
theorem qaz {b:List Int} (hb:aF b) {a:Int} (ha:b.take a.toNat=cW 9 4):M.puts b (Bn b a):=by
 intro m e h
 unfold Bn at h
 split at h
 ·rename_i k0
  simp only [Option.some.injEq,Prod.mk.injEq] at h
  obtain ⟨rfl,rfl⟩:=h
  have p0:=cA hb (Ta _ k0)
  generalize a9 b a=g0 at *
  refine ⟨JI _ _ _ _ _ l0 (by simp),by omega,p0.2.2.1,?_⟩
  show aQ (aQ [] 4) g0.1=b.take g0.2.1.toNat
  rw [JH (by omega) (by omega),fd p0.2.2.2.1 p0.2.2.2.2.1,p0.2.2.2.2.2,ha]
 ·cases h
def Cx (b:List Int) (kind a:Int):Option (ei×Int):=if kind=1 then Bm b a else if kind=2 then yU b a else if kind=3 then Bl b a else if kind=4 then Bn b a else none
theorem Ra {m:ei} (h1:m.bz≠1) (h2:m.bz≠2) (h3:m.bz≠3) (h4:m.bz≠4):lD m=false:=by
 unfold lD; rw [if_neg h1,if_neg h2,if_neg h3,if_neg h4]
theorem Xq {u:Nat} (hu:1099511627776≤u) {b:List Int} (hb:aF b) (hl:b.length≤1048576) (k a:Int):∃ r,fF u b a k=some r∧D4 r (Cx b k a):=by
 unfold Cx
 by_cases h1:k=1
 ·subst h1; exact VU hu hb hl a
 ·rw [if_neg h1]
  by_cases h2:k=2
  ·subst h2
   obtain ⟨r,g1,g2⟩:=VS hu hb hl a
   refine ⟨r,g1,?_⟩
   rw [if_pos rfl]
   unfold D4
   cases hp:yU b a with
   | none=>rw [hp] at g2; exact .inl g2
   | some q=>rw [hp] at g2; exact g2
  ·rw [if_neg h2]
   by_cases h3:k=3
   ·subst h3; exact VX hu hb hl a
   ·rw [if_neg h3]
    by_cases h4:k=4
    ·subst h4; exact VZ hu hb hl a
    ·rw [if_neg h4]
     have e1:(k == 1)=false:=by simpa using h1
     have e2:(k == 2)=false:=by simpa using h2
     have e3:(k == 3)=false:=by simpa using h3
     unfold fF
     rw [e1,e2,e3]
     simp only [cond_false,kh hu hb hl,Option.bind_some]
     rcases b7 b a with ⟨v0,e0,h0⟩ | h0
     ·rw [h0]
      exact ⟨(⟨k,v0,⟨0,0,0,[]⟩,0,0,0,[]⟩,e0,true),rfl,.inr ⟨by simp,Ra h1 h2 h3 h4⟩⟩
     ·rw [h0]; exact ⟨_,rfl,.inl rfl⟩
theorem Xr {u:Nat} (hu:1099511627776≤u) {b:List Int} (hb:aF b) (hl:b.length≤1048576) {k a:Int} (ha:b.take a.toNat=cW 9 k):∃ r,fH u b k a=some r∧Cw b r (Cx b k a):=by
 unfold Cx
 by_cases h1:k=1
 ·subst h1; exact VW hu hb hl a
 ·rw [if_neg h1]
  by_cases h2:k=2
  ·subst h2; exact VT hu hb hl ha
  ·rw [if_neg h2]
   by_cases h3:k=3
   ·subst h3; exact VY hu hb hl a
   ·rw [if_neg h3]
    by_cases h4:k=4
    ·subst h4; exact V0 hu hb hl a
    ·rw [if_neg h4]
     have e1:(k == 1)=false:=by simpa using h1
     have e2:(k == 2)=false:=by simpa using h2
     have e3:(k == 3)=false:=by simpa using h3
     have e4:(k == 4)=false:=by simpa using h4
     unfold fH
     rw [e1,e2,e3,e4]
     exact ⟨_,rfl,.inl rfl⟩
theorem LR {b:List Int} (hb:aF b) {k a:Int} (ha:b.take a.toNat=cW 9 k):M.puts b (Cx b k a):=by
 unfold Cx
 by_cases h1:k=1
 ·subst h1; exact qax hb ha
 ·rw [if_neg h1]
  by_cases h2:k=2
  ·subst h2; exact fun m e h=>qaw hb ha h
  ·rw [if_neg h2]
   by_cases h3:k=3
   ·subst h3; exact qay hb ha
   ·rw [if_neg h3]
    by_cases h4:k=4
    ·subst h4; exact qaz hb ha
    ·rw [if_neg h4]; intro m e h; cases h
def w5:ei×Bool:=(⟨0,0,⟨0,0,0,[]⟩,0,0,0,[]⟩,false)
def hU (b:List Int):ei×Bool:=if (a9 b 0).2.2 && decide (b.length≤400) then match Cx b (a9 b 0).1 (a9 b 0).2.1 with
  | some (m,e)=>if lD m && decide (gL m=b) then (m,true) else w5
  | none=>w5
 else w5
theorem D5 {m:ei} (h:M.MsgWf m):aF (gL m):=by
 unfold gL
 split
 ·exact gU (HI h).1 _
 ·exact l0
theorem Rb {u:Nat} (hu:1099511627776≤u) {b:List Int} (hb:aF b) (hl:b.length≤1048576):yH u b=some (hU b):=by
 unfold yH hU wd rf
 simp only [wY hu hb hl,Option.bind_some]
 rcases b7 b 0 with ⟨k,a,h0⟩ | h0
 ·rw [h0]
  have p:=cA hb h0
  have ha:b.take a.toNat=cW 9 k:=by rw [p.2.2.2.2.2]; rfl
  by_cases h4:b.length≤400
  ·have h4':¬ ((b.length:Int) > 400):=by omega
   simp only [h4,h4',decide_true,decide_false,Bool.and_self,if_true,Bool.not_true,cond_false]
   obtain ⟨r,g1,g2⟩:=Xr hu hb hl ha
   rw [g1]
   simp only [Option.bind_some]
   cases hr:Cx b k a with
   | none =>
    rw [hr] at g2
    rcases g2 with g2 | ⟨g2,g3⟩
    ·rw [g2]; rfl
    ·cases hf:r.2 with
     | false=>rfl
     | true =>
      rw [Cu hu g2.sums]
      simp only [Bool.not_true,cond_false,Option.bind_some]
      cases hm:lD r.1 with
      | false=>rfl
      | true =>
       simp only [Bool.not_true,cond_false,Bk hu g2,qG,Option.bind_some]
       rw [JG (D5 g2) hb,decide_eq_false (g3 hm)]; rfl
   | some q =>
    obtain ⟨m,e⟩:=q
    rw [hr] at g2
    have w:=LR hb ha m e hr
    unfold Cw at g2
    dsimp only at g2
    rw [g2]
    dsimp only
    rw [Cu hu w.1.sums]
    simp only [Bool.not_true,cond_false,Option.bind_some]
    cases hm:lD m with
    | false=>rfl
    | true =>
     simp only [Bool.not_true,cond_false,Bk hu w.1,qG,Option.bind_some]
     rw [JG (D5 w.1) hb]
     by_cases hp:gL m=b
     ·simp [hp]
     ·simp [hp,w5]
  ·have h4':(b.length:Int) > 400:=by omega
   simp [h4,h4',w5]
 ·rw [h0]; simp [w5]
theorem ZH {b:List Int} (hb:aF b) {m:ei} {e:Int} (h0:0≤e) (h1:e≤b.length) (hp:eu m=b.take e.toNat) (hm:lD m=true):gL m=b↔a9 b e=(cx (b.take e.toNat),(b.length:Int),true):=by
 have hw:=DW (b.take e.toNat)
 unfold gL
 rw [if_pos hm,hp,fd hw.1 (by omega)]
 have hlen:(b.take e.toNat).length=e.toNat:=by rw [List.length_take]; omega
 constructor
 ·intro h
  have g:=Q5 (p:=b.take e.toNat) (n:=cx (b.take e.toNat)) [] hw.1 (by omega)
  rw [List.append_nil,h,hlen,show ((e.toNat:Nat):Int)=e by omega] at g
  rw [g]
  refine Prod.ext rfl (Prod.ext ?_ rfl)
  have:=congrArg List.length h
  rw [List.length_append,hlen] at this
  dsimp only; omega
 ·intro h
  have p:=cA hb h
  rw [← p.2.2.2.2.2,Int.toNat_natCast,List.take_length]
theorem Rc {u:Nat} (hu:1099511627776≤u) {b:List Int} (hb:aF b) (hl:b.length≤1048576):yx u b=some (hU b):=by
 unfold yx hU vG vF qY
 simp only [kh hu hb hl,Option.bind_some]
 rcases b7 b 0 with ⟨k,a,h0⟩ | h0
 ·rw [h0]
  have p:=cA hb h0
  have ha:b.take a.toNat=cW 9 k:=by rw [p.2.2.2.2.2]; rfl
  by_cases h4:b.length≤400
  ·have h4':¬ ((b.length:Int) > 400):=by omega
   simp only [h4,h4',decide_true,decide_false,Bool.and_self,if_true,Bool.not_true,cond_false]
   obtain ⟨r,g1,g2⟩:=Xq hu hb hl k a
   rw [g1]
   simp only [Option.bind_some]
   cases hr:Cx b k a with
   | none =>
    rw [hr] at g2
    rcases g2 with g2 | ⟨g2,g3⟩
    ·rw [g2]; rfl
    ·cases hf:r.2.2 with
     | false=>rfl
     | true =>
      rw [Cv hu g2,g3]; rfl
   | some q =>
    obtain ⟨m,e⟩:=q
    rw [hr] at g2
    have w:=LR hb ha m e hr
    unfold D4 at g2
    dsimp only at g2
    rw [g2]
    dsimp only
    rw [Cv hu w.1.sums]
    simp only [Bool.not_true,cond_false,Option.bind_some]
    cases hm:lD m with
    | false=>rfl
    | true =>
     have hs:=ZH hb w.2.1 w.2.2.1 w.2.2.2 hm
     obtain ⟨e,rfl⟩:=Int.eq_ofNat_of_zero_le w.2.1
     simp only [Bool.not_true,cond_false,Int.toNat_natCast] at hs ⊢
     rw [show (0:Int)=((0:Nat):Int) by rfl,eK (by omega) (by have:=w.2.2.1; omega)]
     simp only [Option.bind_some,Int.toNat_natCast,List.drop_zero]
     rw [wV hu (fun x hx=>hb x (List.mem_of_mem_take hx)) (by rw [List.length_take]; omega)]
     simp only [Option.bind_some]
     rcases b7 b e with ⟨v,e',h5⟩ | h5
     ·rw [h5] at hs ⊢
      simp only [Bool.not_true,cond_false]
      by_cases he:e'=(b.length:Int)
      ·by_cases hv:v=cx (b.take e)
       ·have:gL m=b:=hs.2 (by rw [he,hv])
        simp [he,hv,this]
       ·have:¬ gL m=b:=fun h=>hv (by have:=hs.1 h; simp only [Prod.mk.injEq] at this; exact this.1)
        have hv':(v != cx (b.take e))=true:=by simpa using hv
        simp [he,this,w5]
        rw [hv']; rfl
      ·have:¬ gL m=b:=fun h=>he (by have:=hs.1 h; simp only [Prod.mk.injEq] at this; exact this.2.1)
       have he':(e' != (b.length:Int))=true:=by simpa using he
       simp [this,w5]
       rw [he']; rfl
     ·rw [h5] at hs ⊢
      have:¬ gL m=b:=fun h=>by have:=hs.1 h; simp at this
      simp [this,w5]
  ·have h4':(b.length:Int) > 400:=by omega
   simp [h4,h4',w5]
 ·rw [h0]; simp [w5]
theorem U0 {u:Nat} (hu:1099511627776≤u) (d0:aG):∀ (l:List cd) (i:Nat) (d:aG),(∀ p∈l,mW p=true)→M.DOk d→bt (lu u d0) (fV u d0) l i (tup d)=some (QZ l d):=by
 intro l
 induction l with
 | nil=>intro i d _ _; rfl
 | cons p l ih =>
  intro i d hp hd
  have h0:=hp p (by simp)
  simp only [bt,fV,cX,yD,Option.bind_some,cond_true,QZ]
  rw [show (aG.mk (tup d).1 (tup d).2.1 (c7.mk (tup d).2.2.1 (tup d).2.2.2.1 (tup d).2.2.2.2.1) (tup d).2.2.2.2.2)=d by rfl,Ok hu hd h0]
  exact ih (i+1) _ (fun q hq=>hp q (by simp [hq])) (S8 hd h0)
theorem TT {u:Nat} (hu:1099511627776≤u) {d:aG} (hd:M.DOk d):CZ u d=some (Ft d):=by
 have h3:=hd.p
 unfold CZ fh Ft
 rw [LO hu hd,Bh hu hd]
 simp only [Option.bind_some]
 cases h:em d with
 | false=>rfl
 | true =>
  simp only [Bool.not_true,cond_false,if_true]
  have e:=U0 hu d d.fP 0 d (Mw h) hd
  rw [← sI u d (tup d) u (by omega) (by omega)] at e
  rw [show bW u u d 0 d.fA d.fB d.fR.aP d.fR.cL d.fR.aY d.fP=_ from e]; rfl
theorem Oq (u:Nat) {n:Nat} (h:n≤40):rV u n=some ((2 ^ n - 1:Nat):Int):=by
 unfold rV
 have h1:am (n:Int) 0 40=true:=by simp [am]; omega
 rw [bG,h1]
 simp only [Option.bind_some,Bool.not_true,cond_false]
 have h2:(2:Nat) ^ n≤2 ^ 40:=Nat.pow_le_pow_right (by omega) h
 have h3:0 < (2:Nat) ^ n:=Nat.pow_pos (by omega)
 rw [bA (by omega),LH (by omega)]
 generalize (2:Nat) ^ n=p at *
 rw [cB (by omega) (by omega)]
 simp only [Option.bind_some]
 congr 1
 omega
def iQ {α:Type} (f:α→Nat→Bool):List α→Nat→Bool
 | [],_=>true
 | x :: l,i=>f x i && iQ f l (i+1)
theorem mP {α:Type} {fin:Unit→Option Bool} {body:α→Nat→Unit→(Unit→Option Bool)→Option Bool} (f:α→Nat→Bool) {xs:List α} {b:Bool} (hf:fin ()=some b) (i0:Nat) (hb:∀ x i k,i0≤i→xs[i]?=some x→body x i () k=bif f x i then k () else some false) :
  ∀ (l:List α) (i:Nat),i0≤i→l=xs.drop i→bt fin body l i ()=some (iQ f l i && b):=by
 intro l
 induction l with
 | nil=>intro i _ _; simp [bt,iQ,hf]
 | cons x l ih =>
  intro i h0 h
  have hx:xs[i]?=some x:=by
   have:=congrArg List.head? h
   simpa [List.head?_drop] using this.symm
  have hl:l=xs.drop (i+1):=by
   have:=congrArg List.tail h
   simpa [List.tail_drop] using this
  simp only [bt,iQ]
  rw [hb x i _ h0 hx,ih (i+1) (by omega) hl]
  cases f x i <;> simp
def HK (x:Int) (i:Nat):Bool:=if i=0 then x == -1 else am x 0 ((i:Int) - 1)
def oY (t:co):Bool:=iQ HK t.cy 0 && am t.cy.length 1 7
theorem Fv {u:Nat} (hu:1099511627776≤u) {t:co} (hl:t.cy.length≤1073741824):uT u t=some (oY t):=by
 unfold uT oY
 rw [KE u t () u (by omega) (by omega)]
 refine mP HK (by simp [CS,vS,bG]) 0 (fun x i k _ hx=>?_) _ 0 (Nat.le_refl _) rfl
 have hi:i < t.cy.length:=(List.getElem?_eq_some_iff.1 hx).1
 unfold CT eC HK
 by_cases h0:i=0
 ·subst h0
  by_cases h1:x=-1
  ·subst h1; simp
  ·have:(x == -1)=false:=by simpa using h1
   simp [this,bne]
 ·have e0:((i:Int) == 0)=false:=by simpa using h0
  have e1:decide ((i:Int) > 0)=true:=by simp; omega
  simp (disch:=omega) only [e0,e1,h0,cond_true,cond_false,cB,bG,Option.bind_some,↓reduceIte]
  cases am x 0 ((i:Int) - 1) <;> rfl
theorem Fw {u:Nat} (hu:1099511627776≤u) {t:co} (hl:t.cy.length≤1073741824):uL u t=some (oY t):=by
 unfold uL oY vt
 simp only [bU,Option.bind_some]
 cases hw:am t.cy.length 1 7 with
 | false=>simp
 | true =>
  have:=b9 hw
  match hup:t.cy with
  | []=>rw [hup] at this; simp at this
  | x :: l =>
   have h1:ci (x :: l) 0=some x:=rfl
   simp only [Bool.not_true,cond_false,h1,Option.bind_some,iQ,HK,↓reduceIte,Bool.and_true]
   by_cases hx:x=-1
   ·subst hx
    simp only [bne_self_eq_false,cond_false,beq_self_eq_true,Bool.true_and]
    have h:=UK (fin:=CG u t) (body:=fun y i s k=>xm u t y i s k) (xs:=t.cy) (fun k s i=>jV u k i t) (by omega) (fun _ _ _=>rfl) (t.cy.drop 1) u 1 () rfl (by simp; omega)
    have h2:jV u u 1 t=some (iQ HK (t.cy.drop 1) 1 && true):=by
     rw [show ((1:Int))=((1:Nat):Int) from rfl,h]
     refine mP HK rfl 1 (fun y i k h0 hy=>?_) _ 1 (Nat.le_refl _) rfl
     have hi:i < t.cy.length:=(List.getElem?_eq_some_iff.1 hy).1
     have e0:i≠0:=by omega
     unfold xm HK
     simp (disch:=omega) only [e0,cB,bU,Option.bind_some,↓reduceIte]
     cases am y 0 ((i:Int) - 1) <;> rfl
    rw [h2,hup]
    simp
   ·have:(x == -1)=false:=by simpa using hx
    simp [this,bne]
def iR (up:List Int):Nat→Int→List Int
 | 0,_=>[]
 | n+1,k=>if am k 0 ((up.length:Int) - 1) then k :: iR up n ((up[k.toNat]?).getD 0) else []
def Bo (t:co) (k:Int):List Int:=iR t.cy t.cy.length k
theorem D6 (up:List Int):∀ (n:Nat) (k:Int),(iR up n k).length≤n
 | 0,_=>by simp [iR]
 | n+1,k=>by
  unfold iR
  split
  ·have:=D6 up n ((up[k.toNat]?).getD 0)
   simp; omega
  ·simp
theorem Re {up:List Int} {k:Int} (h:am k 0 ((up.length:Int) - 1)=true):ci up k=some ((up[k.toNat]?).getD 0):=by
 have:=b9 h
 have h1:k.toNat < up.length:=by omega
 simp [ci,this.1,h1]
theorem oZ (u:Nat) {t:co} (hl:t.cy.length≤1048576) (k:Int):ee u t k=some (am k 0 ((t.cy.length:Int) - 1)):=by
 unfold ee
 simp (disch:=omega) only [cB,bG,Option.bind_some]
theorem Rf {u:Nat} (hu:1099511627776≤u) {t:co} (hl:t.cy.length≤1048576) (k:Int):yu u t k=some (Bo t k):=by
 have main:∀ (n f:Nat) (k:Int) (o:List Int),o.length+n=t.cy.length→n < f→iC u f k o t=some (o++iR t.cy n k):=by
  intro n
  induction n with
  | zero =>
   intro f k o h1 h2
   obtain ⟨f,rfl⟩:∃ j,f=j+1:=⟨f - 1,by omega⟩
   have e:decide ((o.length:Int) < (t.cy.length:Int))=false:=by simp; omega
   unfold iC qP vz
   simp (disch:=omega) only [cB,bU,Option.bind_some,e,cond_false,iR,List.append_nil]
   cases am k 0 ((t.cy.length:Int) - 1) <;> rfl
  | succ n ih =>
   intro f k o h1 h2
   obtain ⟨f,rfl⟩:∃ j,f=j+1:=⟨f - 1,by omega⟩
   have e:decide ((o.length:Int) < (t.cy.length:Int))=true:=by simp; omega
   unfold iC qP vz
   simp (disch:=omega) only [cB,bU,Option.bind_some,e,iR]
   cases hw:am k 0 ((t.cy.length:Int) - 1) with
   | false=>simp
   | true =>
    have e2:dW (decide ((o.length+([k]).length)*8≤140737488355328))=some ():=bA (by simp; omega)
    have e2':dW (decide ((o.length+([(0:Int)]).length)*8≤140737488355328))=some ():=bA (by simp; omega)
    simp only [cond_true,Re hw,Option.bind_some,e2,↓reduceIte]
    rw [ih f _ (o++[k]) (by simp; omega) (by omega),List.append_assoc,List.singleton_append]
 unfold yu Bo
 rw [main t.cy.length u k [] (by simp) (by omega),List.nil_append]
theorem Rg {u:Nat} (hu:1099511627776≤u) {t:co} (hl:t.cy.length≤1048576) (k:Int):yB u t k=some (Bo t k):=by
 have main:∀ (n f:Nat) (k:Int) (o:List Int),o.length+n=t.cy.length→n < f→iH u f k o t=some (o++iR t.cy n k):=by
  intro n
  induction n with
  | zero =>
   intro f k o h1 h2
   obtain ⟨f,rfl⟩:∃ j,f=j+1:=⟨f - 1,by omega⟩
   have e:decide ((o.length:Int) < (t.cy.length:Int))=false:=by simp; omega
   unfold iH q9 vU
   simp (disch:=omega) only [oZ,Option.bind_some,e,cond_false,iR,List.append_nil]
   cases am k 0 ((t.cy.length:Int) - 1) <;> rfl
  | succ n ih =>
   intro f k o h1 h2
   obtain ⟨f,rfl⟩:∃ j,f=j+1:=⟨f - 1,by omega⟩
   have e:decide ((o.length:Int) < (t.cy.length:Int))=true:=by simp; omega
   unfold iH q9 vU
   simp (disch:=omega) only [oZ,Option.bind_some,e,iR]
   cases hw:am k 0 ((t.cy.length:Int) - 1) with
   | false=>simp
   | true =>
    have e2:dW (decide ((o.length+([k]).length)*8≤140737488355328))=some ():=bA (by simp; omega)
    simp only [cond_true,Re hw,Option.bind_some,e2,↓reduceIte]
    rw [ih f _ (o++[k]) (by simp; omega) (by omega),List.append_assoc,List.singleton_append]
 unfold yB Bo
 rw [main t.cy.length u k [] (by simp) (by omega),List.nil_append]
def JJ (t:co) (a k:Int):Bool:=(a != k) && (Bo t k).any fun y=>y == a
theorem LS {u:Nat} (hu:1099511627776≤u) {t:co} (hl:t.cy.length≤1048576) (a k:Int):p8 u t a k=some (JJ t a k):=by
 have:=D6 t.cy t.cy.length k
 unfold p8 JJ
 rw [Rf hu hl]
 simp only [Option.bind_some]
 rw [QV hu (by unfold Bo; omega)]
 cases a != k <;> rfl
theorem LT {u:Nat} (hu:1099511627776≤u) {t:co} (hl:t.cy.length≤1048576) (a k:Int):qj u t a k=some (JJ t a k):=by
 have:=D6 t.cy t.cy.length k
 unfold qj JJ
 rw [Rg hu hl]
 simp only [Option.bind_some]
 rw [zI hu (by unfold Bo; omega)]
 cases a != k <;> rfl
theorem MB {up:List Int}:∀ {n:Nat} {k a:Int},a∈iR up n k→am a 0 ((up.length:Int) - 1)=true
 | 0,_,_,h=>by simp [iR] at h
 | n+1,k,a,h=>by
  unfold iR at h
  split at h
  ·rename_i hk
   rcases List.mem_cons.1 h with rfl | h
   ·exact hk
   ·exact MB h
  ·simp at h
theorem ZI {t:co} {a k:Int} (h:JJ t a k=true):am a 0 ((t.cy.length:Int) - 1)=true:=by
 unfold JJ at h
 simp only [Bool.and_eq_true,List.any_eq_true,beq_iff_eq] at h
 obtain ⟨_,y,hy,rfl⟩:=h
 exact MB hy
theorem yf {α:Type} (f:α→Bool):∀ (l:List α) (i:Nat),(dD f l i=-1∧∀ x∈l,f x=false)∨∃ (j:Nat) (x:α),dD f l i=((i+j:Nat):Int)∧l[j]?=some x∧f x=true
 | [],i=>.inl ⟨rfl,by simp⟩
 | y :: l,i=>by
  cases hy:f y with
  | true=>exact .inr ⟨0,y,by simp [dD,hy],rfl,hy⟩
  | false =>
   rcases yf f l (i+1) with ⟨h1,h2⟩ | ⟨j,x,h1,h2,h3⟩
   ·exact .inl ⟨by simp [dD,hy,h1],by simp [hy]; exact h2⟩
   ·exact .inr ⟨j+1,x,by simp [dD,hy,h1]; omega,by simpa using h2,h3⟩
def yg (l:List Kid) (id:Int):Int:=dD (fun x=>x.fb == id) l 0
theorem Cy {u:Nat} (hu:1099511627776≤u) {l:List Kid} (hl:l.length≤1048577) (id:Int):uq u l id=some (yg l id):=by
 unfold uq
 rw [MO u l id () u (by omega) (by omega)]
 exact lP (fun (x:Kid)=>x.fb == id) rfl (fun x i k _=>rfl)
theorem Cz {u:Nat} (hu:1099511627776≤u) {l:List Kid} (hl:l.length≤1048577) (id:Int):ux u l id=some (yg l id):=by
 unfold ux cH
 rw [kn u l id () u (by omega) (by omega),lP (fun (x:Kid)=>x.fb == id) rfl (fun x i k _=>rfl)]
 rfl
def yV (l:List Kid) (x:Kid) (i:Nat):Bool :=
 am x.fb 0 6 && bF x.bw && bF x.bL && bF x.c8 && !decide (x.qM < 0) && (if i=0 then true else match l[i - 1]? with | some y=>!decide (x.fb≤y.fb) | none=>true)
def pV (l:List Kid):Bool:=iQ (yV l) l 0
theorem U1 {α:Type} {l:List α} {i:Nat} (h:i < l.length) (h0:i≠0) (hl:l.length≤1048577):∃ y,l[i - 1]?=some y∧ci l (cu .i64 (i:Int) 1)=some y:=by
 have h1:i - 1 < l.length:=by omega
 refine ⟨l[i - 1],by simp [h1],?_⟩
 rw [cB (by omega) (by omega),show (i:Int) - 1=((i - 1:Nat):Int) by omega,br]
 simp [h1]
theorem Rh {u:Nat} (hu:1099511627776≤u) {l:List Kid} (hl:l.length≤1048576):pa u l=some (pV l):=by
 unfold pa pV
 rw [Kt u l () u (by omega) (by omega),mP (yV l) (xs:=l) (b:=true) rfl 0 (fun x i k _ hx=>?_) l 0 (Nat.le_refl _) rfl,Bool.and_true]
 have hi:i < l.length:=(List.getElem?_eq_some_iff.1 hx).1
 unfold CJ cm yV
 simp only [bU,jU,br,hx,Option.bind_some]
 by_cases h0:i=0
 ·subst h0
  have e:decide (((0:Nat):Int) > 0)=false:=by simp
  simp only [e,cond_false,↓reduceIte,Bool.and_true]
  cases am x.fb 0 6 <;> cases bF x.bw <;> cases bF x.bL <;> cases bF x.c8 <;> cases decide (x.qM < 0) <;> rfl
 ·have e:decide ((i:Int) > 0)=true:=by simp; omega
  obtain ⟨y,h1,h2⟩:=U1 hi h0 (by omega)
  simp only [e,cond_true,h0,h1,h2,↓reduceIte,Option.bind_some]
  cases am x.fb 0 6 <;> cases bF x.bw <;> cases bF x.bL <;> cases bF x.c8 <;> cases decide (x.qM < 0) <;> cases decide (x.fb≤y.fb) <;> rfl
theorem Ri {u:Nat} (hu:1099511627776≤u) {l:List Kid} (hl:l.length≤1048576):yC u l=some (pV l):=by
 unfold yC pV
 rw [KJ u l () u (by omega) (by omega),mP (yV l) (xs:=l) (b:=true) rfl 0 (fun x i k _ hx=>?_) l 0 (Nat.le_refl _) rfl,Bool.and_true]
 have hi:i < l.length:=(List.getElem?_eq_some_iff.1 hx).1
 unfold CY dg xy yV
 simp only [bG,lM,Option.bind_some]
 by_cases h0:i=0
 ·subst h0
  have e:decide (((0:Nat):Int) > 0)=false:=by simp
  simp only [e,cond_false,↓reduceIte,Bool.and_true]
  cases am x.fb 0 6 <;> cases bF x.bw <;> cases bF x.bL <;> cases bF x.c8 <;> cases decide (x.qM < 0) <;> rfl
 ·have e:decide ((i:Int) > 0)=true:=by simp; omega
  obtain ⟨y,h1,h2⟩:=U1 hi h0 (by omega)
  simp only [e,cond_true,h0,h1,h2,↓reduceIte,Option.bind_some]
  cases am x.fb 0 6 <;> cases bF x.bw <;> cases bF x.bL <;> cases bF x.c8 <;> cases decide (x.qM < 0) <;> cases decide (x.fb≤y.fb) <;> rfl
theorem Rj {α β ρ:Type} {fin:List β→Option ρ} {body:α→Nat→List β→(List β→Option ρ)→Option ρ} (f:α→Bool) (g:α→β) {xs:List α} (hb:∀ x i s k,xs[i]?=some x→i < xs.length→s.length≤i→body x i s k=bif f x then k (s++[g x]) else k s) :
  ∀ (l:List α) (i:Nat) (s:List β),l=xs.drop i→s.length≤i→bt fin body l i s=fin (s++(l.filter f).map g):=by
 intro l
 induction l with
 | nil=>intro i s _ _; simp [bt]
 | cons x l ih =>
  intro i s h hs
  have hx:xs[i]?=some x:=by
   have:=congrArg List.head? h
   simpa [List.head?_drop] using this.symm
  have hl:l=xs.drop (i+1):=by
   have:=congrArg List.tail h
   simpa [List.tail_drop] using this
  have hi:i < xs.length:=(List.getElem?_eq_some_iff.1 hx).1
  simp only [bt]
  rw [hb x i s _ hx hi hs]
  cases hf:f x with
  | true=>rw [cond_true,ih (i+1) _ hl (by simp; omega)]; simp [hf]
  | false=>rw [cond_false,ih (i+1) _ hl (by omega)]; simp [hf]
theorem nR (l:List Kid) (id:Int):(yg l id=-1∧∀ x∈l,x.fb≠id)∨∃ (j:Nat) (x:Kid),yg l id=(j:Int)∧l[j]?=some x∧x.fb=id:=by
 rcases yf (fun (x:Kid)=>x.fb == id) l 0 with ⟨h1,h2⟩ | ⟨j,x,h1,h2,h3⟩
 ·exact .inl ⟨h1,fun x hx=>by simpa using h2 x hx⟩
 ·exact .inr ⟨j,x,by unfold yg; rw [h1]; simp,h2,by simpa using h3⟩
def jm (l:List Kid) (id have_:Int):Int:=match ci l (yg l id) with
 | some x=>if bF have_ && bF x.bw && bF x.c8 then Aj .i64 (fx .i64 x.bw have_) x.c8 else 0
 | none=>0
theorem Fx {u:Nat} (hu:1099511627776≤u) {l:List Kid} (hl:l.length≤1048577) (id s:Int):uS u l id s=some (jm l id s):=by
 unfold uS oA jm
 simp only [Cy hu hl,jU,Option.bind_some]
 rcases nR l id with ⟨h1,_⟩ | ⟨j,x,h1,h2,_⟩
 ·rw [h1]; rfl
 ·have e:decide ((j:Int) < 0)=false:=by simp
  simp only [h1,e,cond_false,br,h2,Option.bind_some]
  cases bF s <;> cases bF x.bw <;> cases bF x.c8 <;> rfl
theorem Fy {u:Nat} (hu:1099511627776≤u) {l:List Kid} (hl:l.length≤1048577) (id s:Int):ri u l id s=some (jm l id s):=by
 unfold ri oL jm
 simp only [Cz hu hl,lM,Option.bind_some]
 rcases nR l id with ⟨h1,_⟩ | ⟨j,x,h1,h2,_⟩
 ·rw [h1]; rfl
 ·have e:decide ((j:Int) < 0)=false:=by simp
  simp only [h1,e,cond_false,br,h2,Option.bind_some]
  cases bF s <;> cases bF x.bw <;> cases bF x.c8 <;> rfl
def mQ (l:List Kid) (id s:Int):List Kid:=match ci l (yg l id) with
 | some x=>if bF s && bF x.c8 then l.set (yg l id).toNat ⟨x.fb,x.bw,x.bL,x.qM,sV .i64 x.c8 s⟩ else l
 | none=>l
theorem JK {l:List Kid} (hl:l.length≤1048577):dW (decide (((([]:List Kid)).length+l.length)*40≤140737488355328))=some ():=bA (by simp; omega)
theorem w6 (u:Nat) {l:List Kid} (hl:l.length≤1048577):cG u l=some l:=by
 unfold cG
 rw [JK hl]; rfl
theorem Dv {u:Nat} (hu:1099511627776≤u) {l:List Kid} (hl:l.length≤1048577) (id s:Int):qe u l id s=some (mQ l id s):=by
 unfold qe oB mQ
 simp only [JK hl,Cy hu hl,jU,Option.bind_some,List.nil_append]
 rcases nR l id with ⟨h1,_⟩ | ⟨j,x,h1,h2,_⟩
 ·rw [h1]; rfl
 ·have e:decide ((j:Int) < 0)=false:=by simp
  simp only [h1,e,cond_false,br,h2,Option.bind_some]
  cases bF s <;> cases bF x.c8 <;> rfl
theorem Dw {u:Nat} (hu:1099511627776≤u) {l:List Kid} (hl:l.length≤1048577) (id s:Int):nV u l id s=some (mQ l id s):=by
 unfold nV oM sf mQ
 simp only [w6 u hl,Cz hu hl,lM,Option.bind_some]
 rcases nR l id with ⟨h1,_⟩ | ⟨j,x,h1,h2,_⟩
 ·rw [h1]; rfl
 ·have e:decide ((j:Int)≥0)=true:=by simp
  simp only [h1,e,cond_true,br,h2,Option.bind_some]
  cases bF s <;> cases bF x.c8 <;> rfl
theorem JL (l:List Kid) (id s:Int):(mQ l id s).length=l.length:=by
 unfold mQ
 split
 ·split <;> simp
 ·rfl
def w7 (l:List Kid) (id:Int):Nat:=if dD (fun (x:Kid)=>decide (x.fb > id)) l 0 < 0 then l.length else (dD (fun (x:Kid)=>decide (x.fb > id)) l 0).toNat
def n8 (l:List Kid) (id want done:Int):List Kid :=
 if am id 0 6 && bF want && bF done then match ci l (yg l id) with
  | some x=>l.set (yg l id).toNat ⟨x.fb,want,sV .i64 x.bL done,0,x.c8⟩
  | none=>l.take (w7 l id)++[⟨id,want,done,0,0⟩]++l.drop (w7 l id)
 else l
theorem LU (l:List Kid) (id:Int):w7 l id≤l.length:=by
 unfold w7
 rcases yf (fun (x:Kid)=>decide (x.fb > id)) l 0 with ⟨h1,_⟩ | ⟨j,x,h1,h2,_⟩
 ·rw [h1]; simp
 ·have:=(List.getElem?_eq_some_iff.1 h2).1
  rw [h1]; split <;> omega
theorem Ot {u:Nat} {l:List Kid} (hl:l.length≤1048576) (id w d:Int):∀ (ys:List Kid) (f i:Nat),ys=l.drop i→i≤l.length→ys.length < f →
  lA u f id w d l (i:Int)=Aa u id w d l (if dD (fun (x:Kid)=>decide (x.fb > id)) ys i < 0 then (l.length:Int) else dD (fun (x:Kid)=>decide (x.fb > id)) ys i):=by
 intro ys
 induction ys with
 | nil =>
  intro f i h hi hf
  obtain ⟨f,rfl⟩:∃ j,f=j+1:=⟨f - 1,by omega⟩
  have h1:i=l.length:=by
   have:=congrArg List.length h
   simp at this
   omega
  subst h1
  unfold lA vH
  simp only [List.nil_append,Int.lt_irrefl,decide_false,cond_false,dD]
  rfl
 | cons y ys ih =>
  intro f i h hi hf
  obtain ⟨f,rfl⟩:∃ j,f=j+1:=⟨f - 1,by omega⟩
  have hx:l[i]?=some y:=by
   have:=congrArg List.head? h
   simpa [List.head?_drop] using this.symm
  have hy:ys=l.drop (i+1):=by
   have:=congrArg List.tail h
   simpa [List.tail_drop] using this
  have hlt:i < l.length:=(List.getElem?_eq_some_iff.1 hx).1
  have e:decide ((i:Int) < (l.length:Int))=true:=by simp; omega
  unfold lA vH
  simp only [List.nil_append,e,cond_true,br,hx,Option.bind_some,dD]
  by_cases hc:y.fb≤id
  ·have hc2:¬ (y.fb > id):=by omega
   simp only [hc,hc2,decide_true,decide_false,cond_true,Bool.false_eq_true,↓reduceIte]
   rw [jw (by omega)]
   simp only [List.length_cons] at hf
   exact ih f (i+1) hy (by omega) (by omega)
  ·have hc2:y.fb > id:=by omega
   have:¬ ((i:Int) < 0):=by omega
   simp only [hc,hc2,decide_true,decide_false,cond_false,this,↓reduceIte]
theorem TU {u:Nat} (hu:1099511627776≤u) {l:List Kid} (hl:l.length≤1048576) (id w d:Int):CP u l id w d=some (n8 l id w d):=by
 unfold CP vI n8
 simp only [JK (show l.length≤1048577 by omega),bU,jU,Cy hu (show l.length≤1048577 by omega),Option.bind_some,List.nil_append]
 cases h1:am id 0 6 with
 | false=>rfl
 | true=>cases h2:bF w with
  | false=>rfl
  | true=>cases h3:bF d with
   | false=>rfl
   | true =>
    simp only [Bool.not_true,cond_false,Bool.and_self,↓reduceIte]
    rcases nR l id with ⟨h4,_⟩ | ⟨j,x,h4,h5,_⟩
    ·have e:ci l (-1)=none:=by simp [ci]
     rw [h4,e,show decide ((-1:Int) < 0)=true from rfl,cond_true,show ((0:Int))=((0:Nat):Int) from rfl,Ot hl id w d l u 0 rfl (by omega) (by omega)]
     have hp:=LU l id
     have e2:(if dD (fun (x:Kid)=>decide (x.fb > id)) l 0 < 0 then (l.length:Int) else dD (fun (x:Kid)=>decide (x.fb > id)) l 0)=((w7 l id:Nat):Int):=by
      unfold w7; split <;> omega
     rw [e2]
     generalize w7 l id=q at hp
     unfold Aa
     simp only [List.nil_append]
     have c1:=eK (a:=0) (b:=q) (n:=l.length) (by omega) hp
     have c2:=eK (a:=q) (b:=l.length) (n:=l.length) hp (by omega)
     rw [show ((0:Nat):Int)=0 from rfl] at c1
     rw [c1,c2]
     simp only [Option.bind_some]
     rw [bA (by simp; omega),bA (by simp; omega),bA (by simp; omega)]
     simp
    ·have e:decide ((j:Int) < 0)=false:=by simp
     simp only [h4,e,cond_false,br,h5,Option.bind_some]
theorem TV {u:Nat} (hu:1099511627776≤u) {l:List Kid} (hl:l.length≤1048576) (id w d:Int):C3 u l id w d=some (n8 l id w d):=by
 unfold C3 wh xy n8
 simp only [w6 u (show l.length≤1048577 by omega),bG,lM,Cz hu (show l.length≤1048577 by omega),Option.bind_some]
 cases h1:am id 0 6 with
 | false=>rfl
 | true=>cases h2:bF w with
  | false=>rfl
  | true=>cases h3:bF d with
   | false=>rfl
   | true =>
    simp only [Bool.not_true,cond_false,Bool.and_self,↓reduceIte]
    have hd:sV .i64 0 d=d:=by
     have:=b9 h3
     obtain ⟨n,rfl⟩:∃ n:Nat,d=n:=⟨d.toNat,by omega⟩
     have:=FY (a:=0) (b:=n) (by omega) (by omega)
     simpa using this
    rcases nR l id with ⟨h4,_⟩ | ⟨j,x,h4,h5,_⟩
    ·have e:ci l (-1)=none:=by simp [ci]
     have hx:ch u l id=some (dD (fun (x:Kid)=>decide (x.fb > id)) l 0):=by
      unfold ch
      rw [k6 u l id () u (by omega) (by omega),lP (fun (x:Kid)=>decide (x.fb > id)) rfl (fun x i k _=>rfl)]
     have hp:=LU l id
     have key:∀ q:Nat,q≤l.length→wg u w d id l (q:Int)=some (l.take q++[⟨id,w,d,0,0⟩]++l.drop q):=by
      intro q hq
      unfold wg eF we
      have c:(decide (0≤(q:Int)) && decide ((q:Int)≤l.length) && decide (([(Kid.mk id 0 0 0 0)]).length=1) && decide ((l.length+([(Kid.mk id 0 0 0 0)]).length)*40≤140737488355328))=true:=by simp; omega
      rw [c]
      simp only [cond_true,Option.bind_some,Int.toNat_natCast,br]
      have g:(List.take q l++[Kid.mk id 0 0 0 0]++List.drop q l)[q]?=some (Kid.mk id 0 0 0 0):=by
       rw [List.append_assoc,List.getElem?_append_right (by simp; omega)]
       simp [hq]
      rw [g]
      simp only [Option.bind_some,hd]
      have s:∀ a b:Kid,(List.take q l++[a]++List.drop q l).set q b=List.take q l++[b]++List.drop q l:=by
       intro a b
       rw [List.append_assoc,List.set_append_right _ _ (by simp; omega)]
       simp [hq]
      rw [s,s,s]
     rw [h4,e,hx]
     simp only [show decide ((-1:Int) < 0)=true from rfl,cond_true,Option.bind_some]
     unfold w7 at hp ⊢
     by_cases hn:dD (fun (x:Kid)=>decide (x.fb > id)) l 0 < 0
     ·simp only [hn,decide_true,cond_true,↓reduceIte]
      exact key _ (by omega)
     ·simp only [hn,↓reduceIte] at hp
      simp only [hn,decide_false,cond_false,↓reduceIte]
      rw [← key _ hp]
      congr 1
      omega
    ·have e:decide ((j:Int) < 0)=false:=by simp
     unfold we
     simp only [h4,e,cond_false,br,h5,Option.bind_some,List.set_set]
theorem Rk (l:List Kid) (id w d:Int):(n8 l id w d).length≤l.length+1:=by
 unfold n8
 split
 ·split
  ·simp
  ·have:=LU l id
   simp; omega
 ·omega
theorem Tc {α:Type} {fin:Unit→Option Bool} {body:Nat→Unit→(Unit→Option Bool)→Option Bool} (f:α→Nat→Bool) {xs:List α} {b:Bool} (hf:fin ()=some b) (hb:∀ x i k,xs[i]?=some x→body i () k=bif f x i then k () else some false) :
  ∀ (l:List α) (i:Nat),l=xs.drop i→qz fin body l.length i ()=some (iQ f l i && b):=by
 intro l
 induction l with
 | nil=>intro i _; simp [qz,iQ,hf]
 | cons x l ih =>
  intro i h
  have hx:xs[i]?=some x:=by
   have:=congrArg List.head? h
   simpa [List.head?_drop] using this.symm
  have hl:l=xs.drop (i+1):=by
   have:=congrArg List.tail h
   simpa [List.tail_drop] using this
  simp only [List.length_cons,qz,iQ]
  rw [hb x i _ hx,ih (i+1) hl]
  cases f x i <;> simp
def qw (n:Nat):Int:=if n≤40 then ((2 ^ n - 1:Nat):Int) else 0
theorem Dx (u:Nat) {m:af}:qk u m=some (qw m.aD.length):=by
 unfold qk qw
 by_cases h:m.aD.length≤40
 ·rw [Oq u h]; simp [h]
 ·have h1:am (m.aD.length:Int) 0 40=false:=by
   unfold am; simp; omega
  unfold rV
  rw [bG,h1]
  simp [h]
theorem Dy (u:Nat) {m:af}:p9 u m=some (qw m.aD.length):=by
 unfold p9 qw
 by_cases h:m.aD.length≤40
 ·rw [Oi u h]; simp [h]
 ·have h1:am (m.aD.length:Int) 0 40=false:=by
   unfold am; simp; omega
  unfold rH
  rw [bU,h1]
  simp [h]
theorem V1 (n:Nat):bF (qw n)=true:=by
 unfold qw bF am
 split
 ·rename_i h
  have h2:(2:Nat) ^ n≤2 ^ 40:=Nat.pow_le_pow_right (by omega) h
  simp; omega
 ·rfl
def sC (a b:Int):Int:=if bF a && bF b then Aj .i64 a b else 0
end Go.Tm.Pu
