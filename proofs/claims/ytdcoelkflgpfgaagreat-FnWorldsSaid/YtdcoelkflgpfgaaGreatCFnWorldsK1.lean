/- The translated functions do what the pure ones say. -/
import Derived.Test.YtdcoelkflgpfgaaGreatCFnWorldsD
import Derived.Test.YtdcoelkflgpfgaaGreatProg
set_option maxRecDepth 100000
set_option maxHeartbeats 20000000
set_option linter.unusedVariables false
set_option linter.unusedSimpArgs false
open Int renaming toNat->sY
open List renaming replicate->zQG
open Nat renaming beq->zWg,ble->zVy
open Go.IntKind renaming wrap->ld
open Go.Proofs.Tryz renaming prog->aaa
open Go.Proofs.Tryz (f8 f64 f78 f99 f81 f115 f304 f232 f62 f207 f52 f98 f48 f70 f171 f197 f90 f49 f95)
open Option renaming some->ac
open Option renaming none->cl
open Bool renaming true->gi
open Bool renaming false->go
namespace Go.Tm
open Go.Proofs
def qi0(b k:Nat):List (Nat×fi)->Nat->fi
 | [],_=>.any
 | (m,r)::l,t=>bif zWg (Nat.land (Nat.shiftRight m (bif zVy b t then Nat.add (Nat.sub t b) k else bif zVy k t then 999 else t)) 1) 1 then r else qi0 b k l t
class Cur (F : Type) (β : outParam Type) : Type 1 where
  T : Type
  all : F -> T -> (Option β -> Sx -> Prop) -> Prop
  ex : F -> T -> (Option β -> Sx -> Prop) -> Prop
  mono : ∀ {G S p q}, ex G S p -> (∀ {g s}, p g s -> q g s) -> ex G S q
  law : ∀ {G S p q} {X : Prop}, all G S p -> ex G S q -> (∀ {g s}, p g s -> q g s -> X) -> X
instance {β : Type} : Cur (Option β) β := ⟨Sx, λg s p => p g s, λg s p => p g s, λa k => k a, λa e k => k a e⟩
instance {α F β : Type} [c : Cur F β] : Cur (α -> F) β := ⟨α -> c.T, λG S p => ∀ v, c.all (G v) (S v) p, λG S p => ∃ v, c.ex (G v) (S v) p, λ⟨v, e⟩ k => ⟨v, c.mono e k⟩, λa ⟨v, e⟩ k => c.law (a v) e k⟩
abbrev T.bb(l:gs):T:=.sl 1 (l.map B')
section
variable {P:Program} {n:Nat} {ls:IO} {Q Q1:Exit->St->Prop} {N N1 N2 K:St->Prop} {st:St} {x y:Code} {ops:Array Oper} {l:W2} {p:Nat->Bool} {ρ:Nat->fi} {β F:Type} {r:β} [c:Cur F β]
def qjE : A -> A -> List (Nat × Nat) -> List (Nat × Nat)
  | .own r, .own q, l => bif zWg r q then l else (r, q) :: l
  | _, _, l => l
def mrL : Os -> Os -> List (Nat × Nat) -> List (Nat × Nat)
  | a :: l, b :: m, o => qjE a b (mrL l m o)
  | _, _, o => o
def mrT(a b : A)(o : List (Nat × Nat)) : List (Nat × Nat) := match a, b with
  | .agg l, .agg m => mrL l m o
  | a, b => qjE a b o
def mrO(st : St) : List (Nat × Os) -> List (Nat × Nat)
  | [] => []
  | (s, l) :: r => mrL l ((st.ob s).getD []) (mrO st r)
def mrs(st : St)(o : List (Nat × Os)) : List (Nat × A) -> List (Nat × Nat)
  | [] => mrO st o
  | (k, a) :: r => mrT a (st.tm k) (mrs st o r)
theorem lp{s : Sx}(hok : s.ok n ls [] (mrs st s.ob s.tm) = gi := by kernel_rfl)(ht : s.tm.map (λq => st.tm q.1) = s.tm.map (λq => q.2.ren (Gt []) (Gt (mrs st s.ob s.tm))) := by kernel_rfl)
    (ho : s.ob.map (λq => st.ob (Gt [] q.1)) = s.ob.map (λq => ac (xh (Gt []) (Gt (mrs st s.ob s.tm)) q.2)) := by kernel_rfl) (hr : s.rw.map (λq => st.rw (Gt (mrs st s.ob s.tm) q.1)) = s.rw.map (λq => ac q.2) := by kernel_rfl) : Le n ls st s.st := Le.of hok ht ho hr
theorem aU(r : β)(G : F)(S : c.T)(J : c.all G S λg s => g = ac r -> Wp P n ls y Q s.st)(h : Wp P n ls x (Bo (λt => c.ex G S λg s => g = ac r /\ Le n ls t s.st) Q) st) : Wp P n ls (.seq x y) Q st :=
  qjz _ (λs e => c.law J e λk ⟨h, e⟩ => Wp.le e (k h)) h
theorem mq(r : β)(G : Option β)(S : Sx)(J : G = ac r -> Wp P n ls y Q S.st)(h : Wp P n ls x (Bo (λt => G = ac r /\ Le n ls t S.st) Q) st) : Wp P n ls (.seq x y) Q st :=
  qjz _ (λs ⟨h, e⟩ => Wp.le e (J h)) h
theorem b9(r : β)(G : Nat -> F)(S : c.T)(hs : ∀ k, c.all (G (k + 1)) S λg s => g = ac r -> Wp P n ls x (Bo (λt => c.ex (G k) S λg s => g = ac r /\ Le n ls t s.st) Q) s.st){k : Nat}
    (h : c.ex (G k) S λg s => g = ac r /\ Le n ls st s.st) (h0 : c.all (G 0) S λg _ => ¬ g = ac r := by (repeat refine λh=>?_); exact nomatch h) : Wp P n ls (.loop x) Q st :=
  Wp.L (λk t => c.ex (G k) S λg s => g = ac r /\ Le n ls t s.st) (λt e => c.law h0 e λk ⟨h, _⟩ => k h) (λk t e => c.law (hs k) e λk ⟨h, e⟩ => Wp.le e (k h)) h
theorem HU{G : F}{S : c.T}{r : β}{t : St}(e : Le n ls st t)(h : c.ex G S λg s => g = ac r /\ Le n ls t s.st) : c.ex G S λg s => g = ac r /\ Le n ls st s.st := c.mono h λ⟨h, l⟩ => ⟨h, Le.trans e l⟩
abbrev obC(st : St)(s : Nat) : Os := (st.ob s).getD []
theorem JK(s j r e sz : Nat)(hs : st.ob s = ac (obC st s) := by kernel_rfl)(hj : (obC st s)[j]? = ac .nil := by kernel_rfl)(hr : st.rw r = cl := by kernel_rfl) : Le n ls st { st with ob := gB st.ob s (ac ((obC st s).set j (.own r))), rw := gB st.rw r (ac (.live e sz [])) } := qeH s j r e sz _ hs hj hr
theorem ce{p:Prop}(k:p:=by cases h;exact Wp.ret Zj):p:=k
theorem cx{p:Prop}(k:p:=by cases h;exact ag (Wp.ret Zj)):p:=k
theorem qkg{i:Nat}(h:N st):Wp P n ls (.exit i) (Bo N1 (Bo N2 (qeF i (Bo N Q)))) st:=Wp.exit<|CC<|CC<|Xg<|cq h
theorem dK{i:Nat}(h:N (St.or (qv P ρ ops l st)))(hr:(qv P ρ ops l st).isSome=true:=by kernel_rfl):ab P p ρ ops l st (qeF i (Bo N Q) .normal):=ab.all hr h
theorem bm{id:Nat}(s:IO)(b k:Nat)(m:List (Nat×fi))(h:ab P (SW s) (qi0 b k m) ops ops.toList st (Q .normal))(hm:P.follows .mixedOrders=true:=by kernel_rfl)(hok:U6 (SW s) (qi0 b k m) n ops=true:=by kernel_rfl):Wp P n ls (.region id ops gi) Q st:=qcw _ _ hm hok h
theorem rx{p:Prop}(k:p:=by (repeat apply Exists.intro);exact ⟨h,lp⟩):p:=k
theorem ra{p:Prop}(k:p:=by refine ae ?_;(repeat apply Exists.intro);exact ⟨h,lp⟩):p:=k
theorem rb{p:Prop}(k:p:=by refine ab.all kr (eZ (cq ?_));(repeat apply Exists.intro);exact ⟨h,lp⟩):p:=k
theorem re{p:Prop}(k:p:=by refine Wp.exit (CC (CC (Xg (cq ?_))));(repeat apply Exists.intro);exact ⟨h,lp⟩):p:=k
end
abbrev ny(x:gs):RZ:=.live 3 1 (x.map C')
abbrev cH(x:gs):RZ:=.live 5 1 (x.map B')
abbrev D6(x:List aX):RZ:=.live 87 1 (x.map b6)
abbrev qw(x:List dR):RZ:=.live 198 2 (x.map bR)
abbrev lS(x:List aD):RZ:=.live 82 12 (x.map aF)
abbrev oF(x:List ar):RZ:=.live 61 6 (x.map aC)
abbrev D7(x:List bV):RZ:=.live 154 5 (x.map bA)
abbrev kE(x:List ak):RZ:=.live 108 3 (x.map ay)
abbrev qx(x:List eJ):RZ:=.live 95 3 (x.map dO)
abbrev ru(x:List dv):RZ:=.live 139 6 (x.map br)
abbrev Yq(x:List du):RZ:=.live 206 6 (x.map eU)
abbrev qu(x:gs):V:=.one (.ow 5 1 (x.map B'))
abbrev qf5(x:List aX):V:=.one (.ow 87 1 (x.map b6))
abbrev qa6(x:List dR):V:=.one (.ow 198 2 (x.map bR))
abbrev IM(x:gs):V:=.one (.ow 3 1 (x.map C'))
abbrev qf6(x:List ak):V:=.one (.ow 108 3 (x.map ay))
abbrev qa7(x:List bV):V:=.one (.ow 154 5 (x.map bA))
abbrev OB(x:gs):V:=.one (.t (.sl 1 (x.map C')))
abbrev OC(x:List aX):V:=.one (.t (.sl 1 (x.map b6)))
abbrev Sg(x:List dR):V:=.one (.t (.sl 2 (x.map bR)))
abbrev OD(x:List ak):V:=.one (.t (.sl 3 (x.map ay)))
abbrev FR(x:List bV):V:=.one (.t (.sl 5 (x.map bA)))
abbrev qdX(x:List dv):V:=.one (.t (.sl 6 (x.map br)))
abbrev EU(x:List aX):A:=.ext go (.sl 1 (x.map b6))
abbrev OE(x:List dR):A:=.ext go (.sl 2 (x.map bR))
abbrev o8(x:List ak):A:=.ext go (.sl 3 (x.map ay))
abbrev qf7(x:List dv):A:=.ext go (.sl 6 (x.map br))
abbrev AW(x:gs):A:=.ext go (.sl 1 (x.map C'))
abbrev AX(x:List aD):A:=.ext go (.sl 12 (x.map aF))
abbrev xW(x:List ar):A:=.ext go (.sl 6 (x.map aC))
abbrev vB(x:List eJ):A:=.ext go (.sl 3 (x.map dO))
abbrev Si(x:List bV):A:=.ext go (.sl 5 (x.map bA))
abbrev bF(x:gs):A:=.t (.sl 1 (x.map C'))
abbrev iL(x:List aX):A:=.t (.sl 1 (x.map b6))
abbrev rv(x:List dR):A:=.t (.sl 2 (x.map bR))
abbrev CF(x:List aD):A:=.t (.sl 12 (x.map aF))
abbrev IN(x:List ar):A:=.t (.sl 6 (x.map aC))
abbrev Vr(x:List eJ):A:=.t (.sl 3 (x.map dO))
abbrev ry(x:List bV):A:=.t (.sl 5 (x.map bA))
abbrev JL(x:List dv):A:=.t (.sl 6 (x.map br))
abbrev CG(x:List ak):A:=.t (.sl 3 (x.map ay))
abbrev uq:Os:=[.i 0,.i 0,.i 0,.nil]
abbrev Vs:Os:=[.b go,.i 0,.i 0,.i 0,.i 0,.i 0,.nil,.i 0,.nil,.i 0,.nil,.i 0]
abbrev JM:Os:=[.i 0,.nil]
abbrev lJ:Os:=[.nil,.nil,.i 0,.i 0,.i 0,.nil]
abbrev li:Os:=[.i 0,.i 0,.i 0,.i 0,.nil,.nil,.nil,.nil,.nil,.nil,.nil,.i 0]
abbrev qf8:Os:=[.i 0,.i 0,.i 0,.i 0]
abbrev FS:Os:=[.i 0,.i 0,.i 0,.i 0,.i 0,.nil,.i 0,.i 0,.i 0,.nil]
abbrev LD:Os:=[.i 0,.i 0,.i 0,.i 0,.i 0,.nil]
abbrev qf9:Os:=[.b go,.i 0,.i 0,.i 0,.i 0,.i 0,.nil,.i 0,.nil,.i 0,.nil,.i 0,.nil,.nil,.i 0,.i 0,.i 0,.nil,.nil]
abbrev Hh:Os:=[.b go,.i 0,.i 0,.i 0,.i 0,.i 0,.nil,.i 0,.nil,.i 0,.nil,.i 0,.nil]
abbrev eX:IO:=[0,0,0]
abbrev IP:IO:=[0,0,0,0,0,0,198,0,5,0,154,0]
abbrev EV:IO:=[0,0,0,198]
abbrev oG:IO:=[5,5,0,0,0,139]
abbrev Vt:IO:=[0,0,0,0,3,5,87,82,61,108,95,0]
abbrev qa8:IO:=[0,0,5,0,0,0]
abbrev Vu:IO:=[0,0,0,0,0,198,0,0,0,5]
abbrev xX:IO:=[0,0,0,0,0,0,0,82,61,108,95,0]
abbrev Yr:IO:=[0,0,0,0,0,0,198,0,5,0,154,0,108]
abbrev qga:IO:=[0,0,0,0,0,0,0,82,0,108,95,0]
theorem qa9{a r}(h:Ny a=ac r):aB aaa 8 [.one (.s a)] (V.b r) []:=by
 refine df f8 go ?_;exact ag<|aA<|av 1 5 B' a<|ae<|ce
theorem B9{a r}(h:uL a=ac r):aB aaa 64 [.one (.s a)] (.ptr (cw eX (bq r))) []:=by
 refine df f64 go ?_;refine ag<|aA<|av 1 5 B' a<|ae<|aU r B2 (λa e=>⟨[(0,.s a),(3,.i e)],[],[]⟩) (λa e h=>cx)<|ag<|cd<|b9 r lK (λa c d=>⟨[(0,.s a),(3,.i c),(4,.i d)],[],[]⟩) (λpH a c d h=>?_) rx
 exact ap<|aU r (xq (lK pH)) (λa c d f=>⟨[(0,.s a),(3,.i c),(4,.i d),(15,.b f)],[],[]⟩) (λa c d f h=>aq h (λh=>aM<|ap<|cd<|cz [] []<|aV 4 5 1 B' h λg h _=>dK<|cz [] []<|ra) λh=>re)<|cz [] []<|av 2 5 B' a<|ai 2 12 h (λh=>ra) λh=>ra
theorem vC{a r}(h:nz a=ac r):aB aaa 154 [.ptr (cw eX (bq a))] (V.i r.1) [cw eX (bq r.2)]:=by
 refine df Tryz.f154 go ?_;exact ag<|ag<|ap<|bm [] 13 1 [(463,.obj 900),(7728,.frz)]<|ae<|aU r uM (λb a c=>⟨[(2,.i 0),(3,.i b)],[(900,[.s a.fB,.i c,.i (aS .i64 (jD .i64 a.fH 6364136223846793005) 1442695040888963407)])],[]⟩) (λb a c h=>cx)<|ap<|bm [] 25 1 [(239,.obj 900),(784,.frz)]<|av 8 5 B' a.fB<|ae<|aq h (λh=>ap<|bm [] 35 4 [(258328,.frz),(3809,.obj 900)]<|aV 9 5 1 B' h λd h _=>ae<|cz [] []<|ra) λh=>aM<|rx
theorem aO{d a r}(h:bd d a=ac r):aB aaa 78 [.ptr (cw eX (bq d)),V.i a] (V.i r.1) [cw eX (bq r.2)]:=by
 refine df f78 go ?_;refine ag<|ap<|ag<|aq h (λh=>cx) λh=>aM<|ap<|ag<|aq h (λh=>?_) (λh=>?_)
 ·refine aA<|cS go 1 13 [.obj 900 0] h vC λe h=>am 1 kr ?_
  obtain ⟨_,b,h⟩:=aae h;exact iT .rem (.int .i64 e.1) (.int .i64 a) (.int .i64 (rU .i64 e.1 a)) rfl kr kr kr kr (KT _ _ _ _ (by simpa using ba b))<|ae<|ce
 refine aM<|jK go 1 17 [.obj 900 0] h vC λf h=>jK go 1 19 [.obj 900 0] h vC λg h=>jK go 1 21 [.obj 900 0] h vC λj h=>aA<|am 8 kr ?_
 obtain ⟨_,c,h⟩:=aae h;exact iT .rem (.int .i64 (aS .i64 (aS .i64 (jD .i64 f.1 65536) (jD .i64 g.1 256)) j.1)) (.int .i64 a) (.int .i64 (rU .i64 (aS .i64 (aS .i64 (jD .i64 f.1 65536) (jD .i64 g.1 256)) j.1) a)) rfl kr kr kr kr (KT _ _ _ _ (by simpa using ba c))<|ae<|ce
theorem gW{a c r}(h:ir a c=ac r):aB aaa 99 [.ptr (cw eX (bq a)),V.i c] (V.b r.1) [cw eX (bq r.2)]:=by
 refine df f99 go ?_;exact ag<|bh go 2 7 [.obj 900 0] h aO λd h=>ce
theorem IQ{n r}(h:vP n=ac r):aB aaa 187 [.ptr (cw eX (bq n))] (V.w [3] (jF r.1)) [cw eX (bq r.2)]:=by
 refine df Tryz.f187 gi ?_;refine ag<|ag<|aU r yj (λa b c d=>⟨[(2,.obj 2 0),(3,.obj 3 0)],[(2,[.nil]),(3,[.own 197120]),(900,[.s b,.i c,.i d])],[(197120,ny a)]⟩) (λa b c d h=>cx)<|ag<|cd<|b9 r iC (λe f o p g=>⟨[(0,.obj 900 0),(2,.obj 2 0),(3,.obj 3 0),(4,.i e)],[(2,[.nil]),(3,[.own 197120]),(900,[.s o,.i p,.i g])],[(197120,ny f)]⟩) (λmW e f o p g h=>?_) rx
 exact ap<|bh go 2 10 [.obj 900 0] h aO λq h=>aq h (λh=>aM<|ap<|cd<|ag<|aU r (s5 (iC mW)) (λe j f k l m=>⟨[(0,.obj 900 0),(2,.obj 2 0),(3,.obj 3 0),(4,.i e),(5,.i j)],[(2,[.nil]),(3,[.own 197120]),(900,[.s k,.i l,.i m])],[(197120,ny f)]⟩) (λe j f k l m h=>cz [] []<|bg 4 26 3 1 197120 C' h λh=>dK<|cz [] []<|ra)<|bh go 1 18 [.obj 900 0] h gW λt h=>aq h (λh=>cz [] []<|ah go 2 21 [.obj 900 0] h aO λv h=>ra) λh=>aM<|rx) λh=>re
theorem dX{c b r}(h:fo c b=ac r):Y4 aaa 191 [.ptr (cw eX (bq c))] [OB b] (V.i r.1) [cw eX (bq r.2)]:=by
 refine obx Tryz.f191 go ?_;refine ag<|aA<|am 3 kr<|cC (e:=3) C' b go 1 rfl rfl rfl kr kr kr kr<|ah go 0 9 [.obj 900 0] h aO (λd h=>?_)
 obtain ⟨f,a,h⟩:=aae h;exact dU (e:=3) (kk:=.i64) (sz:=1) C' b d.1 go rfl kr kr kr kr kr kr a<|ae<|ce
theorem pE{g j r}(h:js g j=ac r):aB aaa 251 [.ptr (cw eX (bq g)),V.i j] (qu r.1) [cw eX (bq r.2)]:=by
 refine df Tryz.f251 gi ?_;refine ag<|ag<|aU r yk (λa b c d=>⟨[(4,.nil),(5,.own 327681)],[(900,[.s b,.i c,.i d])],[(327681,cH a)]⟩) (λa b c d h=>cx)<|bh go 3 11 [.obj 900 0] h aO λo h=>cd<|b9 r iD (λk l m e f=>⟨[(0,.obj 900 0),(4,.nil),(5,.own 327681),(6,.i l)],[(900,[.s m,.i e,.i f])],[(327681,cH k)]⟩) (λuI k l m e f h=>?_) rx
 exact ap<|ag<|aq h (λh=>aM<|ap<|cd<|cz [] []<|gL go 3 19 [.obj 900 0] [.own 1179648] h dX λn h=>bg 2 22 5 1 327681 B' h λh=>dK<|cz [] []<|ra) λh=>re
theorem C7{a r}(h:pJ a=ac r):aB aaa 188 [.ptr (cw eX (bq a))] (qu r.1) [cw eX (bq r.2)]:=by
 refine df Tryz.f188 gi ?_;exact ag<|bh go 1 4 [.obj 900 0] h pE λb h=>ce
theorem C8{x a r}(h:rX x a=ac r):Y4 aaa 169 [.ptr (cw eX (bq x))] [.one (.s a)] (.one (.s r.1)) [cw eX (bq r.2)]:=by
 refine obx Tryz.f169 go ?_;refine ag<|aA<|am 2 kr ?_
 obtain ⟨_,v,h⟩:=aae h;refine eF (y:=.ext go (.bb a)) B' 9 1 5 1 1 458752 (([]:gs)) a rfl rfl rfl rfl kr kr kr kr kr (fM _ _ _) (.inl rfl) kr (of_decide_eq_true (ba v)) kr kr<|ae<|aU r c7 (λg j k l=>⟨[(4,.nil),(5,.s g)],[(900,[.s j,.i k,.i l])],[]⟩) (λg j k l h=>cx)<|bh go 1 11 [.obj 900 0] h aO λD h=>cd<|ag<|aq h (λh=>aA<|av 1 5 B' ((([]:gs))++a)<|ae<|aq h (λh=>cz [] []<|av 3 5 B' ((([]:gs))++a)<|ah go 0 21 [.obj 900 0] h aO λz h=>ah go 1 23 [.obj 900 0] h aO λq h=>bQ 1 5 1 589824 5 B' h λF h n=>iw (e:=5) (sz:=1) (m:=1) B' ((([]:gs))++a) 589824 (sY z.1) 0 (ld .u8 q.1) (.t (.int .u8 (ld .u8 q.1))) [.int .u8 (ld .u8 q.1)] rfl kr kr kr kr kr kr kr kr ((bL n).2) kr kr<|dK<|HU (Le.frz 5 589824 5 1 ((((([]:gs))++a).set (sY z.1) (ld .u8 q.1)).map B') kr kr kr)<|rx) λh=>eO<|eZ<|cq<|HU (Le.frz 5 589824 5 1 (((([]:gs))++a).map B') kr kr kr)<|rx) λh=>ag<|aq h (λh=>?_) (λh=>?_)
 ·refine cz [] []<|av 3 5 B' ((([]:gs))++a)<|ah go 1 33 [.obj 900 0] h aO (λA h=>?_)
  obtain ⟨_,w,h⟩:=aae h;exact eg (e:=5) (ax:=.own 589824) (alo:=cl) (ahi:=(ac (.i A.1))) B' ((([]:gs))++a) 1 0 A.1 rfl kr kr kr kr kr kr kr kr kr kr kr (ba w)<|rb
 refine ag<|aq h (λh=>cz [] []<|gL go 3 40 [.obj 900 0] [.own 2555904] h dX λB h=>bg 2 43 5 1 589824 B' h λh=>dK<|HU (Le.frz 5 2818048 5 1 ((((([]:gs))++a)++(([ld .u8 B.1]:gs))).map B') kr kr kr)<|rx) λh=>ag<|aq h (λh=>?_) (λh=>?_)
 ·refine aA<|av 1 5 B' ((([]:gs))++a)<|ae<|aq h (λh=>?_) (λh=>?_)
  ·refine aA<|av 2 5 B' ((([]:gs))++a)<|ah go 0 52 [.obj 900 0] h aO λo h=>ae<|bm [900] 53 7 [(120128,.frz),(672,.own 9),(8193,.obj 900),(133120,.el 9)]<|bQ 4 5 1 589824 5 B' h λc h d=>fb 0 1 1 589824 0 5 go B' ((bL d).2)<|ah go 1 60 [.obj 900 0] h aO (λb h=>?_)
   obtain ⟨_,p,h⟩:=aae h;exact iT .shl (.int .u8 1) (.int .i64 b.1) (.int .u8 (mm .u8 1 b.1)) rfl kr kr kr kr (D5 _ _ _ _ _ (ba p))<|bQ 1 5 1 589824 5 B' h λC h f=>iw (e:=5) (sz:=1) (m:=1) B' ((([]:gs))++a) 589824 (sY o.1) 0 (Zd .u8 c (mm .u8 1 b.1)) (.t (.int .u8 (Zd .u8 c (mm .u8 1 b.1)))) [.int .u8 (Zd .u8 c (mm .u8 1 b.1))] rfl kr kr kr kr kr kr kr kr ((bL f).2) kr kr<|dK<|HU (Le.frz 5 589824 5 1 ((((([]:gs))++a).set (sY o.1) (Zd .u8 c (mm .u8 1 b.1))).map B') kr kr kr)<|rx
  exact eO<|eZ<|cq<|HU (Le.frz 5 589824 5 1 (((([]:gs))++a).map B') kr kr kr)<|rx
 exact eO<|eZ<|cq<|HU (Le.frz 5 589824 5 1 (((([]:gs))++a).map B') kr kr kr)<|rx
theorem JN{k a r}(h:uN k a=ac r):Y4 aaa 189 [.ptr (cw eX (bq k))] [.one (.s a)] (qu r.1) [cw eX (bq r.2)]:=by
 refine obx Tryz.f189 gi ?_;refine ag<|ap<|bh go 1 7 [.obj 900 0] h aO λm h=>cd<|ag<|aq h (λh=>bh go 1 11 [.obj 900 0] h pE λn h=>ce) λh=>ag<|aq h (λh=>?_) (λh=>?_)
 ·refine aA<|am 2 kr ?_
  obtain ⟨_,c,h⟩:=aae h;exact eF (y:=.ext go (.bb a)) B' 16 1 5 1 1 917504 (([]:gs)) a rfl rfl rfl rfl kr kr kr kr kr (fM _ _ _) (.inl rfl) kr (of_decide_eq_true (ba c)) kr kr<|ae<|ce
 refine ag<|aq h (λh=>?_) (λh=>?_)
 ·refine aA<|am 2 kr<|cC (e:=5) B' a go 1 rfl rfl rfl kr kr kr kr<|ah go 1 23 [.obj 900 0] h aO λb h=>ae<|ap<|bm [] 24 6 [(15266,.frz),(64,.own 24),(1024,.own 28),(16384,.own 32)]<|am 3 kr ?_
  obtain ⟨_,d,h⟩:=aae h;refine zK (e:=5) (alo:=(ac (.i b.1))) (ahi:=cl) go B' a 1 b.1 ((a.length:Int)) rfl kr kr kr kr kr kr kr kr kr kr (ba d) ?_;obtain ⟨_,f,h⟩:=aae h;refine eF (y:=.ext go (.bb ((a.take (sY ((a.length:Int)))).drop (sY b.1)))) B' 28 1 5 1 1 1572864 (([120]:gs)) ((a.take (sY ((a.length:Int)))).drop (sY b.1)) rfl rfl rfl rfl kr kr kr kr kr (fM _ _ _) (.inl rfl) kr (of_decide_eq_true (ba f)) kr kr<|am 2 kr ?_
  obtain ⟨_,g,h⟩:=aae h;refine zK (e:=5) (alo:=cl) (ahi:=(ac (.i b.1))) go B' a 1 0 b.1 rfl kr kr kr kr kr kr kr kr kr kr (ba g) ?_;obtain ⟨_,j,h⟩:=aae h;exact eF (y:=.ext go (.bb ((a.take (sY b.1)).drop (sY 0)))) B' 32 1 5 1 1 1835008 ((([120]:gs))++((a.take (sY ((a.length:Int)))).drop (sY b.1))) ((a.take (sY b.1)).drop (sY 0)) rfl rfl rfl rfl kr kr kr kr kr (fM _ _ _) (.inl rfl) kr (of_decide_eq_true (ba j)) kr kr<|ae<|ce
 exact ag<|aq h (λh=>cx) λh=>eO<|eZ<|cq<|aA<|ah go 1 37 [.obj 900 0] h pE λo h=>gL go 2 40 [.obj 900 0] [.ext go (.bb a)] h C8 λl h=>bg 0 41 5 1 2424832 B' h λh=>ae<|ce
theorem IR{a r}(h:vQ a=ac r):aB aaa 190 [.ptr (cw eX (bq a))] (ei (k8 r.1)) [cw eX (bq r.2)]:=by
 refine df Tryz.f190 go ?_;exact ag<|aA<|ah go 1 4 [.obj 900 0] h aO λb h=>gL go 3 8 [.obj 900 0] [.own 458752] h dX λc h=>ah go 1 10 [.obj 900 0] h aO λd h=>ah go 2 13 [.obj 900 0] h aO λe h=>ae<|ce
theorem bf{a c d r}(h:bK a c d=ac r):aB aaa 81 [V.i a,V.i c,V.i d] (V.b r) []:=by
 refine df f81 go ?_;exact ag<|aA<|ai 4 10 h (λh=>ae<|ce) λh=>ae<|ce
theorem JO{a r}(h:zu a=ac r):aB aaa 111 [ei (k8 a)] (V.b r) []:=by
 refine df Tryz.f111 go ?_;exact ag<|aA<|ah go 2 5 [] h bf λc h=>ai 1 6 h (λh=>ah go 2 9 [] h bf λd h=>ai 2 11 h (λh=>ah go 2 14 [] h bf λe h=>ai 2 16 h (λh=>ah go 2 19 [] h bf λf h=>ae<|ce) λh=>ae<|ce) λh=>ae<|ce) λh=>ae<|ce
theorem vE{a r}(h:pK a=ac r):aB aaa 112 [ei (jF a)] (V.b r) []:=by
 refine df Tryz.f112 go ?_;refine ag<|ap<|aU r zR (λc a=>⟨[(1,.obj 1 0),(2,.b go),(15,.b c)],[(1,[bF a.bl])],[]⟩) (λc a h=>?_) ?_
 ·refine aq h (λh=>cx) λh=>aM<|mq r (Er) ⟨[(2,.b go)],[],[]⟩ (λh=>cx)<|ag<|cd<|b9 r lX (λd a=>⟨[(1,.obj 1 0),(2,.b go),(3,.i d)],[(1,[bF a.bl])],[]⟩) (λwY d a h=>?_) rx
  exact ap<|aA<|av 3 3 C' a.bl<|ae<|aq h (λh=>aM<|ap<|cd<|aA<|aV 3 3 1 C' h λe h _=>ah go 3 30 [] h bf λf h=>ae<|aq h (λh=>cx) λh=>eO<|eZ<|cq<|cz [] []<|ra) λh=>re
 exact cz [] []<|av 2 3 C' a.bl<|ah go 0 7 [] h bf λg h=>ai 2 9 h (λh=>ra) λh=>aV 2 3 1 C' h λj h _=>ra
theorem oH{a c r}(h:nA a c=ac r):aB aaa 113 [V.i a,V.i c] (V.b r) []:=by
 refine df Tryz.f113 go ?_;exact ag<|aA<|ah go 1 6 [] h bf λd h=>ai 1 7 h (λh=>ah go 3 11 [] h bf λe h=>ae<|ce) λh=>ae<|ce
theorem IS{a c r}(h:vR a c=ac r):aB aaa 114 [OC a,V.i c] (V.b r) []:=by
 refine df Tryz.f114 go ?_;refine ag<|aU r CO (λa c=>⟨[(0,iL a),(1,.i c),(4,.b go)],[],[]⟩) (λa c h=>aA<|av 1 87 b6 a<|ae<|ce)<|ag<|cd<|b9 r pi (λa c d=>⟨[(0,iL a),(1,.i c),(4,.b go),(5,.i d)],[],[]⟩) (λuH a c d h=>?_) rx
 exact ap<|aA<|av 2 87 b6 a<|ae<|aq h (λh=>aM<|ap<|cd<|aA<|aV 2 87 1 b6 h λe h _=>av 2 5 B' e.fB<|ae<|aq h (λh=>cx) λh=>eO<|eZ<|cq<|cz [] []<|ra) λh=>re
theorem ME{a r}(h:jd a=ac r):mx aaa 115 [OC a] (qf5 r):=by
 refine bM (fn:=f115) (m:=gi) kr rfl kr kr kr<|ag<|ag<|aU r pL (λg=>⟨[(2,.nil),(3,.own 196609)],[],[(196609,D6 g)]⟩) (λg h=>cx)<|ag<|cd<|b9 r gy (λa j c=>⟨[(0,EU a),(2,.nil),(3,.own 196609),(4,.i c)],[],[(196609,D6 j)]⟩) (λnm a j c h=>?_) rx
 refine ap<|aA<|am 2 kr<|cC (e:=87) b6 a go 1 rfl rfl rfl kr kr kr kr<|ae<|aq h (λh=>?_) (λh=>?_)
 ·refine aM<|ap<|cd<|cz [] []<|am 4 kr ?_
  obtain ⟨d,b,h⟩:=aae h;refine dU (e:=87) (kk:=.i64) (sz:=1) b6 a c go rfl kr kr kr kr kr kr b<|am 2 kr ?_
  obtain ⟨_,f,h⟩:=aae h;exact eF (y:=.ext go (.bb d.fB)) B' 19 1 5 1 1 851968 (([]:gs)) d.fB rfl rfl rfl rfl kr kr kr kr kr (fM _ _ _) (.inl rfl) kr (of_decide_eq_true (ba f)) kr kr<|bg (ys:=[(aX.mk ((([]:gs))++d.fB))]) 2 22 87 1 196609 b6 h λh=>dK<|cz [] []<|ra
 exact re
theorem OF{a r}(h:zS a=ac r):aB aaa 204 [V.i a] (V.w IP (aF r)) []:=by
 refine df Tryz.f204 gi ?_;exact ag<|cx
theorem SY{c a r}(h:zT c a=ac r):aB aaa 314 [V.i c,V.i a] (V.i r) []:=by
 refine df Tryz.f314 go ?_;refine ag<|ap<|aU r yn (λc a e=>⟨[(0,.i c),(1,.i a),(4,.i 0),(12,.b e)],[],[]⟩) (λc a e h=>?_) ?_
 ·refine aq h (λh=>cx) λh=>aM<|aA<|am 5 kr ?_
  obtain ⟨_,d,h⟩:=aae h;exact iT .quo (.int .i64 (ew .i64 (aS .i64 c a) 1)) (.int .i64 a) (.int .i64 (Xf .i64 (ew .i64 (aS .i64 c a) 1) a)) rfl kr kr kr kr (qdQ _ _ _ _ (by simpa using ba d))<|ae<|ce
 exact cz [] []<|ah go 1 6 [] h bf λf h=>ai 2 8 h (λh=>ra) λh=>ah go 1 10 [] h bf λg h=>ra
theorem oI{a b r}(h:pM a b=ac r):aB aaa 244 [V.i a,V.i b] (V.i r) []:=by
 refine df Tryz.f244 go ?_;exact ag<|ap<|bh go 2 7 [] h oH λc h=>aq h (λh=>cx) λh=>aM<|bh go 2 11 [] h SY λd h=>ce
theorem Gw{a b r}(h:Bq a b=ac r):aB aaa 241 [V.i a,V.i b] (V.i r) []:=by
 refine df Tryz.f241 go ?_;exact ag<|ap<|ag<|aq h (λh=>cx) λh=>aM<|cx
theorem kF{a b c r}(h:iu a b c=ac r):aB aaa 164 [V.i a,V.i b,V.i c] (.tup [V.i r.1,V.i r.2]) []:=by
 refine df Tryz.f164 go ?_;exact ag<|ap<|aA<|ah go 3 11 [] h oI λd h=>ah go 1 13 [] h bf λe h=>ae<|aq h (λh=>cx) λh=>aM<|bh go 9 24 [] h Gw λf h=>ce
theorem Qz{c g j r}(h:np c g j=ac r):mx aaa 304 [.one (.s c),V.i g,V.i j] (.tup [qu r.1,V.b r.2]):=by
 refine bM (fn:=f304) (m:=gi) kr rfl kr kr kr<|ag<|aA<|am 2 kr<|cC (e:=5) B' c go 1 rfl rfl rfl kr kr kr kr<|ah go 1 15 [] h kF λa h=>ae<|ap<|ag<|aq h (λh=>cx) λh=>aM<|aA<|am 6 kr ?_
 obtain ⟨_,d,h⟩:=aae h;refine zK (e:=5) (alo:=(ac (.i a.1))) (ahi:=(ac (.i (aS .i64 a.1 a.2)))) go B' c 1 a.1 (aS .i64 a.1 a.2) rfl kr kr kr kr kr kr kr kr kr kr (ba d) ?_;obtain ⟨_,f,h⟩:=aae h;exact eF (y:=.ext go (.bb ((c.take (sY (aS .i64 a.1 a.2))).drop (sY a.1)))) B' 28 1 5 1 1 1376256 (([]:gs)) ((c.take (sY (aS .i64 a.1 a.2))).drop (sY a.1)) rfl rfl rfl rfl kr kr kr kr kr (fM _ _ _) (.inl rfl) kr (of_decide_eq_true (ba f)) kr kr<|ae<|ce
theorem rz{a r}(h:rY a=ac r):aB aaa 262 [.one (.s a)] (V.i r) []:=by
 refine df Tryz.f262 go ?_;refine ag<|ag<|ag<|aU r uO (λb c=>⟨[(2,.i 0),(3,.i b),(4,.i c)],[],[]⟩) (λb c h=>cx)<|ag<|cd<|b9 r qH (λa d e f=>⟨[(0,.s a),(2,.i 0),(3,.i d),(4,.i e),(5,.i f)],[],[]⟩) (λwZ a d e f h=>?_) rx
 exact ap<|aA<|av 2 5 B' a<|ae<|aq h (λh=>aM<|ap<|cd<|aA<|aV 3 5 1 B' h λg h _=>ae<|cz [] []<|dK<|cz [] []<|ra) λh=>re
theorem nL{a r}(h:jB a=ac r):aB aaa 288 [.one (.s a)] (ei (bR r)) []:=by
 refine df Tryz.f288 go ?_;refine ag<|ap<|aA<|av 1 5 B' a<|ae<|aq h (λh=>cx) λh=>aM<|ag<|aU r xr (λa b=>⟨[(0,.s a),(2,.obj 2 0),(3,.i b)],[(2,[.i 0,.i 0])],[]⟩) (λa b h=>bh go 1 24 [] h rz λe h=>ce)<|ag<|cd<|b9 r tB (λa c d=>⟨[(0,.s a),(2,.obj 2 0),(3,.i c),(4,.i d)],[(2,[.i 0,.i 0])],[]⟩) (λyZ a c d h=>?_) rx
 exact ap<|aA<|av 2 5 B' a<|ae<|aq h (λh=>aM<|ap<|cd<|cz [] []<|aV 4 5 1 B' h λf h _=>dK<|cz [] []<|ra) λh=>re
theorem SZ{a b r}(h:rZ a b=ac r):mx aaa 232 [.one (.s a),V.i b] (qa6 r):=bM (fn:=f232) (m:=gi) kr rfl kr kr kr<|ag<|ag<|aU r zU (λc=>⟨[(4,.nil),(5,.own 327681)],[],[(327681,qw c)]⟩) (λc h=>cx)<|ag<|cd<|b9 r lY (λa b d f=>⟨[(0,.ext go (.bb a)),(1,.i b),(4,.nil),(5,.own 327681),(6,.i f)],[],[(327681,qw d)]⟩) (λrQ a b d f h=>ap<|aA<|am 3 kr<|cC (e:=5) B' a go 1 rfl rfl rfl kr kr kr kr<|ah go 0 14 [] h oI λj h=>ae<|aq h (λh=>aM<|ap<|cd<|aA<|bw 3 22 h Qz λk h=>ae<|cz [] []<|cT 2 27 h nL λg h=>bg (ys:=[g]) 1 29 198 2 327681 bR h λh=>dK<|cz [] []<|ra) λh=>re) rx
theorem JP{c a d r}(h:uP c a d=ac r):mx aaa 143 [V.i c,.one (.s a),V.i d] (V.w EV (aE r)):=bM (fn:=Tryz.f143) (m:=gi) kr rfl kr kr kr<|ag<|ap<|aU r xt (λc a d f=>⟨[(0,.i c),(1,.ext go (.bb a)),(2,.i d),(6,.obj 6 0),(16,.b f)],[(6,uq)],[]⟩) (λc a d f h=>aq h (λh=>cx) λh=>aM<|aA<|am 3 kr<|cC (e:=5) B' a go 1 rfl rfl rfl kr kr kr kr<|bw 2 24 h SZ λg h=>ae<|ce)<|cz [] []<|ah go 1 8 [] h bf λj h=>ai 2 10 h (λh=>ra) λh=>am 2 kr<|cC (e:=5) B' a go 1 rfl rfl rfl kr kr kr kr<|ah go 0 14 [] h oH λk h=>ra
theorem Vv{a r}(h:ki a=ac r):mx aaa 62 [ei (a9 a)] (V.w EV (aE r)):=bM (fn:=f62) (m:=gi) kr rfl kr kr kr<|ag<|aA<|bw 5 8 h JP λb h=>ae<|ce
theorem C9{a r}(h:sB a=ac r):aB aaa 287 [V.i a] (.tup [qu r.1,V.b r.2]) []:=by
 refine df Tryz.f287 gi ?_;refine ag<|ap<|bh go 1 6 [] h bf λf h=>aq h (λh=>cx) λh=>aM<|ag<|aU r CQ (λc=>⟨[(2,.nil),(3,.b go),(4,.own 262145)],[],[(262145,cH c)]⟩) (λc h=>cx)<|cd<|b9 r pj (λd e=>⟨[(0,.i d),(2,.nil),(3,.b go),(4,.own 262145)],[],[(262145,cH e)]⟩) (λuD d e h=>?_) rx
 exact ap<|ag<|aq h (λh=>aM<|cd<|ap<|ag<|aq h (λh=>cx) λh=>aM<|aA<|bg 5 20 5 1 1179648 B' h λh=>ae<|cz [] []<|rb) λh=>re
theorem lT{a r}(h:kj a=ac r):aB aaa 205 [ei (aE a)] (V.b r) []:=by
 refine df Tryz.f205 go ?_;refine ag<|ap<|ag<|aq h (λh=>aA<|ai 4 14 h (λh=>ai 5 19 h (λh=>av 2 198 bR a.aI<|ae<|ce) λh=>ae<|ce) λh=>ae<|ce) λh=>aM<|ap<|aU r xu (λe a=>⟨[(1,.obj 1 0),(2,.b go),(47,.b e)],[(1,((aE a).map .t))],[]⟩) (λe a h=>?_) ?_
 ·refine aq h (λh=>cx) λh=>aM<|mq r (Gl) ⟨[(2,.b go)],[],[]⟩ (λh=>cx)<|ag<|cd<|b9 r lL (λc a=>⟨[(1,.obj 1 0),(2,.b go),(3,.i c)],[(1,((aE a).map .t))],[]⟩) (λm8 c a h=>?_) rx
  exact ap<|aA<|av 3 198 bR a.aI<|ae<|aq h (λh=>aM<|ap<|cd<|aA<|aV 3 198 2 bR h λl h _=>ah go 2 62 [] h C9 λf h=>ae<|bh go 5 71 [] h kF λg h=>aU r (nB (lL m8)) (λc d a=>⟨[(1,.obj 1 0),(2,.b go),(3,.i c),(91,.b d)],[(1,((aE a).map .t))],[]⟩) (λc d a h=>aq h (λh=>cx) λh=>eO<|eZ<|cq<|cz [] []<|ra)<|bm [] 74 8 [(16103336,.frz),(133136,.own 62),(524290,.obj 1)]<|ai 3 76 h (λh=>ra) λh=>av 1 5 B' f.1<|ai 4 82 h (λh=>ra) λh=>cT 1 84 h nL λj h=>aV 3 198 2 bR h λk h _=>ra) λh=>re
 exact bm [] 25 2 [(7040376,.frz),(1344134,.obj 1)]<|ah go 2 27 [] h bf λm h=>ai 2 29 h (λh=>ra) λh=>ah go 4 34 [] h oH λn h=>ai 3 37 h (λh=>ra) λh=>av 2 198 bR a.aI<|ah go 4 45 [] h oI λo h=>ra
theorem IT{c f g r}(h:np c f g=ac r):aB aaa 304 [.one (.s c),V.i f,V.i g] (.tup [qu r.1,V.b r.2]) []:=by
 refine df f304 gi ?_;refine ag<|aA<|av 2 5 B' c<|ah go 1 15 [] h kF λa h=>ae<|ap<|ag<|aq h (λh=>cx) λh=>aM<|aA<|am 6 kr ?_
 obtain ⟨_,d,h⟩:=aae h;exact eg (e:=5) (ax:=.s c) (alo:=(ac (.i a.1))) (ahi:=(ac (.i (aS .i64 a.1 a.2)))) B' c 1 a.1 (aS .i64 a.1 a.2) rfl kr kr kr kr kr kr kr kr kr kr kr (ba d)<|bg 0 28 5 1 1376256 B' h λh=>ae<|ce
theorem JQ{a b r}(h:rZ a b=ac r):aB aaa 232 [.one (.s a),V.i b] (qa6 r) []:=by
 refine df f232 gi ?_;refine ag<|ag<|aU r zU (λc=>⟨[(4,.nil),(5,.own 327681)],[],[(327681,qw c)]⟩) (λc h=>cx)<|ag<|cd<|b9 r lY (λa b d e=>⟨[(0,.s a),(1,.i b),(4,.nil),(5,.own 327681),(6,.i e)],[],[(327681,qw d)]⟩) (λrQ a b d e h=>?_) rx
 exact ap<|aA<|av 3 5 B' a<|ah go 0 14 [] h oI λg h=>ae<|aq h (λh=>aM<|ap<|cd<|bh go 3 22 [] h IT λj h=>cz [] []<|cT 2 27 h nL λf h=>bg (ys:=[f]) 1 29 198 2 327681 bR h λh=>dK<|cz [] []<|ra) λh=>re
theorem EW{a c r}(h:pk a c=ac r):aB aaa 226 [Sg a,Sg c] (V.b r) []:=by
 refine df Tryz.f226 go ?_;refine ag<|ap<|aA<|av 1 198 bR a<|av 1 198 bR c<|ae<|aq h (λh=>cx) λh=>aM<|mq r (za) ⟨[(4,.b go)],[],[]⟩ (λh=>cx)<|ag<|cd<|b9 r lm (λa c d=>⟨[(0,rv a),(1,rv c),(4,.b go),(5,.i d)],[],[]⟩) (λqd a c d h=>?_) rx
 exact ap<|aA<|av 2 198 bR a<|ae<|aq h (λh=>aM<|ap<|cd<|ap<|bm [] 17 6 [(16355,.frz)]<|aV 2 198 2 bR h λe h _=>aV 3 198 2 bR h λf h _=>ae<|aq h (λh=>cx) λh=>eO<|eZ<|cq<|cz [] []<|ra) λh=>re
theorem LE{c a r}(h:Bt c a=ac r):aB aaa 206 [ei (aE c),.one (.s a)] (V.b r) []:=by
 refine df Tryz.f206 go ?_;exact ag<|ap<|bm [] 5 3 [(84954,.frz),(9252,.obj 2),(4096,.own 14)]<|av 1 5 B' a<|ai 4 10 h (λh=>ah go 3 14 [] h JQ λd h=>cT 2 17 h EW λe h=>ae<|ce) λh=>ae<|ce
theorem S0{a r}(h:pN a=ac r):mx aaa 207 [ei (aE a)] (V.w EV (aE r)):=by
 refine bM (fn:=f207) (m:=gi) kr rfl kr kr kr<|ag<|ag<|aA<|am 3 kr ?_
 obtain ⟨_,b,h⟩:=aae h;exact eF (y:=OE a.aI) bR 8 2 198 2 16 327680 (([]:List dR)) a.aI rfl rfl rfl rfl kr kr kr kr kr (KU _ _ _ λ_=>rfl) (.inl rfl) kr (of_decide_eq_true (ba b)) kr kr<|ae<|cx
theorem OG{a r}(h:Ef a=ac r):aB aaa 360 [V.i a] (V.b r) []:=by
 refine df Tryz.f360 go ?_;exact ag<|bh go 1 4 [] h bf λc h=>ce
theorem MF{a r}(h:s6 a=ac r):aB aaa 361 [V.i a] (.tup [V.i r.1,V.i r.2]) []:=by
 refine df Tryz.f361 go ?_;exact ag<|ap<|bh go 1 5 [] h OG λb h=>aq h (λh=>cx) λh=>aM<|cx
theorem Ig{b a r}(h:Bu b a=ac r):aB aaa 362 [V.i b,V.i a] (V.i r) []:=by
 refine df Tryz.f362 go ?_;refine ag<|ap<|bh go 1 6 [] h bf λe h=>aq h (λh=>cx) λh=>aM<|aA<|am 2 kr ?_
 obtain ⟨_,c,h⟩:=aae h;refine iT .rem (.int .i64 b) (.int .i64 a) (.int .i64 (rU .i64 b a)) rfl kr kr kr kr (KT _ _ _ _ (by simpa using ba c))<|am 3 kr ?_
 obtain ⟨_,d,h⟩:=aae h;exact iT .rem (.int .i64 (aS .i64 (rU .i64 b a) a)) (.int .i64 a) (.int .i64 (rU .i64 (aS .i64 (rU .i64 b a) a) a)) rfl kr kr kr kr (KT _ _ _ _ (by simpa using ba d))<|ae<|ce
theorem Zo{a c d e r}(h:Eg a c d e=ac r):aB aaa 353 [V.i a,V.i c,V.i d,V.i e] (V.i r) []:=by
 refine df Tryz.f353 go ?_;exact ag<|ap<|aU r vT (λa c d e f=>⟨[(0,.i a),(1,.i c),(2,.i d),(3,.i e),(8,.i 0),(28,.b f)],[],[]⟩) (λa c d e f h=>aq h (λh=>cx) λh=>aM<|bh go 1 32 [] h MF λg h=>bh go 6 41 [] h Ig λj h=>bh go 5 47 [] h Ig λk h=>bh go 4 52 [] h Ig λl h=>ce)<|cz [] []<|ah go 1 12 [] h OG λm h=>ai 2 14 h (λh=>ra) λh=>ah go 1 16 [] h bf λn h=>ai 3 19 h (λh=>ra) λh=>ah go 1 21 [] h bf λo h=>ai 3 24 h (λh=>ra) λh=>ah go 1 26 [] h bf λp h=>ra
theorem S1{a c r}(h:zV a c=ac r):aB aaa 343 [.one (.s a),V.i c] (IM r) []:=by
 refine df Tryz.f343 gi ?_;refine ag<|ag<|ap<|aU r yp (λa c j=>⟨[(0,.s a),(1,.i c),(4,.nil),(5,.own 327681),(16,.b j)],[],[(327681,.live 3 1 ((([]:gs)).map C'))]⟩) (λa c j h=>?_) ?_
 ·refine aq h (λh=>cx) λh=>aM<|aA<|am 2 kr ?_
  obtain ⟨_,g,h⟩:=aae h;refine eg (e:=5) (ax:=.s a) (alo:=cl) (ahi:=(ac (.i c))) B' a 1 0 c rfl kr kr kr kr kr kr kr kr kr kr kr (ba g)<|ah go 0 21 [] h rz λp h=>ae<|aA<|bg 3 25 3 1 327681 C' h λh=>ae<|aU r yo (λd=>⟨[(4,.nil),(5,.own 327681)],[],[(327681,ny d)]⟩) (λd h=>cx)<|ag<|cd<|b9 r jt (λa c k l f=>⟨[(0,.s a),(1,.i c),(4,.nil),(5,.own 327681),(6,.i l),(7,.i f)],[],[(327681,ny k)]⟩) (λuE a c k l f h=>?_) rx
  exact ap<|aA<|av 2 5 B' a<|ae<|aq h (λh=>aM<|ap<|cd<|ap<|bm [] 33 8 [(8388547,.frz)]<|aV 6 5 1 B' h λm h _=>aV 4 5 1 B' h λn h _=>ah go 2 47 [] h Zo λo h=>ae<|cz [] []<|bg 3 51 3 1 327681 C' h λh=>dK<|cz [] []<|ra) λh=>re
 exact cz [] []<|ai 3 11 h (λh=>ra) λh=>av 2 5 B' a<|ra
theorem S2{a c d r}(h:zW a c d=ac r):aB aaa 327 [.one (.s a),ei (bR c),V.i d] (V.i r) []:=by
 refine df Tryz.f327 go ?_;refine ag<|ap<|bh go 1 10 [] h bf λm h=>aq h (λh=>cx) λh=>aM<|bh go 2 14 [] h S1 λg h=>mq r (yq) ⟨[(6,.i 0)],[],[]⟩ (λh=>cx)<|ag<|cd<|b9 r gQ (λa d g f c=>⟨[(0,.s a),(2,.i d),(4,.obj 4 0),(6,.i 0),(7,.own 458753),(8,.i f)],[(4,[.i c.fW,.i c.fS])],[(458753,ny g)]⟩) (λmT a d g f c h=>?_) rx
 refine ap<|aA<|av 2 3 C' g<|ae<|aq h (λh=>?_) (λh=>?_)
 ·refine aM<|ap<|cd<|aU r (pm (gQ mT)) (λa d g f l c=>⟨[(0,.s a),(2,.i d),(4,.obj 4 0),(6,.i 0),(7,.own 458753),(8,.i f),(38,.b l)],[(4,[.i c.fW,.i c.fS])],[(458753,ny g)]⟩) (λa d g f l c h=>aq h (λh=>cx) λh=>eO<|eZ<|cq<|cz [] []<|ra)<|bm [] 21 9 [(33543429,.frz),(8208,.obj 4),(640,.own 7),(2048,.el 7)]<|bQ 2 3 1 458753 3 C' h λn h j=>fb 0 1 1 458753 0 3 go C' ((bL j).2)<|ai 4 28 h (λh=>?_) (λh=>?_)
  ·refine am 5 kr ?_;obtain ⟨_,k,h⟩:=aae h;exact eg (e:=5) (ax:=.s a) (alo:=(ac (.i f))) (ahi:=(ac (.i (aS .i64 f d)))) B' a 1 f (aS .i64 f d) rfl kr kr kr kr kr kr kr kr kr kr kr (ba k)<|ah go 0 35 [] h nL λo h=>ra
  exact ra
 exact re
theorem S3{a c d r}(h:vU a c d=ac r):aB aaa 283 [.one (.s a),ei (aE c),V.i d] (V.i r) []:=by
 refine df Tryz.f283 go ?_;exact ag<|bh go 5 15 [] h kF λe h=>ap<|aU r yr (λa d e f c=>⟨[(0,.s a),(2,.i d),(4,.obj 4 0),(6,.i 0),(8,.i e.2),(26,.b f)],[(4,((aE c).map .t))],[]⟩) (λa d e f c h=>aq h (λh=>cx) λh=>aM<|aA<|aV 4 198 2 bR h λg h _=>ah go 2 34 [.s a,.agg [.i g.fW,.i g.fS]] h S2 λj h=>ae<|ce)<|cz [] []<|ai 3 20 h (λh=>ra) λh=>av 3 198 bR c.aI<|ra
theorem dD{a r}(h:dh a=ac r):aB aaa 153 [V.i a] (V.b r) []:=by
 refine df Tryz.f153 go ?_;exact ag<|bh go 1 4 [] h bf λc h=>ce
theorem kh{a c r}(h:gH a c=ac r):aB aaa 152 [V.i a,V.i c] (V.b r) []:=by
 refine df Tryz.f152 go ?_;refine ag<|aA<|ah go 1 6 [] h dD λe h=>ai 1 7 h (λh=>?_) (λh=>?_)
 ·refine ah go 1 9 [] h bf λf h=>ai 2 11 h (λh=>?_) (λh=>?_)
  ·refine am 2 kr ?_;obtain ⟨_,d,h⟩:=aae h;exact iT .shr (.int .i64 a) (.int .i64 c) (.int .i64 (ng .i64 a c)) rfl kr kr kr kr (Ov _ _ _ _ _ (ba d))<|ae<|ce
  exact ae<|ce
 exact ae<|ce
theorem OH{a r}(h:jd a=ac r):aB aaa 115 [OC a] (qf5 r) []:=by
 refine df f115 gi ?_;refine ag<|ag<|aU r pL (λb=>⟨[(2,.nil),(3,.own 196609)],[],[(196609,D6 b)]⟩) (λb h=>cx)<|ag<|cd<|b9 r gy (λa c d=>⟨[(0,iL a),(2,.nil),(3,.own 196609),(4,.i d)],[],[(196609,D6 c)]⟩) (λnm a c d h=>?_) rx
 exact ap<|aA<|av 2 87 b6 a<|ae<|aq h (λh=>aM<|ap<|cd<|cz [] []<|aV 4 87 1 b6 h λe h _=>bg 2 19 5 1 851968 B' h λh=>bg (ys:=[(aX.mk ((([]:gs))++e.fB))]) 2 22 87 1 196609 b6 h λh=>dK<|cz [] []<|ra) λh=>re
theorem BQ{a c r}(h:qe a c=ac r):aB aaa 116 [ei (jF a),V.i c] (V.w IP (aF r)) []:=by
 refine df Tryz.f116 gi ?_;exact ag<|ap<|aU r vS (λc d a=>⟨[(1,.i c),(2,.obj 2 0),(4,.obj 4 0),(16,.b d)],[(2,[bF a.bl]),(4,Vs)],[]⟩) (λc d a h=>aq h (λh=>cx) λh=>aM<|aA<|aV 3 3 1 C' h λe h _=>ah go 1 23 [] h OF λf h=>ae<|ce)<|cz [] []<|cS go 1 6 [.agg [bF a.bl]] h vE λg h=>ai 2 8 h (λh=>ra) λh=>av 3 3 C' a.bl<|ah go 1 14 [] h bf λj h=>ra
theorem EX{a r}(h:pN a=ac r):aB aaa 207 [ei (aE a)] (V.w EV (aE r)) []:=by
 refine df f207 gi ?_;exact ag<|ag<|aA<|bg 3 8 198 2 327680 bR h λh=>ae<|cx
theorem QA{a r}(h:xv a=ac r):aB aaa 282 [ei (aE a)] (V.w [0,5] (d9 r)) []:=by
 refine df Tryz.f282 gi ?_;refine ag<|ap<|bh go 1 4 [] h lT λd h=>aq h (λh=>cx) λh=>aM<|aA<|am 2 kr ?_
 obtain ⟨_,b,h⟩:=aae h;obtain ⟨_,c,h⟩:=aae h;exact JH B' (0:Int) 9 5 1 1 a.aT a.aT rfl rfl kr kr kr kr kr kr (ba b) (of_decide_eq_true (ba c)) kr<|ae<|ce
theorem BR{c a r}(h:ke c a=ac r):aB aaa 315 [V.i c,V.i a] (V.i r) []:=by
 refine df Tryz.f315 go ?_;refine ag<|ap<|aU r qI (λc a e=>⟨[(0,.i c),(1,.i a),(4,.i 0),(12,.b e)],[],[]⟩) (λc a e h=>?_) ?_
 ·refine aq h (λh=>cx) λh=>aM<|aA<|am 2 kr ?_
  obtain ⟨_,d,h⟩:=aae h;exact iT .shl (.int .i64 1) (.int .i64 a) (.int .i64 (mm .i64 1 a)) rfl kr kr kr kr (D5 _ _ _ _ _ (ba d))<|ae<|ce
 exact cz [] []<|ah go 1 6 [] h dD λf h=>ai 2 8 h (λh=>ra) λh=>ah go 1 10 [] h bf λg h=>ra
theorem LF{k a c d r}(h:zb k a c d=ac r):aB aaa 284 [ei (aE k),.ptr (cw [0,5] (d9 a)),V.i c,.one (.s d)] (V.b r.1) [cw [0,5] (d9 r.2)]:=by
 refine df Tryz.f284 go ?_;refine ag<|ap<|aU r tE (λc d p k a=>⟨[(1,.obj 901 0),(2,.i c),(3,.s d),(4,.obj 4 0),(8,.b go),(41,.b p)],[(4,((aE k).map .t)),(901,[.i a.bc,.own 59048449])],[(59048449,cH a.bE)]⟩) (λc d p k a h=>?_) ?_
 ·refine aq h (λh=>cx) λh=>aM<|bh go 5 48 [] h kF λn h=>aU r B3 (λc a l=>⟨[(1,.obj 901 0),(2,.i c),(8,.b go)],[(901,[.i a.bc,.own 59048449])],[(59048449,cH l)]⟩) (λc a l h=>bh go 6 75 [] h BR λq h=>cx)<|ag<|cd<|b9 r tD (λc d n o a f=>⟨[(1,.obj 901 0),(2,.i c),(3,.s d),(8,.b go),(9,.i n.1),(11,.i o)],[(901,[.i a.bc,.own 59048449])],[(59048449,cH f)]⟩) (λw c d n o a f h=>?_) rx
  exact ap<|aA<|av 2 5 B' d<|ae<|aq h (λh=>aM<|ap<|cd<|bm [] 57 12 [(8325640,.frz),(28674,.obj 901),(32768,.own 901),(8388608,.el 901)]<|aV 9 5 1 B' h λg h _=>bQ 1 5 1 59048449 5 B' h λv h j=>iw (e:=5) (sz:=1) (m:=1) B' f 59048449 (sY (aS .i64 n.1 o)) 0 g (.t (.int .u8 g)) [.int .u8 g] rfl kr kr kr kr kr kr kr kr ((bL j).2) kr kr<|dK<|cz [] []<|ra) λh=>re
 exact bm [] 12 5 [(8312790956,.frz),(57346,.obj 901),(8388688,.obj 4)]<|av 3 198 bR k.aI<|ah go 1 17 [] h bf λx h=>ai 2 19 h (λh=>ra) λh=>ah go 5 25 [] h kh λy h=>ai 2 27 h (λh=>ra) λh=>ah go 1 29 [] h nL λz h=>aV 3 198 2 bR h λA h _=>ai 4 37 h (λh=>ra) λh=>av 1 5 B' d<|ra
theorem ur{a b r}(h:lZ a b=ac r):aB aaa 202 [ei (aE a),.one (.s b)] (V.w [0,5] (d9 r)) []:=by
 refine df Tryz.f202 gi ?_;refine ag<|bh go 1 11 [] h QA λq h=>ap<|bh go 1 13 [] h lT λv h=>aq h (λh=>cx) λh=>aM<|aU r zX (λd f=>⟨[(4,.obj 4 0),(5,.obj 5 0)],[(4,JM),(5,[.i d,.own 328193])],[(328193,cH f)]⟩) (λd f h=>cx)<|ag<|cd<|b9 r iY (λb g a n o=>⟨[(1,.s b),(2,.obj 2 0),(4,.obj 4 0),(5,.obj 5 0),(6,.i g)],[(2,((aE a).map .t)),(4,JM),(5,[.i n,.own 328193])],[(328193,cH o)]⟩) (λkQ b g a n o h=>?_) rx
 refine ap<|aA<|av 3 198 bR a.aI<|ae<|aq h (λh=>?_) (λh=>?_)
 ·refine aM<|aU r (my (iY kQ)) (λb g a j k=>⟨[(1,.s b),(2,.obj 2 0),(4,.obj 4 0),(5,.obj 5 0),(6,.i g)],[(2,((aE a).map .t)),(4,JM),(5,[.i j,.own 328193])],[(328193,cH k)]⟩) (λb g a j k h=>cz [] []<|ra)<|cd<|bh go 3 26 [] h S3 λc h=>bh go 5 33 [] h kF λl h=>ag<|aq h (λh=>?_) (λh=>?_)
  ·refine bm [] 38 10 [(261826,.frz),(4,.obj 2),(32,.obj 5)]<|am 7 kr ?_
   obtain ⟨_,m,h⟩:=aae h;exact eg (e:=5) (ax:=.s b) (alo:=(ac (.i c))) (ahi:=(ac (.i (aS .i64 c l.2)))) B' b 1 c (aS .i64 c l.2) rfl kr kr kr kr kr kr kr kr kr kr kr (ba m)<|ah gi 0 46 [.agg ((aE a).map .t),.obj 5 0] h LF λp h=>rb
  exact eO<|eZ<|cq<|rx
 exact re
theorem QB{a c r}(h:tF a c=ac r):aB aaa 117 [ei (aE a),.one (.s c)] (V.w IP (aF r)) []:=by
 refine df Tryz.f117 gi ?_;exact ag<|ap<|aU r qJ (λc d a=>⟨[(1,.s c),(2,.obj 2 0),(4,.obj 4 0),(18,.b d)],[(2,((aE a).map .t)),(4,Vs)],[]⟩) (λc d a h=>aq h (λh=>cx) λh=>aM<|ap<|bm [] 20 5 [(418,.frz),(4,.obj 2),(16,.obj 4),(64,.own 21),(512,.own 24)]<|ah go 1 21 [] h EX λe h=>ah go 2 24 [] h ur λf h=>ae<|ce)<|cz [] []<|ai 4 8 h (λh=>ra) λh=>ah go 1 10 [] h lT λg h=>ai 3 13 h (λh=>ra) λh=>ah go 2 16 [] h LE λi h=>ra
theorem S4{c a r}(h:ic c a=ac r):aB aaa 118 [V.i c,.one (.s a)] (V.w oG (aC r)) []:=by
 refine df Tryz.f118 gi ?_;exact ag<|ap<|aU r ju (λc a d=>⟨[(0,.i c),(1,.s a),(4,.obj 4 0),(12,.b d)],[(4,lJ)],[]⟩) (λc a d h=>aq h (λh=>cx) λh=>aM<|aA<|bg 2 16 5 1 917504 B' h λh=>av 2 5 B' a<|ae<|ce)<|cz [] []<|ah go 1 6 [] h bf λe h=>ai 2 8 h (λh=>ra) λh=>av 1 5 B' a<|ra
theorem Hi{a c d g r}(h:je a c d g=ac r):aB aaa 52 [ei (k8 a),ei (jF c),.one (.s d),OC g] (V.w Vt (a9 r)) []:=by
 refine df f52 gi ?_;refine ag<|ap<|aU r jG (λd g I a c=>⟨[(2,.s d),(3,iL g),(4,.obj 4 0),(5,.obj 5 0),(8,.obj 8 0),(35,.b I)],[(4,((k8 a).map .t)),(5,[bF c.bl]),(8,li)],[]⟩) (λd g I a c h=>?_) ?_
 ·refine aq h (λh=>cx) λh=>aM<|ap<|bm [] 37 10 [(664588,.frz),(4128,.obj 5),(49152,.own 41),(16,.obj 4),(512,.obj 9),(2048,.own 38),(65536,.own 43),(262144,.own 45),(1048576,.own 47)]<|bg 4 41 3 1 2490368 C' h λh=>bg 3 45 5 1 2818048 B' h λh=>ah go 1 47 [] h OH λk h=>ae<|aU r qK (λa c d k F G=>⟨[(8,.obj 8 0),(9,.obj 9 0)],[(8,li),(9,[.i a.au,.i a.aP,.i a.aK,.i a.aN,.own 590340,.own 590341,.own 590342,.own 590343,.own 590344,.nil,.nil,.i 0])],[(590340,.live 3 1 (((([]:gs))++c.bl).map C')),(590341,.live 5 1 (((([]:gs))++d).map B')),(590342,D6 k),(590343,lS F),(590344,oF G)]⟩) (λa c d k F G h=>cx)<|ag<|cd<|b9 r dG (λd g j a c k e f=>⟨[(2,.s d),(3,iL g),(5,.obj 5 0),(8,.obj 8 0),(9,.obj 9 0),(10,.i j)],[(5,[bF c.bl]),(8,li),(9,[.i a.au,.i a.aP,.i a.aK,.i a.aN,.own 590340,.own 590341,.own 590342,.own 590343,.own 590344,.nil,.nil,.i 0])],[(590340,.live 3 1 (((([]:gs))++c.bl).map C')),(590341,.live 5 1 (((([]:gs))++d).map B')),(590342,D6 k),(590343,lS e),(590344,oF f)]⟩) (λlF d g j a c k e f h=>?_) (HU (JK 9 7 590343 82 12)<|HU (JK 9 8 590344 61 6)<|rx)
  refine ap<|aA<|av 3 3 C' c.bl<|ae<|aq h (λh=>?_) (λh=>?_)
  ·refine aM<|ap<|cd<|bh go 2 58 [.agg [bF c.bl]] h BQ λJ h=>aU r (iM (dG lF)) (λd g j a c k e f m n o p q v x y z A B C=>⟨[(2,.s d),(3,iL g),(5,.obj 5 0),(8,.obj 8 0),(9,.obj 9 0),(10,.i j),(11,.obj 11 0)],[(5,[bF c.bl]),(8,li),(9,[.i a.au,.i a.aP,.i a.aK,.i a.aN,.own 590340,.own 590341,.own 590342,.own 590343,.own 590344,.nil,.nil,.i 0]),(11,[.b m,.i n,.i o,.i p,.i q,.i v,.own 721414,.i y,.own 721416,.i A,.own 721418,.i C])],[(590340,.live 3 1 (((([]:gs))++c.bl).map C')),(590341,.live 5 1 (((([]:gs))++d).map B')),(590342,D6 k),(590343,lS e),(590344,oF f),(721414,qw x),(721416,cH z),(721418,D7 B)]⟩) (λd g j a c k e f m n o p q v x y z A B C h=>aA<|bg (ys:=[(aD.mk m n o ((af.mk p q v x)) ((aW.mk y z)) A B C)]) 4 69 82 12 590343 aF h λh=>ae<|bm [] 71 11 [(254984,.frz),(2099712,.obj 9),(4096,.own 9),(262144,.own 78),(524288,.own 79),(1048576,.own 80)]<|aV 4 87 1 b6 h λK h _=>ah go 2 78 [] h S4 λH h=>bg (ys:=[H]) 1 80 61 6 590344 aC h λh=>dK<|cz [] []<|ra)<|ag<|aq h (λh=>?_) (λh=>?_)
   ·refine cz [] []<|am 1 kr ?_
    obtain ⟨l,D,h⟩:=aae h;exact Se 62 62 [] [.agg [.i a.au,.i a.aP,.i a.aK,.i a.aN,.own 590340,.own 590341,.own 590342,.own 590343,.own 590344,.nil,.nil,.i 0]] [.agg [.i a.au,.i a.aP,.i a.aK,.i a.aN,.t (.sl 1 (((([]:gs))++c.bl).map C')),.t (.bb ((([]:gs))++d)),.t (.sl 1 (k.map b6)),.t (.sl 12 (e.map aF)),.t (.sl 6 (f.map aC)),.t (.sl 3 []),.t (.sl 3 []),.i 0]] (V.w EV (aE l)) rfl rfl kr kr kr kr kr (Vv D) kr<|ah go 1 64 [.agg [.i l.aR,.i l.au,.i l.aT,.own 4063235]] h QB λL h=>ra
   exact aM<|rx
  exact re
 exact cz [] []<|ah go 1 13 [] h JO λM h=>ai 2 15 h (λh=>ra) λh=>cS go 1 17 [.agg [bF c.bl]] h vE λN h=>ai 3 20 h (λh=>ra) λh=>av 3 5 B' d<|ah go 0 25 [] h oH λO h=>ai 3 28 h (λh=>ra) λh=>av 3 3 C' c.bl<|ah go 0 33 [] h IS λP h=>ra
theorem EY{n r}(h:zw n=ac r):aB aaa 98 [.ptr (cw eX (bq n))] (V.w Vt (a9 r.1)) [cw eX (bq r.2)]:=by
 refine df f98 gi ?_;refine ag<|jK go 1 9 [.obj 900 0] h IQ λa h=>jK go 1 11 [.obj 900 0] h C7 λb h=>ag<|aU r zY (λb c a d e f=>⟨[(0,.obj 900 0),(2,.obj 2 0),(3,.obj 3 0),(4,.own 262145),(5,.own 327681)],[(2,li),(3,[.own 197120]),(900,[.s d,.i e,.i f])],[(197120,ny a.1.bl),(262145,cH b.1),(327681,D6 c)]⟩) (λb c a d e f h=>ap<|Wp.le (bY 3 0 197120 3 1 [.own 197120] (a.1.bl.map C') kr kr kr)<|bm [900] 28 6 [(65,.obj 900),(528,.own 4),(1056,.own 5),(384,.frz),(4,.obj 2),(8,.obj 3),(2048,.own 33)]<|cS go 1 29 [.obj 900 0] h IR λl h=>cS go 3 33 [.agg ((k8 l.1).map .t),.agg [bF a.1.bl],.own 262145,.own 327681] h Hi λq h=>ae<|ce)<|ag<|cd<|b9 r kl (λb o p a g j k=>⟨[(0,.obj 900 0),(2,.obj 2 0),(3,.obj 3 0),(4,.own 262145),(5,.own 327681),(6,.i p)],[(2,li),(3,[.own 197120]),(900,[.s g,.i j,.i k])],[(197120,ny a.1.bl),(262145,cH b.1),(327681,D6 o)]⟩) (λw5 b o p a g j k h=>?_) rx
 exact ap<|aA<|av 3 3 C' a.1.bl<|ae<|aq h (λh=>aM<|ap<|cd<|aA<|gL go 2 22 [.obj 900 0] [.own 262145] h JN λm h=>ae<|cz [] []<|bg (ys:=[(aX.mk m.1)]) 4 27 87 1 327681 b6 h λh=>dK<|cz [] []<|ra) λh=>re
theorem JR{e r}(h:zx e=ac r):aB aaa 100 [.ptr (cw eX (bq e))] (ei (k8 r.1)) [cw eX (bq r.2)]:=by
 refine df Tryz.f100 go ?_;exact ag<|jK go 1 5 [.obj 900 0] h IR λk h=>aU r qL (λf g j a b c d=>⟨[(2,.obj 2 0),(3,.obj 3 0)],[(2,qf8),(3,[.i f,.i g,.i j,.i a]),(900,[.s b,.i c,.i d])],[]⟩) (λf g j a b c d h=>cx)<|bh go 1 7 [.obj 900 0] h aO λl h=>cd<|ag<|aq h (λh=>cz [] []<|gL go 2 12 [.obj 900 0] [.own 720896] h dX λm h=>rb) λh=>ag<|aq h (λh=>cz [] []<|gL go 2 18 [.obj 900 0] [.own 1114112] h dX λn h=>rb) λh=>ag<|aq h (λh=>cz [] []<|gL go 2 24 [.obj 900 0] [.own 1507328] h dX λo h=>rb) λh=>ag<|aq h (λh=>cz [] []<|gL go 2 30 [.obj 900 0] [.own 1900544] h dX λp h=>rb) λh=>eO<|eZ<|cq<|rx
theorem JS{c r}(h:zy c=ac r):aB aaa 101 [.ptr (cw eX (bq c))] (V.w [3] (jF r.1)) [cw eX (bq r.2)]:=by
 refine df Tryz.f101 gi ?_;exact ag<|jK go 1 5 [.obj 900 0] h IQ λd h=>aU r zZ (λf g j k=>⟨[(2,.obj 2 0),(3,.obj 3 0)],[(2,[.nil]),(3,[.own 197120]),(900,[.s g,.i j,.i k])],[(197120,ny f)]⟩) (λf g j k h=>cx)<|bh go 1 7 [.obj 900 0] h aO λn h=>cd<|ag<|aq h (λh=>bm [900] 10 4 [(2113,.obj 900),(152,.obj 3),(9728,.frz),(288,.own 5),(4096,.own 18),(16384,.el 5)]<|av 5 3 C' d.1.bl<|ah go 0 16 [.obj 900 0] h aO λl h=>gL go 2 19 [.obj 900 0] [.own 1179648] h dX λb h=>bQ 0 3 1 327680 3 C' h λo h a=>iw (e:=3) (sz:=1) (m:=1) C' d.1.bl 327680 (sY l.1) 0 b.1 (.i b.1) [.int .i64 b.1] rfl kr kr kr kr kr kr kr kr ((bL a).2) kr kr<|rb) λh=>ag<|aq h (λh=>cz [] []<|rb) λh=>eO<|eZ<|cq<|rx
theorem JT{l r}(h:pP l=ac r):aB aaa 48 [.one (.s l)] (.tup [ei (k8 r.1),ei (jF r.2.1),qu r.2.2.1,qf5 r.2.2.2]) []:=by
 refine df f48 gi ?_;exact ag<|bh go 1 11 [] h B9 λo h=>jK go 1 13 [.obj 11 0] h EY λa h=>ag<|aU r l5 (λb c d e m f g a=>⟨[(2,.obj 2 0),(3,.obj 3 0),(4,.nil),(5,.nil),(6,.obj 11 0),(7,.obj 7 0),(8,.obj 8 0)],[(2,qf8),(3,[.nil]),(7,[.i a.1.fC.au,.i a.1.fC.aP,.i a.1.fC.aK,.i a.1.fC.aN,.own 459268,.own 459269,.own 459270,.own 459271,.own 459272,.own 459273,.own 459274,.i a.1.bk]),(8,[.i b,.i c,.i d,.i e]),(11,[.s m,.i f,.i g])],[(459268,ny a.1.fT.bl),(459269,cH a.1.bI),(459270,D6 a.1.bt),(459271,lS a.1.fN),(459272,oF a.1.fD),(459273,kE a.1.bj),(459274,qx a.1.cY)]⟩) (λb c d e m f g a h=>ag<|aU r pO (λb c d e j a=>⟨[(2,.obj 2 0),(3,.obj 3 0),(4,.nil),(5,.nil),(7,.obj 7 0),(8,.obj 8 0),(9,.obj 9 0)],[(2,qf8),(3,[.nil]),(7,[.i a.1.fC.au,.i a.1.fC.aP,.i a.1.fC.aK,.i a.1.fC.aN,bF a.1.fT.bl,.own 459269,.own 459270,.own 459271,.own 459272,.own 459273,.own 459274,.i a.1.bk]),(8,[.i b,.i c,.i d,.i e]),(9,[bF j])],[(459269,cH a.1.bI),(459270,D6 a.1.bt),(459271,lS a.1.fN),(459272,oF a.1.fD),(459273,kE a.1.bj),(459274,qx a.1.cY)]⟩) (λb c d e j a h=>ap<|bm [] 26 10 [(20608,.obj 7),(3072,.frz),(40960,.own 7),(4,.obj 2),(8,.obj 3),(256,.obj 8),(512,.obj 9)]<|ae<|ce)<|bh go 1 23 [.obj 11 0] h gW λn h=>aq h (λh=>cz [] []<|cS go 1 25 [.obj 11 0] h JS λk h=>ae<|HU (bY 9 0 1638400 3 1 [.own 1638400] (k.1.bl.map C') kr kr kr)<|HU (bY 7 4 459268 3 1 [.i a.1.fC.au,.i a.1.fC.aP,.i a.1.fC.aK,.i a.1.fC.aN,.own 459268,.own 459269,.own 459270,.own 459271,.own 459272,.own 459273,.own 459274,.i a.1.bk] (a.1.fT.bl.map C') kr kr kr)<|rx) λh=>aM<|HU (bY 9 0 459268 3 1 [.own 459268] (a.1.fT.bl.map C') kr kr kr)<|HU (Zi 7 4 459268 1 [.i a.1.fC.au,.i a.1.fC.aP,.i a.1.fC.aK,.i a.1.fC.aN,.own 459268,.own 459269,.own 459270,.own 459271,.own 459272,.own 459273,.own 459274,.i a.1.bk] (a.1.fT.bl.map C') kr kr kr)<|rx)<|bh go 1 17 [.obj 11 0] h gW λp h=>aq h (λh=>cz [] []<|cS go 1 19 [.obj 11 0] h JR λq h=>ra) λh=>aM<|rx
theorem ch{a c d r}(h:cy a c d=ac r):aB aaa 70 [V.i a,V.i c,V.i d] (V.b r) []:=by
 refine df f70 go ?_;exact ag<|aA<|ai 4 10 h (λh=>ae<|ce) λh=>ae<|ce
theorem JU{a r}(h:zA a=ac r):aB aaa 102 [ei (k8 a)] (V.b r) []:=by
 refine df Tryz.f102 go ?_;exact ag<|aA<|ah go 2 5 [] h ch λc h=>ai 1 6 h (λh=>ah go 2 9 [] h ch λd h=>ai 2 11 h (λh=>ah go 2 14 [] h ch λe h=>ai 2 16 h (λh=>ah go 2 19 [] h ch λf h=>ae<|ce) λh=>ae<|ce) λh=>ae<|ce) λh=>ae<|ce
theorem AY{a r}(h:se a=ac r):aB aaa 103 [ei (jF a)] (V.b r) []:=by
 refine df Tryz.f103 go ?_;refine ag<|aU r Aa (λa=>⟨[(1,.obj 1 0),(2,.b go)],[(1,[bF a.bl])],[]⟩) (λa h=>aA<|av 2 3 C' a.bl<|ah go 0 34 [] h ch λe h=>ae<|ce)<|aA<|av 2 3 C' a.bl<|ae<|cd<|b9 r iv (λa c=>⟨[(1,.obj 1 0),(2,.b go),(6,bF a.bl),(7,.i ((a.bl.length:Int))),(8,.i c)],[(1,[bF a.bl])],[]⟩) (λiR a c h=>?_) rx
 exact ag<|ap<|aq h (λh=>aM<|ap<|cd<|aA<|aV 1 3 1 C' h λf h _=>ae<|aU r (gR (iv iR)) (λa c d=>⟨[(1,.obj 1 0),(2,.b go),(6,bF a.bl),(7,.i ((a.bl.length:Int))),(8,.i c),(29,.b d)],[(1,[bF a.bl])],[]⟩) (λa c d h=>aq h (λh=>cx) λh=>eO<|eZ<|cq<|cz [] []<|ra)<|cz [] []<|ai 3 15 h (λh=>ai 4 19 h (λh=>ra) λh=>ai 3 22 h (λh=>ah go 3 26 [] h ch λg h=>ra) λh=>ra) λh=>ai 7 22 h (λh=>ah go 3 26 [] h ch λj h=>ra) λh=>ra) λh=>re
theorem vF{a c r}(h:pQ a c=ac r):aB aaa 104 [V.i a,V.i c] (V.b r) []:=by
 refine df Tryz.f104 go ?_;exact ag<|aA<|ah go 1 6 [] h ch λd h=>ai 1 7 h (λh=>ah go 3 11 [] h ch λe h=>ae<|ce) λh=>ae<|ce
theorem Lo{a r}(h:vV a=ac r):aB aaa 193 [ei (b6 a)] (V.b r) []:=by
 refine df Tryz.f193 go ?_;exact ag<|aA<|av 2 5 B' a.fB<|ae<|ce
theorem kS{a r}(h:cZ a=ac r):aB aaa 273 [OC a,.clo 193 []] (V.i r) []:=by
 refine df Tryz.f273 go ?_;refine ag<|mq r (dI) ⟨[(4,.i 0)],[],[]⟩ (λh=>cx)<|aA<|av 1 87 b6 a<|ae<|cd<|b9 r bN (λa b=>⟨[(0,iL a),(1,.clo 193 []),(4,.i 0),(7,.i ((a.length:Int))),(8,.i b)],[],[]⟩) (λcI a b h=>?_) rx
 exact ag<|ap<|aq h (λh=>aM<|ap<|cd<|ag<|aA<|aV 3 87 1 b6 h λc h _=>cS go 1 16 [.agg [.s c.fB]] h Lo λd h=>ae<|aq h (λh=>cx) λh=>eO<|eZ<|cq<|cz [] []<|ra) λh=>re
theorem jT{a r}(h:cN a=ac r):aB aaa 192 [OC a,.clo 193 []] (V.b r) []:=by
 refine df Tryz.f192 go ?_;exact ag<|jK go 2 7 [iL a,.clo 193 []] h kS λc h=>ce
theorem FT{c a r}(h:qM c a=ac r):aB aaa 105 [ei (jF c),OC a] (V.b r) []:=by
 refine df Tryz.f105 go ?_;exact ag<|aA<|av 1 87 b6 a<|av 2 3 C' c.bl<|ai 2 11 h (λh=>cS go 1 13 [iL a,.clo 193 []] h jT λd h=>ae<|ce) λh=>ae<|ce
theorem jL{a c r}(h:gz a c=ac r):aB aaa 124 [ei (jF a),V.i c] (V.b r) []:=by
 refine df Tryz.f124 go ?_;exact ag<|aA<|av 3 3 C' a.bl<|ah go 1 10 [] h ch λd h=>ae<|ce
theorem OI{a r}(h:Ab a=ac r):aB aaa 194 [V.i a] (V.w IP (aF r)) []:=by
 refine df Tryz.f194 gi ?_;exact ag<|cx
theorem S5{c a r}(h:Ac c a=ac r):aB aaa 313 [V.i c,V.i a] (V.i r) []:=by
 refine df Tryz.f313 go ?_;refine ag<|ap<|aU r yu (λc a e=>⟨[(0,.i c),(1,.i a),(4,.i 0),(12,.b e)],[],[]⟩) (λc a e h=>?_) ?_
 ·refine aq h (λh=>cx) λh=>aM<|aA<|am 5 kr ?_
  obtain ⟨_,d,h⟩:=aae h;exact iT .quo (.int .i64 (ew .i64 (aS .i64 c a) 1)) (.int .i64 a) (.int .i64 (Xf .i64 (ew .i64 (aS .i64 c a) 1) a)) rfl kr kr kr kr (qdQ _ _ _ _ (by simpa using ba d))<|ae<|ce
 exact cz [] []<|ah go 1 6 [] h ch λf h=>ai 2 8 h (λh=>ra) λh=>ah go 1 10 [] h ch λg h=>ra
theorem EZ{a b r}(h:uQ a b=ac r):aB aaa 243 [V.i a,V.i b] (V.i r) []:=by
 refine df Tryz.f243 go ?_;exact ag<|ap<|bh go 2 7 [] h vF λc h=>aq h (λh=>cx) λh=>aM<|bh go 2 11 [] h S5 λd h=>ce
theorem rA{a b c r}(h:kU a b c=ac r):aB aaa 163 [V.i a,V.i b,V.i c] (.tup [V.i r.1,V.i r.2]) []:=by
 refine df Tryz.f163 go ?_;exact ag<|ap<|aA<|ah go 3 11 [] h EZ λd h=>ah go 1 13 [] h ch λe h=>ae<|aq h (λh=>cx) λh=>aM<|cx
theorem m2{a r}(h:fZ a=ac r):mx aaa 171 [.one (.s a)] (qu r):=by
 refine bM (fn:=f171) (m:=gi) kr rfl kr kr kr<|ag<|aA<|am 1 kr<|cC (e:=5) B' a go 1 rfl rfl rfl kr kr kr kr ?_
 obtain ⟨_,b,h⟩:=aae h;obtain ⟨_,c,h⟩:=aae h;refine JH B' (0:Int) 5 5 1 1 0 ((a.length:Int)) rfl rfl kr kr kr kr kr kr (ba b) (of_decide_eq_true (ba c)) kr<|am 1 kr ?_
 obtain ⟨_,d,h⟩:=aae h;exact eF (y:=.ext go (.bb a)) B' 7 1 5 1 1 327680 (zQG (sY 0) (0:Int)) a rfl rfl rfl rfl kr kr kr kr kr (fM _ _ _) (.inl rfl) kr (of_decide_eq_true (ba d)) kr kr<|ae<|ce
theorem OJ{b a r}(h:Eh b a=ac r):aB aaa 342 [V.i b,V.i a] (V.i r) []:=by
 refine df Tryz.f342 go ?_;refine ag<|ap<|bh go 1 6 [] h ch λe h=>aq h (λh=>cx) λh=>aM<|aA<|am 2 kr ?_
 obtain ⟨_,c,h⟩:=aae h;refine iT .rem (.int .i64 b) (.int .i64 a) (.int .i64 (rU .i64 b a)) rfl kr kr kr kr (KT _ _ _ _ (by simpa using ba c))<|am 3 kr ?_
 obtain ⟨_,d,h⟩:=aae h;exact iT .rem (.int .i64 (aS .i64 (rU .i64 b a) a)) (.int .i64 a) (.int .i64 (rU .i64 (aS .i64 (rU .i64 b a) a) a)) rfl kr kr kr kr (KT _ _ _ _ (by simpa using ba d))<|ae<|ce
theorem Zp{a b r}(h:GP a b=ac r):aB aaa 324 [V.i a,V.i b] (V.i r) []:=by
 refine df Tryz.f324 go ?_;exact ag<|aA<|ah go 1 6 [] h OJ λc h=>ah go 1 8 [] h OJ λd h=>ae<|ce
theorem JV{a r}(h:uS a=ac r):aB aaa 272 [.one (.s a)] (V.i r) []:=by
 refine df Tryz.f272 go ?_;refine ag<|ag<|aU r uR (λb c=>⟨[(2,.i 0),(3,.i b),(4,.i c)],[],[]⟩) (λb c h=>bh go 2 25 [] h Zp λg h=>ce)<|aA<|av 1 5 B' a<|ae<|cd<|b9 r qO (λd e a f=>⟨[(2,.i 0),(3,.i d),(4,.i e),(7,.s a),(8,.i ((a.length:Int))),(9,.i f)],[],[]⟩) (λwU d e a f h=>?_) rx
 exact ag<|ap<|aq h (λh=>aM<|ap<|cd<|aA<|aV 0 5 1 B' h λj h _=>ae<|ag<|cz [] []<|dK<|cz [] []<|ra) λh=>re
theorem Gx{a r}(h:qf a=ac r):aB aaa 281 [.one (.s a)] (ei (bR r)) []:=by
 refine df Tryz.f281 go ?_;refine ag<|ap<|aA<|av 1 5 B' a<|ae<|aq h (λh=>cx) λh=>aM<|ag<|aU r xy (λa b=>⟨[(0,.s a),(2,.obj 2 0),(3,.i b)],[(2,[.i 0,.i 0])],[]⟩) (λa b h=>bh go 1 23 [] h JV λe h=>ce)<|aA<|av 1 5 B' a<|ae<|cd<|b9 r tH (λa c d=>⟨[(0,.s a),(2,.obj 2 0),(3,.i c),(10,.s a),(11,.i ((a.length:Int))),(12,.i d)],[(2,[.i 0,.i 0])],[]⟩) (λyX a c d h=>?_) rx
 exact ag<|ap<|aq h (λh=>aM<|ap<|cd<|aA<|aV 0 5 1 B' h λf h _=>ae<|cz [] []<|dK<|cz [] []<|ra) λh=>re
theorem AZ{a r}(h:l7 a=ac r):aB aaa 274 [ei (aE a)] (V.b r) []:=by
 refine df Tryz.f274 go ?_;exact ag<|aA<|ai 4 6 h (λh=>ai 5 11 h (λh=>ai 5 16 h (λh=>av 2 198 bR a.aI<|ae<|ce) λh=>ae<|ce) λh=>ae<|ce) λh=>ae<|ce
theorem S6{a r}(h:vX a=ac r):aB aaa 275 [V.i a] (.tup [qu r.1,V.b r.2]) []:=by
 refine df Tryz.f275 gi ?_;refine ag<|ag<|aU r s7 (λa c=>⟨[(0,.i a),(2,.nil),(3,.b go),(4,.i c)],[],[]⟩) (λa c h=>?_) ?_
 ·refine ap<|aU r pp (λa c s=>⟨[(0,.i a),(2,.nil),(3,.b go),(4,.i c),(26,.b s)],[],[]⟩) (λa c s h=>?_) ?_
  ·refine aq h (λh=>cx) λh=>aM<|aA<|am 1 kr ?_
   obtain ⟨_,n,h⟩:=aae h;obtain ⟨_,o,h⟩:=aae h;refine JH B' (0:Int) 28 5 1 1 c c rfl rfl kr kr kr kr kr kr (ba n) (of_decide_eq_true (ba o)) kr<|ae<|aU r CW (λk=>⟨[(2,.nil),(3,.b go),(5,.own 327681)],[],[(327681,cH k)]⟩) (λk h=>cx)<|aA<|av 1 5 B' (zQG (sY c) (0:Int))<|ae<|cd<|b9 r po (λa c f d=>⟨[(0,.i a),(2,.nil),(3,.b go),(4,.i c),(5,.own 327681),(30,.i (((zQG (sY c) (0:Int)).length:Int))),(31,.i d)],[],[(327681,cH f)]⟩) (λuB a c f d h=>?_) rx
   refine ag<|ap<|aq h (λh=>?_) (λh=>?_)
   ·refine aM<|ap<|cd<|ag<|cz [] []<|am 8 kr ?_
    obtain ⟨_,l,h⟩:=aae h;exact iT .shr (.int .i64 a) (.int .i64 (jD .i64 8 (ew .i64 (ew .i64 c 1) d))) (.int .i64 (ng .i64 a (jD .i64 8 (ew .i64 (ew .i64 c 1) d)))) rfl kr kr kr kr (Ov _ _ _ _ _ (ba l))<|bQ 1 5 1 327681 5 B' h λw h g=>iw (e:=5) (sz:=1) (m:=1) B' f 327681 (sY d) 0 (ld .u8 (ng .i64 a (jD .i64 8 (ew .i64 (ew .i64 c 1) d)))) (.t (.int .u8 (ld .u8 (ng .i64 a (jD .i64 8 (ew .i64 (ew .i64 c 1) d)))))) [.int .u8 (ld .u8 (ng .i64 a (jD .i64 8 (ew .i64 (ew .i64 c 1) d))))] rfl kr kr kr kr kr kr kr kr ((bL g).2) kr kr<|dK<|cz [] []<|ra
   exact re
  refine cz [] []<|ai 3 20 h (λh=>ra) λh=>am 3 kr ?_
  obtain ⟨_,p,h⟩:=aae h;exact iT .shr (.int .i64 a) (.int .i64 (jD .i64 8 c)) (.int .i64 (ng .i64 a (jD .i64 8 c))) rfl kr kr kr kr (Ov _ _ _ _ _ (ba p))<|ra
 refine cd<|b9 r jv (λa j=>⟨[(0,.i a),(2,.nil),(3,.b go),(4,.i j)],[],[]⟩) (λmQ a j h=>?_) rx
 refine ap<|aU r (s8 (jv mQ)) (λa j v=>⟨[(0,.i a),(2,.nil),(3,.b go),(4,.i j),(15,.b v)],[],[]⟩) (λa j v h=>aq h (λh=>aM<|cd<|cz [] []<|rb) λh=>re)<|cz [] []<|ai 3 9 h (λh=>?_) (λh=>?_)
 ·refine am 3 kr ?_;obtain ⟨_,q,h⟩:=aae h;exact iT .shr (.int .i64 a) (.int .i64 (jD .i64 8 j)) (.int .i64 (ng .i64 a (jD .i64 8 j))) rfl kr kr kr kr (Ov _ _ _ _ _ (ba q))<|ra
 exact ra
theorem Ca{a r}(h:uT a=ac r):aB aaa 195 [ei (aE a)] (V.b r) []:=by
 refine df Tryz.f195 go ?_;refine ag<|ap<|bh go 1 10 [] h AZ λk h=>aq h (λh=>cx) λh=>aM<|ap<|aU r xz (λf a=>⟨[(1,.obj 1 0),(2,.b go),(33,.b f)],[(1,((aE a).map .t))],[]⟩) (λf a h=>?_) ?_
 ·refine aq h (λh=>cx) λh=>aM<|mq r (Gm) ⟨[(2,.b go)],[],[]⟩ (λh=>cx)<|aA<|av 2 198 bR a.aI<|ae<|cd<|b9 r lM (λa c=>⟨[(1,.obj 1 0),(2,.b go),(35,rv a.aI),(36,.i ((a.aI.length:Int))),(37,.i c)],[(1,((aE a).map .t))],[]⟩) (λm7 a c h=>?_) rx
  exact ag<|ap<|aq h (λh=>aM<|ap<|cd<|aA<|aV 1 198 2 bR h λl h _=>ae<|bh go 2 45 [] h S6 λe h=>bh go 5 54 [] h rA λg h=>aU r (nC (lM m7)) (λa c d=>⟨[(1,.obj 1 0),(2,.b go),(35,rv a.aI),(36,.i ((a.aI.length:Int))),(37,.i c),(71,.b d)],[(1,((aE a).map .t))],[]⟩) (λa c d h=>aq h (λh=>cx) λh=>eO<|eZ<|cq<|cz [] []<|ra)<|bm [] 57 9 [(2846528,.frz),(266272,.own 45),(1048592,.obj 4)]<|ai 3 59 h (λh=>ra) λh=>av 1 5 B' e.1<|ai 4 65 h (λh=>ra) λh=>cT 1 67 h JV λj h=>ra) λh=>re
 exact bm [] 11 2 [(7040376,.frz),(1344134,.obj 1)]<|ah go 2 13 [] h ch λm h=>ai 2 15 h (λh=>ra) λh=>ah go 4 20 [] h vF λn h=>ai 3 23 h (λh=>ra) λh=>av 2 198 bR a.aI<|ah go 4 31 [] h EZ λo h=>ra
theorem rB{a r}(h:fZ a=ac r):aB aaa 171 [.one (.s a)] (qu r) []:=by
 refine df f171 gi ?_;refine ag<|aA<|av 1 5 B' a ?_
 obtain ⟨_,b,h⟩:=aae h;obtain ⟨_,c,h⟩:=aae h;exact JH B' (0:Int) 5 5 1 1 0 ((a.length:Int)) rfl rfl kr kr kr kr kr kr (ba b) (of_decide_eq_true (ba c)) kr<|bg 1 7 5 1 327680 B' h λh=>ae<|ce
theorem Xk{a c d r}(h:Es a c d=ac r):aB aaa 322 [.one (.s a),V.i c,V.i d] (.tup [qu r.1,V.b r.2]) []:=by
 refine df Tryz.f322 gi ?_;refine ag<|ap<|aU r B4 (λa c d g=>⟨[(0,.s a),(1,.i c),(2,.i d),(6,.nil),(7,.b go),(21,.b g)],[],[]⟩) (λa c d g h=>?_) ?_
 ·refine aq h (λh=>cx) λh=>aM<|aA<|am 5 kr ?_
  obtain ⟨_,f,h⟩:=aae h;exact eg (e:=5) (ax:=.s a) (alo:=(ac (.i c))) (ahi:=(ac (.i (aS .i64 c d)))) B' a 1 c (aS .i64 c d) rfl kr kr kr kr kr kr kr kr kr kr kr (ba f)<|ah go 0 28 [] h rB λj h=>ae<|ce
 exact cz [] []<|av 2 5 B' a<|ah go 0 11 [] h ch λk h=>ai 2 13 h (λh=>ra) λh=>av 2 5 B' a<|ah go 2 19 [] h ch λl h=>ra
theorem S7{a c d r}(h:vW a c d=ac r):aB aaa 280 [.one (.s a),V.i c,V.i d] (.tup [qu r.1,V.b r.2]) []:=by
 refine df Tryz.f280 gi ?_;exact ag<|aA<|av 2 5 B' a<|ah go 1 15 [] h rA λe h=>ae<|ap<|ag<|aq h (λh=>cx) λh=>aM<|bh go 3 23 [] h Xk λf h=>ce
theorem JW{a b r}(h:zB a b=ac r):aB aaa 199 [.one (.s a),V.i b] (qa6 r) []:=by
 refine df Tryz.f199 gi ?_;refine ag<|ag<|aU r Et (λc=>⟨[(4,.nil),(5,.own 327681)],[],[(327681,qw c)]⟩) (λc h=>cx)<|aA<|av 2 5 B' a<|ah go 0 13 [] h EZ λd h=>ae<|cd<|b9 r qP (λa b e d f=>⟨[(0,.s a),(1,.i b),(4,.nil),(5,.own 327681),(13,.i d),(14,.i f)],[],[(327681,qw e)]⟩) (λwT a b e d f h=>?_) rx
 exact ag<|ap<|aq h (λh=>aM<|ap<|cd<|ag<|bh go 3 21 [] h S7 λj h=>cz [] []<|cT 2 26 h Gx λg h=>bg (ys:=[g]) 1 28 198 2 327681 bR h λh=>dK<|cz [] []<|ra) λh=>re
theorem nM{a c r}(h:ey a c=ac r):aB aaa 217 [Sg a,Sg c] (V.b r) []:=by
 refine df Tryz.f217 go ?_;refine ag<|ap<|aA<|av 1 198 bR a<|av 1 198 bR c<|ae<|aq h (λh=>cx) λh=>aM<|mq r (jf) ⟨[(4,.b go)],[],[]⟩ (λh=>cx)<|aA<|av 1 198 bR a<|ae<|cd<|b9 r dS (λa c d=>⟨[(0,rv a),(1,rv c),(4,.b go),(12,.i ((a.length:Int))),(13,.i d)],[],[]⟩) (λfU a c d h=>?_) rx
 exact ag<|ap<|aq h (λh=>aM<|ap<|cd<|ag<|ap<|bm [] 16 6 [(16355,.frz)]<|aV 2 198 2 bR h λe h _=>aV 3 198 2 bR h λf h _=>ae<|aq h (λh=>cx) λh=>eO<|eZ<|cq<|cz [] []<|ra) λh=>re
theorem Xl{c a r}(h:Eu c a=ac r):aB aaa 196 [ei (aE c),.one (.s a)] (V.b r) []:=by
 refine df Tryz.f196 go ?_;exact ag<|ap<|bm [] 5 3 [(84954,.frz),(9252,.obj 2),(4096,.own 14)]<|av 1 5 B' a<|ai 4 10 h (λh=>ah go 3 14 [] h JW λd h=>cT 2 17 h nM λe h=>ae<|ce) λh=>ae<|ce
theorem nN{a r}(h:fv a=ac r):aB aaa 276 [Sg a] (qa6 r) []:=by
 refine B8 (fn:=Tryz.f276) (m:=gi) kr rfl kr (by decide) kr (λhn=>?_) ?_
 ·have hp:a=[]:=by simpa using hn
  subst hp;have h:ac ([]:List dR)=ac r:=h;exact ag<|kD ⟨[(0,.nil),(2,.nil)],[],[]⟩<|ap<|ag<|kD ⟨[(0,.nil),(2,.nil),(4,.b gi)],[],[]⟩<|Ow kr<|ag<|kD ⟨[(0,.nil),(2,.nil)],[],[]⟩<|ce
 exact ag<|kD ⟨[(0,.nn 2 (a.map bR)),(2,.nil)],[],[]⟩<|ap<|ag<|kD ⟨[(0,.nn 2 (a.map bR)),(2,.nil),(4,.b go)],[],[]⟩<|Ox kr<|aM<|Wp.le (Uv 0 2 (a.map bR) rfl rfl)<|kD ⟨[(0,rv a),(2,.nil),(4,.b go)],[],[]⟩<|aA<|bg 2 7 198 2 327680 bR h λh=>ae<|kD ⟨[(2,.own 458752)],[],[(458752,.live 198 2 (((([]:List dR))++a).map bR))]⟩<|ce
theorem xi{a r}(h:fv a=ac r):mx aaa 276 [Sg a] (qa6 r):=FQ (nN h) (λ_=>rfl)
theorem QC{a r}(h:pR a=ac r):mx aaa 197 [ei (aE a)] (V.w EV (aE r)):=bM (fn:=f197) (m:=gi) kr rfl kr kr kr<|ag<|aA<|bw 2 5 h xi λb h=>ae<|cx
theorem S8{a c b r}(h:Ad a c b=ac r):aB aaa 325 [.one (.s a),ei (bR c),V.i b] (V.i r) []:=by
 refine df Tryz.f325 go ?_;refine ag<|ap<|bh go 1 9 [] h ch λg h=>aq h (λh=>cx) λh=>aM<|mq r (CY) ⟨[(6,.i 0)],[],[]⟩ (λh=>cx)<|ag<|cd<|b9 r mX (λa b d c=>⟨[(0,.s a),(2,.i b),(4,.obj 4 0),(6,.i 0),(7,.i d)],[(4,[.i c.fW,.i c.fS])],[]⟩) (λuC a b d c h=>?_) rx
 refine ap<|aA<|av 4 5 B' a<|ae<|aq h (λh=>?_) (λh=>?_)
 ·refine aM<|ap<|cd<|ap<|bm [] 19 8 [(65413,.frz),(16,.obj 4)]<|am 5 kr ?_
  obtain ⟨_,f,h⟩:=aae h;exact eg (e:=5) (ax:=.s a) (alo:=(ac (.i d))) (ahi:=(ac (.i (aS .i64 d b)))) B' a 1 d (aS .i64 d b) rfl kr kr kr kr kr kr kr kr kr kr kr (ba f)<|ah go 0 25 [] h Gx λj h=>ae<|aq h (λh=>cx) λh=>eO<|eZ<|cq<|cz [] []<|ra
 exact re
theorem S9{a b c r}(h:v5 a b c=ac r):aB aaa 278 [.one (.s a),ei (aE b),V.i c] (V.i r) []:=by
 refine df Tryz.f278 go ?_;exact ag<|bh go 5 15 [] h rA λe h=>ap<|aA<|av 3 198 bR b.aI<|ah go 1 23 [] h ch λf h=>ae<|aq h (λh=>cx) λh=>aM<|aA<|aV 4 198 2 bR h λd h _=>ah go 2 32 [.s a,.agg [.i d.fW,.i d.fS]] h S8 λg h=>ae<|ce
theorem QD{a c r}(h:tG a c=ac r):aB aaa 106 [ei (jF a),V.i c] (V.w IP (aF r)) []:=by
 refine df Tryz.f106 gi ?_;exact ag<|ap<|aU r qN (λc d a=>⟨[(1,.i c),(2,.obj 2 0),(4,.obj 4 0),(17,.b d)],[(2,[bF a.bl]),(4,Vs)],[]⟩) (λc d a h=>aq h (λh=>cx) λh=>aM<|aA<|aV 3 3 1 C' h λe h _=>ah go 1 24 [] h OI λf h=>ae<|ce)<|cz [] []<|cS go 1 6 [.agg [bF a.bl]] h AY λg h=>ai 2 8 h (λh=>ra) λh=>ai 4 12 h (λh=>ra) λh=>ah go 2 15 [.agg [bF a.bl]] h jL λj h=>ra
theorem LG{c a d r}(h:zd c a d=ac r):aB aaa 108 [V.i c,.one (.s a),V.i d] (V.w EV (aE r)) []:=by
 refine df Tryz.f108 gi ?_;exact ag<|ap<|aU r B5 (λc a d e=>⟨[(0,.i c),(1,.s a),(2,.i d),(6,.obj 6 0),(16,.b e)],[(6,uq)],[]⟩) (λc a d e h=>aq h (λh=>cx) λh=>aM<|aA<|av 3 5 B' a<|ah go 2 24 [] h JW λf h=>ae<|ce)<|cz [] []<|ah go 1 8 [] h ch λg h=>ai 2 10 h (λh=>ra) λh=>av 2 5 B' a<|ah go 0 14 [] h vF λj h=>ra
theorem Ta{a r}(h:pR a=ac r):aB aaa 197 [ei (aE a)] (V.w EV (aE r)) []:=by
 refine df f197 gi ?_;exact ag<|bh go 2 5 [] h nN λb h=>cx
theorem QE{a r}(h:xA a=ac r):aB aaa 277 [ei (aE a)] (V.w [0,5] (d9 r)) []:=by
 refine df Tryz.f277 gi ?_;refine ag<|ap<|bh go 1 4 [] h Ca λd h=>aq h (λh=>cx) λh=>aM<|aA<|am 2 kr ?_
 obtain ⟨_,b,h⟩:=aae h;obtain ⟨_,c,h⟩:=aae h;exact JH B' (0:Int) 9 5 1 1 a.aT a.aT rfl rfl kr kr kr kr kr kr (ba b) (of_decide_eq_true (ba c)) kr<|ae<|ce
theorem Gy{b c d r}(h:pS b c d=ac r):R6 aaa 326 5 [.int .i64 b.bc] (b.bE.map B') [ei (aE c),V.i d] (sY r.1) (sY (r.2 - r.1)):=by
 refine obw Tryz.f326 [.agg ((aE c).map .t),.i d] ?_ (qhB _ _);refine ag<|bh go 5 15 [] h rA λa h=>Zh [] [(24,.win 900)]<|am 6 kr ?_
 obtain ⟨_,f,h⟩:=aae h;exact qeR (e:=5) (e':=5) (alo:=(ac (.i a.1))) (ahi:=(ac (.i (aS .i64 a.1 a.2)))) B' b.bE 58982400 a.1 (aS .i64 a.1 a.2) rfl kr kr kr kr kr rfl kr kr kr kr kr kr (ba f)<|ae<|Wp.ret<|by cases h;exact qj0
theorem MG{a g b f r}(h:pq a g b f=ac r):aB aaa 279 [.ptr (cw [0,5] (d9 a)),ei (aE g),V.i b,.one (.s f)] (.tup []) [cw [0,5] (d9 r)]:=by
 refine df Tryz.f279 go ?_;refine ag<|ap<|bm [] 8 6 [(5644,.frz),(193,.obj 900),(32,.obj 5),(256,.own 900),(2048,.win 900)]<|am 5 kr ?_
 obtain ⟨j,c,h⟩:=aae h;refine qhF 0 13 58982401 [.int .i64 a.bc] (a.bE.map B') [.agg ((aE g).map .t),.i b] (Gy c)<|am 1 kr ?_
 obtain ⟨_,d,h⟩:=aae h;refine qcE (y:=.s f) (e:=5) (e':=5) B' a.bE f 58982401 (sY j.1) (sY (j.2 - j.1)) 1 rfl rfl rfl kr kr kr kr kr (.inl rfl) kr kr kr (qjY (ba d)) (qjZ (ba d))<|ae<|bm [] 16 3 [(3129,.obj 900),(964,.frz)]<|am 5 kr ?_
 obtain ⟨_,k,h⟩:=aae h;exact iT .shl (.int .i64 1) (.int .i64 b) (.int .i64 (mm .i64 1 b)) rfl kr kr kr kr (D5 _ _ _ _ _ (ba k))<|ab.all kr<|by cases h;exact Oz
theorem OK{a b r}(h:uU a b=ac r):aB aaa 198 [ei (aE a),.one (.s b)] (V.w [0,5] (d9 r)) []:=by
 refine df Tryz.f198 gi ?_;refine ag<|bh go 1 11 [] h QE λq h=>ap<|bh go 1 13 [] h Ca λv h=>aq h (λh=>cx) λh=>aM<|aU r Ae (λd f=>⟨[(4,.obj 4 0),(5,.obj 5 0)],[(4,JM),(5,[.i d,.own 328193])],[(328193,cH f)]⟩) (λd f h=>cx)<|aA<|av 2 198 bR a.aI<|ae<|cd<|b9 r iZ (λb a g n o=>⟨[(1,.s b),(2,.obj 2 0),(4,.obj 4 0),(5,.obj 5 0),(18,.i ((a.aI.length:Int))),(19,.i g)],[(2,((aE a).map .t)),(4,JM),(5,[.i n,.own 328193])],[(328193,cH o)]⟩) (λkP b a g n o h=>?_) rx
 refine ag<|ap<|aq h (λh=>?_) (λh=>?_)
 ·refine aM<|aU r (mA (iZ kP)) (λb a g j k=>⟨[(1,.s b),(2,.obj 2 0),(4,.obj 4 0),(5,.obj 5 0),(18,.i ((a.aI.length:Int))),(19,.i g)],[(2,((aE a).map .t)),(4,JM),(5,[.i j,.own 328193])],[(328193,cH k)]⟩) (λb a g j k h=>cz [] []<|ra)<|cd<|ag<|bh go 5 28 [] h rA λl h=>bh go 3 34 [] h S9 λc h=>ag<|aq h (λh=>?_) (λh=>?_)
  ·refine bm [] 37 10 [(261954,.frz),(4,.obj 2),(32,.obj 5)]<|am 7 kr ?_
   obtain ⟨_,m,h⟩:=aae h;exact eg (e:=5) (ax:=.s b) (alo:=(ac (.i c))) (ahi:=(ac (.i (aS .i64 c l.2)))) B' b 1 c (aS .i64 c l.2) rfl kr kr kr kr kr kr kr kr kr kr kr (ba m)<|ah gi 0 45 [.obj 5 0] h MG λp h=>rb
  exact eO<|eZ<|cq<|rx
 exact re
theorem QF{a c r}(h:tI a c=ac r):aB aaa 107 [ei (aE a),.one (.s c)] (V.w IP (aF r)) []:=by
 refine df Tryz.f107 gi ?_;exact ag<|ap<|aU r qQ (λc d a=>⟨[(1,.s c),(2,.obj 2 0),(4,.obj 4 0),(18,.b d)],[(2,((aE a).map .t)),(4,Vs)],[]⟩) (λc d a h=>aq h (λh=>cx) λh=>aM<|ap<|bm [] 20 5 [(418,.frz),(4,.obj 2),(16,.obj 4),(64,.own 21),(512,.own 24)]<|ah go 1 21 [] h Ta λe h=>ah go 2 24 [] h OK λf h=>ae<|ce)<|cz [] []<|ai 4 8 h (λh=>ra) λh=>ah go 1 10 [] h Ca λg h=>ai 3 13 h (λh=>ra) λh=>ah go 2 16 [] h Xl λi h=>ra
theorem LH{a r}(h:Bw a=ac r):aB aaa 200 [V.i a] (V.b r) []:=by
 refine df Tryz.f200 go ?_;exact ag<|bh go 1 4 [] h ch λc h=>ce
theorem Tc{c a r}(h:v6 c a=ac r):aB aaa 109 [V.i c,.one (.s a)] (V.w oG (aC r)) []:=by
 refine df Tryz.f109 gi ?_;exact ag<|ap<|aU r s9 (λc a d=>⟨[(0,.i c),(1,.s a),(4,.obj 4 0),(12,.b d)],[(4,lJ)],[]⟩) (λc a d h=>aq h (λh=>cx) λh=>aM<|aA<|ah go 1 15 [] h rB λe h=>av 2 5 B' a<|ae<|ce)<|cz [] []<|ah go 1 6 [] h LH λf h=>ai 2 8 h (λh=>ra) λh=>av 1 5 B' a<|ra
theorem Fs{a r}(h:km a=ac r):aB aaa 170 [OB a] (IM r) []:=by
 refine B8 (fn:=Tryz.f170) (m:=gi) kr rfl kr (by decide) kr (λhn=>?_) ?_
 ·have hp:a=[]:=by simpa using hn
  subst hp;have h:ac ([]:gs)=ac r:=h;exact ag<|kD ⟨[(0,.nil),(2,.nil)],[],[]⟩<|ap<|ag<|kD ⟨[(0,.nil),(2,.nil),(4,.b gi)],[],[]⟩<|Ow kr<|ag<|kD ⟨[(0,.nil),(2,.nil)],[],[]⟩<|ce
 exact ag<|kD ⟨[(0,.nn 1 (a.map C')),(2,.nil)],[],[]⟩<|ap<|ag<|kD ⟨[(0,.nn 1 (a.map C')),(2,.nil),(4,.b go)],[],[]⟩<|Ox kr<|aM<|Wp.le (Uv 0 1 (a.map C') rfl rfl)<|kD ⟨[(0,bF a),(2,.nil),(4,.b go)],[],[]⟩<|aA<|bg 2 7 3 1 327680 C' h λh=>ae<|kD ⟨[(2,.own 458752)],[],[(458752,.live 3 1 (((([]:gs))++a).map C'))]⟩<|ce
theorem E2{a r}(h:km a=ac r):mx aaa 170 [OB a] (IM r):=FQ (Fs h) (λ_=>rfl)
theorem Lp{a r}(h:pr a=ac r):mx aaa 176 [ei (ay a)] (V.w [0,0,5] (ay r)):=bM (fn:=Tryz.f176) (m:=gi) kr rfl kr kr kr<|ag<|aA<|bw 2 5 h m2 λb h=>ae<|cx
theorem JX{a r}(h:qR a=ac r):mx aaa 172 [OD a] (qf6 r):=by
 refine bM (fn:=Tryz.f172) (m:=gi) kr rfl kr kr kr<|ag<|ag<|aU r w9 (λd=>⟨[(2,.nil),(3,.own 196609)],[],[(196609,kE d)]⟩) (λd h=>cx)<|aA<|am 1 kr<|cC (e:=108) ay a go 3 rfl rfl rfl kr kr kr kr<|ae<|cd<|b9 r kN (λf a c=>⟨[(2,.nil),(3,.own 196609),(7,o8 a),(8,.i ((a.length:Int))),(9,.i c)],[],[(196609,kE f)]⟩) (λo4 f a c h=>?_) rx
 refine ag<|ap<|aq h (λh=>?_) (λh=>?_)
 ·refine aM<|ap<|cd<|aA ?_
  obtain ⟨j,b,h⟩:=aae h;exact dU (e:=108) (kk:=.i64) (sz:=3) ay a c go rfl kr kr kr kr kr kr b<|ae<|cz [] []<|bw 2 15 h Lp λg h=>bg (ys:=[g]) 1 17 108 3 196609 ay h λh=>dK<|cz [] []<|ra
 exact re
theorem wI{a r}(h:fe a=ac r):aB aaa 173 [.one (.t (.sl 3 (a.map dO)))] (.one (.ow 95 3 (r.map dO))) []:=by
 refine B8 (fn:=Tryz.f173) (m:=gi) kr rfl kr (by decide) kr (λhn=>?_) ?_
 ·have hp:a=[]:=by simpa using hn
  subst hp;have h:ac ([]:List eJ)=ac r:=h;exact ag<|kD ⟨[(0,.nil),(2,.nil)],[],[]⟩<|ap<|ag<|kD ⟨[(0,.nil),(2,.nil),(4,.b gi)],[],[]⟩<|Ow kr<|ag<|kD ⟨[(0,.nil),(2,.nil)],[],[]⟩<|ce
 exact ag<|kD ⟨[(0,.nn 3 (a.map dO)),(2,.nil)],[],[]⟩<|ap<|ag<|kD ⟨[(0,.nn 3 (a.map dO)),(2,.nil),(4,.b go)],[],[]⟩<|Ox kr<|aM<|Wp.le (Uv 0 3 (a.map dO) rfl rfl)<|kD ⟨[(0,Vr a),(2,.nil),(4,.b go)],[],[]⟩<|aA<|bg 2 7 95 3 327680 dO h λh=>ae<|kD ⟨[(2,.own 458752)],[],[(458752,.live 95 3 (((([]:List eJ))++a).map dO))]⟩<|ce
theorem vG{a r}(h:fe a=ac r):mx aaa 173 [.one (.t (.sl 3 (a.map dO)))] (.one (.ow 95 3 (r.map dO))):=FQ (wI h) (λ_=>rfl)
theorem MH{a r}(h:uV a=ac r):mx aaa 254 [ei (d9 a)] (V.w [0,5] (d9 r)):=bM (fn:=Tryz.f254) (m:=gi) kr rfl kr kr kr<|ag<|ap<|bm [] 0 0 [(42,.obj 1),(80,.frz),(384,.own 7),(4,.obj 2)]<|bw 4 7 h m2 λb h=>ae<|ce
theorem xY{a r}(h:ez a=ac r):aB aaa 255 [FR a] (qa7 r) []:=by
 refine B8 (fn:=Tryz.f255) (m:=gi) kr rfl kr (by decide) kr (λhn=>?_) ?_
 ·have hp:a=[]:=by simpa using hn
  subst hp;have h:ac ([]:List bV)=ac r:=h;exact ag<|kD ⟨[(0,.nil),(2,.nil)],[],[]⟩<|ap<|ag<|kD ⟨[(0,.nil),(2,.nil),(4,.b gi)],[],[]⟩<|Ow kr<|ag<|kD ⟨[(0,.nil),(2,.nil)],[],[]⟩<|ce
 exact ag<|kD ⟨[(0,.nn 5 (a.map bA)),(2,.nil)],[],[]⟩<|ap<|ag<|kD ⟨[(0,.nn 5 (a.map bA)),(2,.nil),(4,.b go)],[],[]⟩<|Ox kr<|aM<|Wp.le (Uv 0 5 (a.map bA) rfl rfl)<|kD ⟨[(0,ry a),(2,.nil),(4,.b go)],[],[]⟩<|aA<|bg 2 7 154 5 327680 bA h λh=>ae<|kD ⟨[(2,.own 458752)],[],[(458752,.live 154 5 (((([]:List bV))++a).map bA))]⟩<|ce
theorem xj{a r}(h:ez a=ac r):mx aaa 255 [FR a] (qa7 r):=FQ (xY h) (λ_=>rfl)
theorem OL{a r}(h:tJ a=ac r):mx aaa 174 [ei (aF a)] (V.w IP (aF r)):=bM (fn:=Tryz.f174) (m:=gi) kr rfl kr kr kr<|ag<|ap<|bm [] 1 0 [(14629,.obj 1),(584,.frz),(16,.own 5),(128,.own 8),(1024,.own 11)]<|bw 2 5 h QC λb h=>bw 2 8 h MH λc h=>bw 2 11 h xj λd h=>ae<|cx
theorem QG{a r}(h:sC a=ac r):mx aaa 256 [ei (br a)] (V.w qa8 (br r)):=bM (fn:=Tryz.f256) (m:=gi) kr rfl kr kr kr<|ag<|aA<|bw 2 5 h m2 λb h=>ae<|cx
theorem OM{a r}(h:lN a=ac r):mx aaa 175 [ei (aC a)] (V.w oG (aC r)):=by
 refine bM (fn:=Tryz.f175) (m:=gi) kr rfl kr kr kr<|ag<|ap<|bm [] 6 4 [(1170,.obj 1),(2336,.frz),(8,.obj 3),(64,.own 8),(512,.own 11)]<|bw 2 8 h m2 λb h=>bw 2 11 h m2 λc h=>ae<|aU r v7 (λb c a d=>⟨[(2,.obj 2 0),(3,.obj 3 0)],[(2,lJ),(3,[.own 197120,.own 197121,.i a.fR.aR,.i a.fR.bW,.i a.fR.aT,.own 197125])],[(197120,cH b),(197121,cH c),(197125,ru d)]⟩) (λb c a d h=>cx)<|aA<|am 2 kr<|cC (e:=139) br a.fP go 6 rfl rfl rfl kr kr kr kr<|ae<|cd<|b9 r jH (λa g b c k=>⟨[(2,.obj 2 0),(3,.obj 3 0),(16,qf7 a.fP),(17,.i ((a.fP.length:Int))),(18,.i g)],[(2,lJ),(3,[.own 197120,.own 197121,.i a.fR.aR,.i a.fR.bW,.i a.fR.aT,.own 197125])],[(197120,cH b),(197121,cH c),(197125,ru k)]⟩) (λoS a g b c k h=>?_) (HU (JK 3 5 197125 139 6)<|rx)
 refine ag<|ap<|aq h (λh=>?_) (λh=>?_)
 ·refine aM<|ap<|cd<|aA ?_
  obtain ⟨l,f,h⟩:=aae h;exact dU (e:=139) (kk:=.i64) (sz:=6) br a.fP g go rfl kr kr kr kr kr kr f<|ae<|bm [] 22 6 [(4168,.obj 3),(32,.obj 5),(128,.own 3),(256,.frz),(512,.own 25),(1024,.own 26),(2048,.own 27)]<|bw 3 25 h QG λj h=>bg (ys:=[j]) 1 27 139 6 197125 br h λh=>dK<|cz [] []<|ra
 exact re
theorem MI{a r}(h:uW a=ac r):mx aaa 90 [ei (a9 a)] (V.w Vt (a9 r)):=by
 refine bM (fn:=f90) (m:=gi) kr rfl kr kr kr<|ag<|ap<|bm [] 10 4 [(1198290,.obj 1),(2396448,.frz),(1536,.own 15),(8,.obj 3),(8192,.own 19),(65536,.own 22),(524288,.own 25)]<|bw 5 15 h E2 λc h=>bw 3 19 h m2 λd h=>bw 2 22 h JX λf h=>bw 2 25 h vG λg h=>ae<|aU r ug (λa c d b f g=>⟨[(1,.obj 1 0),(2,.obj 2 0),(3,.obj 3 0)],[(1,[.i a.fC.au,.i a.fC.aP,.i a.fC.aK,.i a.fC.aN,AW a.fT.bl,.ext go (.bb a.bI),EU a.bt,AX a.fN,xW a.fD,o8 a.bj,vB a.cY,.i a.bk]),(2,li),(3,[.i a.fC.au,.i a.fC.aP,.i a.fC.aK,.i a.fC.aN,.own 197124,.own 197125,.own 197126,.nil,.nil,.own 197129,.own 197130,.i a.bk])],[(197124,ny c),(197125,cH d),(197126,D6 b),(197129,kE f),(197130,qx g)]⟩) (λa c d b f g h=>?_) ?_
 ·refine aU r uf (λa c d b j f g=>⟨[(1,.obj 1 0),(2,.obj 2 0),(3,.obj 3 0)],[(1,[.i a.fC.au,.i a.fC.aP,.i a.fC.aK,.i a.fC.aN,AW a.fT.bl,.ext go (.bb a.bI),EU a.bt,AX a.fN,xW a.fD,o8 a.bj,vB a.cY,.i a.bk]),(2,li),(3,[.i a.fC.au,.i a.fC.aP,.i a.fC.aK,.i a.fC.aN,.own 197124,.own 197125,.own 197126,.own 197127,.nil,.own 197129,.own 197130,.i a.bk])],[(197124,ny c),(197125,cH d),(197126,D6 b),(197127,lS j),(197129,kE f),(197130,qx g)]⟩) (λa c d b j f g h=>?_) ?_
  ·refine aU r Af (λa c d b j q f g=>⟨[(2,.obj 2 0),(3,.obj 3 0)],[(2,li),(3,[.i a.fC.au,.i a.fC.aP,.i a.fC.aK,.i a.fC.aN,.own 197124,.own 197125,.own 197126,.own 197127,.own 197128,.own 197129,.own 197130,.i a.bk])],[(197124,ny c),(197125,cH d),(197126,D6 b),(197127,lS j),(197128,oF q),(197129,kE f),(197130,qx g)]⟩) (λa c d b j q f g h=>cx)<|aA<|am 2 kr<|cC (e:=61) aC a.fD go 6 rfl rfl rfl kr kr kr kr<|ae<|cd<|b9 r mB (λa k c d b j s f g=>⟨[(2,.obj 2 0),(3,.obj 3 0),(62,xW a.fD),(63,.i ((a.fD.length:Int))),(64,.i k)],[(2,li),(3,[.i a.fC.au,.i a.fC.aP,.i a.fC.aK,.i a.fC.aN,.own 197124,.own 197125,.own 197126,.own 197127,.own 197128,.own 197129,.own 197130,.i a.bk])],[(197124,ny c),(197125,cH d),(197126,D6 b),(197127,lS j),(197128,oF s),(197129,kE f),(197130,qx g)]⟩) (λqz a k c d b j s f g h=>?_) (HU (JK 3 8 197128 61 6)<|rx)
   refine ag<|ap<|aq h (λh=>?_) (λh=>?_)
   ·refine aM<|ap<|cd<|aA ?_
    obtain ⟨B,l,h⟩:=aae h;exact dU (e:=61) (kk:=.i64) (sz:=6) aC a.fD k go rfl kr kr kr kr kr kr l<|ae<|bm [] 68 10 [(66568,.obj 3),(512,.obj 9),(2048,.own 3),(4096,.frz),(8192,.own 71),(16384,.own 72),(32768,.own 73)]<|bw 3 71 h OM λv h=>bg (ys:=[v]) 1 73 61 6 197128 aC h λh=>dK<|cz [] []<|ra
   exact re
  refine aA<|am 2 kr<|cC (e:=82) aF a.fN go 12 rfl rfl rfl kr kr kr kr<|ae<|cd<|b9 r mC (λa n c d b t f g=>⟨[(1,.obj 1 0),(2,.obj 2 0),(3,.obj 3 0),(47,AX a.fN),(48,.i ((a.fN.length:Int))),(49,.i n)],[(1,[.i a.fC.au,.i a.fC.aP,.i a.fC.aK,.i a.fC.aN,AW a.fT.bl,.ext go (.bb a.bI),EU a.bt,AX a.fN,xW a.fD,o8 a.bj,vB a.cY,.i a.bk]),(2,li),(3,[.i a.fC.au,.i a.fC.aP,.i a.fC.aK,.i a.fC.aN,.own 197124,.own 197125,.own 197126,.own 197127,.nil,.own 197129,.own 197130,.i a.bk])],[(197124,ny c),(197125,cH d),(197126,D6 b),(197127,lS t),(197129,kE f),(197130,qx g)]⟩) (λqA a n c d b t f g h=>?_) (HU (JK 3 7 197127 82 12)<|rx)
  refine ag<|ap<|aq h (λh=>?_) (λh=>?_)
  ·refine aM<|ap<|cd<|aA ?_
   obtain ⟨C,o,h⟩:=aae h;exact dU (e:=82) (kk:=.i64) (sz:=12) aF a.fN n go rfl kr kr kr kr kr kr o<|ae<|bm [] 53 8 [(16648,.obj 3),(128,.obj 7),(512,.own 3),(1024,.frz),(2048,.own 56),(4096,.own 57),(8192,.own 58)]<|bw 3 56 h OL λx h=>bg (ys:=[x]) 1 58 82 12 197127 aF h λh=>dK<|cz [] []<|ra
  exact re
 refine aA<|am 2 kr<|cC (e:=87) b6 a.bt go 1 rfl rfl rfl kr kr kr kr<|ae<|cd<|b9 r mD (λa y c d A f g=>⟨[(1,.obj 1 0),(2,.obj 2 0),(3,.obj 3 0),(30,EU a.bt),(31,.i ((a.bt.length:Int))),(32,.i y)],[(1,[.i a.fC.au,.i a.fC.aP,.i a.fC.aK,.i a.fC.aN,AW a.fT.bl,.ext go (.bb a.bI),EU a.bt,AX a.fN,xW a.fD,o8 a.bj,vB a.cY,.i a.bk]),(2,li),(3,[.i a.fC.au,.i a.fC.aP,.i a.fC.aK,.i a.fC.aN,.own 197124,.own 197125,.own 197126,.nil,.nil,.own 197129,.own 197130,.i a.bk])],[(197124,ny c),(197125,cH d),(197126,D6 A),(197129,kE f),(197130,qx g)]⟩) (λqB a y c d A f g h=>?_) (HU (JK 3 6 197126 87 1)<|rx)
 refine ag<|ap<|aq h (λh=>?_) (λh=>?_)
 ·refine aM<|ap<|cd<|aA ?_
  obtain ⟨D,p,h⟩:=aae h;exact dU (e:=87) (kk:=.i64) (sz:=1) b6 a.bt y go rfl kr kr kr kr kr kr p<|ae<|bm [] 36 6 [(16456,.obj 3),(288,.obj 5),(3072,.own 40),(128,.own 3),(512,.frz),(4096,.own 42),(8192,.own 43)]<|bw 4 40 h m2 λz h=>bg (ys:=[(aX.mk z)]) 2 43 87 1 197126 b6 h λh=>dK<|cz [] []<|ra
 exact re
theorem QH{a c d e r}(h:nD a c d e=ac r):aB aaa 49 [ei (k8 a),ei (jF c),.one (.s d),OC e] (V.w Vt (a9 r)) []:=by
 refine df f49 gi ?_;refine ag<|ap<|aU r lr (λd e I a c=>⟨[(2,.s d),(3,iL e),(4,.obj 4 0),(5,.obj 5 0),(8,.obj 8 0),(33,.b I)],[(4,((k8 a).map .t)),(5,[bF c.bl]),(8,li)],[]⟩) (λd e I a c h=>?_) ?_
 ·refine aq h (λh=>cx) λh=>aM<|ag<|aU r v8 (λa c d e j k=>⟨[(8,.obj 8 0),(9,.obj 9 0)],[(8,li),(9,[.i a.au,.i a.aP,.i a.aK,.i a.aN,bF c.bl,.s d,iL e,.own 590343,.own 590344,.nil,.nil,.i 0])],[(590343,lS j),(590344,oF k)]⟩) (λa c d e j k h=>?_) ?_
  ·refine aA<|am 1 kr ?_
   obtain ⟨G,l,h⟩:=aae h;exact Se 76 90 [] [.agg [.i a.au,.i a.aP,.i a.aK,.i a.aN,.t (.sl 1 (c.bl.map C')),.s d,.t (.sl 1 (e.map b6)),.own 590343,.own 590344,.nil,.nil,.i 0]] [.agg [.i a.au,.i a.aP,.i a.aK,.i a.aN,.t (.sl 1 (c.bl.map C')),.s d,.t (.sl 1 (e.map b6)),.t (.sl 12 (j.map aF)),.t (.sl 6 (k.map aC)),.t (.sl 3 []),.t (.sl 3 []),.i 0]] (V.w Vt (a9 G)) rfl rfl kr kr kr kr kr (MI l) kr<|ae<|ce
  refine aA<|av 2 3 C' c.bl<|ae<|cd<|b9 r ft (λd e c F a f g=>⟨[(2,.s d),(3,iL e),(4,.obj 4 0),(5,.obj 5 0),(8,.obj 8 0),(9,.obj 9 0),(42,.i ((c.bl.length:Int))),(43,.i F)],[(4,((k8 a).map .t)),(5,[bF c.bl]),(8,li),(9,[.i a.au,.i a.aP,.i a.aK,.i a.aN,bF c.bl,.s d,iL e,.own 590343,.own 590344,.nil,.nil,.i 0])],[(590343,lS f),(590344,oF g)]⟩) (λlD d e c F a f g h=>?_) (HU (JK 9 7 590343 82 12)<|HU (JK 9 8 590344 61 6)<|rx)
  exact ag<|ap<|aq h (λh=>aM<|ap<|cd<|ag<|bh go 2 48 [.agg [bF c.bl]] h QD λJ h=>aU r (lq (ft lD)) (λd e F c a f g m n o p q v x y z A B C=>⟨[(2,.s d),(3,iL e),(4,.obj 4 0),(5,.obj 5 0),(8,.obj 8 0),(9,.obj 9 0),(10,.i F),(11,.obj 11 0),(42,.i ((c.bl.length:Int))),(43,.i F)],[(4,((k8 a).map .t)),(5,[bF c.bl]),(8,li),(9,[.i a.au,.i a.aP,.i a.aK,.i a.aN,bF c.bl,.s d,iL e,.own 590343,.own 590344,.nil,.nil,.i 0]),(11,[.b m,.i n,.i o,.i p,.i q,.i v,.own 721414,.i y,.own 721416,.i A,.own 721418,.i C])],[(590343,lS f),(590344,oF g),(721414,qw x),(721416,cH z),(721418,D7 B)]⟩) (λd e F c a f g m n o p q v x y z A B C h=>aA<|bg (ys:=[(aD.mk m n o ((af.mk p q v x)) ((aW.mk y z)) A B C)]) 4 61 82 12 590343 aF h λh=>ae<|bm [] 63 11 [(254984,.frz),(2099712,.obj 9),(4096,.own 9),(262144,.own 70),(524288,.own 71),(1048576,.own 72)]<|aV 4 87 1 b6 h λK h _=>ah go 2 70 [] h Tc λH h=>bg (ys:=[H]) 1 72 61 6 590344 aC h λh=>dK<|cz [] []<|ra)<|ag<|aq h (λh=>cz [] []<|ah go 3 54 [] h LG λD h=>ah go 1 56 [.agg [.i D.aR,.i D.au,.i D.aT,.own 3538947]] h QF λL h=>ra) λh=>aM<|rx) λh=>re
 exact cz [] []<|ah go 1 13 [] h JU λM h=>ai 2 15 h (λh=>ra) λh=>cS go 1 17 [.agg [bF c.bl]] h AY λN h=>ai 3 20 h (λh=>ra) λh=>av 3 5 B' d<|ah go 0 25 [] h vF λO h=>ai 3 28 h (λh=>ra) λh=>ah go 2 31 [.agg [bF c.bl]] h FT λP h=>ra
theorem Td{a r}(h:sf a=ac r):mx aaa 257 [ei (d9 a)] (V.w [0,5] (d9 r)):=by
 refine bM (fn:=Tryz.f257) (m:=gi) kr rfl kr kr kr<|ag<|ap<|bm [] 1 0 [(37,.obj 1),(72,.frz),(384,.own 8),(2,.obj 2),(16,.own 5)]<|am 5 kr ?_
 obtain ⟨_,b,h⟩:=aae h;exact eF (y:=.ext go (.bb a.bE)) B' 8 1 5 1 1 327680 (([]:gs)) a.bE rfl rfl rfl rfl kr kr kr kr kr (fM _ _ _) (.inl rfl) kr (of_decide_eq_true (ba b)) kr kr<|ae<|ce
theorem BS{a r}(h:ff a=ac r):mx aaa 179 [ei (aF a)] (V.w IP (aF r)):=by
 refine bM (fn:=Tryz.f179) (m:=gi) kr rfl kr kr kr<|ag<|ag<|aA<|bw 2 7 h S0 λc h=>ae<|aA<|bw 2 11 h Td λd h=>ae<|aA<|am 3 kr ?_
 obtain ⟨_,b,h⟩:=aae h;exact eF (y:=Si a.aZ) bA 16 5 154 5 40 851968 (([]:List bV)) a.aZ rfl rfl rfl rfl kr kr kr kr kr (KU _ _ _ λ_=>rfl) (.inl rfl) kr (of_decide_eq_true (ba b)) kr kr<|ae<|cx
theorem E3{a r}(h:jh a=ac r):mx aaa 258 [ei (br a)] (V.w qa8 (br r)):=by
 refine bM (fn:=Tryz.f258) (m:=gi) kr rfl kr kr kr<|ag<|ag<|aA<|am 3 kr ?_
 obtain ⟨_,b,h⟩:=aae h;exact eF (y:=.ext go (.bb a.fB)) B' 8 1 5 1 1 327680 (([]:gs)) a.fB rfl rfl rfl rfl kr kr kr kr kr (fM _ _ _) (.inl rfl) kr (of_decide_eq_true (ba b)) kr kr<|ae<|cx
theorem pF{a r}(h:f0 a=ac r):mx aaa 180 [ei (aC a)] (V.w oG (aC r)):=by
 refine bM (fn:=Tryz.f180) (m:=gi) kr rfl kr kr kr<|ag<|ap<|bm [] 6 4 [(4642,.obj 1),(9280,.frz),(8,.obj 3),(16,.own 6),(128,.own 9),(256,.own 10),(2048,.own 13),(16384,.own 16)]<|am 3 kr ?_
 obtain ⟨_,d,h⟩:=aae h;refine eF (y:=.ext go (.bb a.fA)) B' 9 1 5 1 1 393216 (([]:gs)) a.fA rfl rfl rfl rfl kr kr kr kr kr (fM _ _ _) (.inl rfl) kr (of_decide_eq_true (ba d)) kr kr<|am 3 kr ?_
 obtain ⟨_,f,h⟩:=aae h;refine eF (y:=.ext go (.bb a.fB)) B' 13 1 5 1 1 655360 (([]:gs)) a.fB rfl rfl rfl rfl kr kr kr kr kr (fM _ _ _) (.inl rfl) kr (of_decide_eq_true (ba f)) kr kr<|ae<|aU r Ag (λa b=>⟨[(2,.obj 2 0),(3,.obj 3 0)],[(2,lJ),(3,[.own 197120,.own 197121,.i a.fR.aR,.i a.fR.bW,.i a.fR.aT,.own 197125])],[(197120,.live 5 1 (((([]:gs))++a.fA).map B')),(197121,.live 5 1 (((([]:gs))++a.fB).map B')),(197125,ru b)]⟩) (λa b h=>cx)<|ag<|cd<|b9 r l8 (λg a k=>⟨[(1,.obj 1 0),(2,.obj 2 0),(3,.obj 3 0),(4,.i g)],[(1,[.ext go (.bb a.fA),.ext go (.bb a.fB),.i a.fR.aR,.i a.fR.bW,.i a.fR.aT,qf7 a.fP]),(2,lJ),(3,[.own 197120,.own 197121,.i a.fR.aR,.i a.fR.bW,.i a.fR.aT,.own 197125])],[(197120,.live 5 1 (((([]:gs))++a.fA).map B')),(197121,.live 5 1 (((([]:gs))++a.fB).map B')),(197125,ru k)]⟩) (λrT g a k h=>?_) rx
 refine ap<|aA<|am 3 kr<|cC (e:=139) br a.fP go 6 rfl rfl rfl kr kr kr kr<|ae<|aq h (λh=>?_) (λh=>?_)
 ·refine aM<|ap<|cd<|aA<|am 3 kr ?_
  obtain ⟨l,c,h⟩:=aae h;exact dU (e:=139) (kk:=.i64) (sz:=6) br a.fP g go rfl kr kr kr kr kr kr c<|bw 1 30 h E3 λj h=>ae<|cz [] []<|bg (ys:=[j]) 4 35 139 6 197125 br h λh=>dK<|cz [] []<|ra
 exact re
theorem Hj{a r}(h:iV a=ac r):mx aaa 181 [OD a] (qf6 r):=by
 refine bM (fn:=Tryz.f181) (m:=gi) kr rfl kr kr kr<|ag<|ag<|aU r nq (λb=>⟨[(2,.nil),(3,.own 196609)],[],[(196609,kE b)]⟩) (λb h=>cx)<|ag<|cd<|b9 r fw (λa l c=>⟨[(0,o8 a),(2,.nil),(3,.own 196609),(4,.i c)],[],[(196609,kE l)]⟩) (λjr a l c h=>?_) rx
 refine ap<|aA<|am 2 kr<|cC (e:=108) ay a go 3 rfl rfl rfl kr kr kr kr<|ae<|aq h (λh=>?_) (λh=>?_)
 ·refine aM<|ap<|cd<|bm [] 12 5 [(4128721,.frz),(40,.own 3),(12582912,.own 29),(65536,.own 23),(16777216,.own 31),(33554432,.own 32)]<|am 3 kr ?_
  obtain ⟨n,d,h⟩:=aae h;refine dU (e:=108) (kk:=.i64) (sz:=3) ay a c go rfl kr kr kr kr kr kr d<|am 4 kr ?_
  obtain ⟨o,f,h⟩:=aae h;refine dU (e:=108) (kk:=.i64) (sz:=3) ay a c go rfl kr kr kr kr kr kr f<|am 5 kr ?_
  obtain ⟨k,g,h⟩:=aae h;refine dU (e:=108) (kk:=.i64) (sz:=3) ay a c go rfl kr kr kr kr kr kr g<|am 2 kr ?_
  obtain ⟨_,j,h⟩:=aae h;exact eF (y:=.ext go (.bb k.fB)) B' 29 1 5 1 1 1507328 (([]:gs)) k.fB rfl rfl rfl rfl kr kr kr kr kr (fM _ _ _) (.inl rfl) kr (of_decide_eq_true (ba j)) kr kr<|bg (ys:=[(ak.mk n.dy o.s4 ((([]:gs))++k.fB))]) 2 32 108 3 196609 ay h λh=>dK<|cz [] []<|ra
 exact re
theorem QI{a r}(h:sD a=ac r):mx aaa 95 [ei (a9 a)] (V.w Vt (a9 r)):=by
 refine bM (fn:=f95) (m:=gi) kr rfl kr kr kr<|ag<|ag<|aA<|am 4 kr ?_
 obtain ⟨_,n,h⟩:=aae h;refine eF (y:=AW a.fT.bl) C' 13 1 3 1 8 589824 (([]:gs)) a.fT.bl rfl rfl rfl rfl kr kr kr kr kr (fM _ _ _) (.inl rfl) kr (of_decide_eq_true (ba n)) kr kr<|ae<|aA<|am 3 kr ?_
 obtain ⟨_,o,h⟩:=aae h;refine eF (y:=.ext go (.bb a.bI)) B' 19 1 5 1 1 1048576 (([]:gs)) a.bI rfl rfl rfl rfl kr kr kr kr kr (fM _ _ _) (.inl rfl) kr (of_decide_eq_true (ba o)) kr kr<|ae<|aA<|bw 2 23 h ME λc h=>ae<|ag<|aU r tc (λa c b=>⟨[(1,.obj 1 0),(2,.obj 2 0),(3,.obj 3 0)],[(1,[.i a.fC.au,.i a.fC.aP,.i a.fC.aK,.i a.fC.aN,AW a.fT.bl,.ext go (.bb a.bI),EU a.bt,AX a.fN,xW a.fD,o8 a.bj,vB a.cY,.i a.bk]),(2,li),(3,[.i a.fC.au,.i a.fC.aP,.i a.fC.aK,.i a.fC.aN,.own 197124,.own 197125,.own 197126,.own 197127,xW a.fD,o8 a.bj,vB a.cY,.i a.bk])],[(197124,.live 3 1 (((([]:gs))++a.fT.bl).map C')),(197125,.live 5 1 (((([]:gs))++a.bI).map B')),(197126,D6 c),(197127,lS b)]⟩) (λa c b h=>?_) ?_
 ·refine ag<|aU r ta (λa c b j=>⟨[(1,.obj 1 0),(2,.obj 2 0),(3,.obj 3 0)],[(1,[.i a.fC.au,.i a.fC.aP,.i a.fC.aK,.i a.fC.aN,AW a.fT.bl,.ext go (.bb a.bI),EU a.bt,AX a.fN,xW a.fD,o8 a.bj,vB a.cY,.i a.bk]),(2,li),(3,[.i a.fC.au,.i a.fC.aP,.i a.fC.aK,.i a.fC.aN,.own 197124,.own 197125,.own 197126,.own 197127,.own 197128,o8 a.bj,vB a.cY,.i a.bk])],[(197124,.live 3 1 (((([]:gs))++a.fT.bl).map C')),(197125,.live 5 1 (((([]:gs))++a.bI).map B')),(197126,D6 c),(197127,lS b),(197128,oF j)]⟩) (λa c b j h=>?_) ?_
  ·refine aA<|bw 2 69 h Hj λv h=>ae<|aA<|am 3 kr ?_
   obtain ⟨_,k,h⟩:=aae h;exact eF (y:=vB a.cY) dO 74 3 95 3 24 4653056 (([]:List eJ)) a.cY rfl rfl rfl rfl kr kr kr kr kr (KU _ _ _ λ_=>rfl) (.inl rfl) kr (of_decide_eq_true (ba k)) kr kr<|ae<|cx
  refine ag<|cd<|b9 r iE (λd a c b l=>⟨[(1,.obj 1 0),(2,.obj 2 0),(3,.obj 3 0),(6,.i d)],[(1,[.i a.fC.au,.i a.fC.aP,.i a.fC.aK,.i a.fC.aN,AW a.fT.bl,.ext go (.bb a.bI),EU a.bt,AX a.fN,xW a.fD,o8 a.bj,vB a.cY,.i a.bk]),(2,li),(3,[.i a.fC.au,.i a.fC.aP,.i a.fC.aK,.i a.fC.aN,.own 197124,.own 197125,.own 197126,.own 197127,.own 197128,o8 a.bj,vB a.cY,.i a.bk])],[(197124,.live 3 1 (((([]:gs))++a.fT.bl).map C')),(197125,.live 5 1 (((([]:gs))++a.bI).map B')),(197126,D6 c),(197127,lS b),(197128,oF l)]⟩) (λqb d a c b l h=>?_) rx
  refine ap<|aA<|am 3 kr<|cC (e:=61) aC a.fD go 6 rfl rfl rfl kr kr kr kr<|ae<|aq h (λh=>?_) (λh=>?_)
  ·refine aM<|ap<|cd<|aA<|am 3 kr ?_
   obtain ⟨x,f,h⟩:=aae h;exact dU (e:=61) (kk:=.i64) (sz:=6) aC a.fD d go rfl kr kr kr kr kr kr f<|bw 1 60 h pF λp h=>ae<|cz [] []<|bg (ys:=[p]) 4 65 61 6 197128 aC h λh=>dK<|cz [] []<|ra
  exact re
 refine ag<|cd<|b9 r iF (λq a c t=>⟨[(1,.obj 1 0),(2,.obj 2 0),(3,.obj 3 0),(4,.i q)],[(1,[.i a.fC.au,.i a.fC.aP,.i a.fC.aK,.i a.fC.aN,AW a.fT.bl,.ext go (.bb a.bI),EU a.bt,AX a.fN,xW a.fD,o8 a.bj,vB a.cY,.i a.bk]),(2,li),(3,[.i a.fC.au,.i a.fC.aP,.i a.fC.aK,.i a.fC.aN,.own 197124,.own 197125,.own 197126,.own 197127,xW a.fD,o8 a.bj,vB a.cY,.i a.bk])],[(197124,.live 3 1 (((([]:gs))++a.fT.bl).map C')),(197125,.live 5 1 (((([]:gs))++a.bI).map B')),(197126,D6 c),(197127,lS t)]⟩) (λqc q a c t h=>?_) rx
 refine ap<|aA<|am 3 kr<|cC (e:=82) aF a.fN go 12 rfl rfl rfl kr kr kr kr<|ae<|aq h (λh=>?_) (λh=>?_)
 ·refine aM<|ap<|cd<|aA<|am 3 kr ?_
  obtain ⟨z,g,h⟩:=aae h;exact dU (e:=82) (kk:=.i64) (sz:=12) aF a.fN q go rfl kr kr kr kr kr kr g<|bw 1 39 h BS λs h=>ae<|cz [] []<|bg (ys:=[s]) 4 44 82 12 197127 aF h λh=>dK<|cz [] []<|ra
 exact re
theorem E4{a r}(h:sg a=ac r):aB aaa 201 [.ptr (cw eX (bq a))] (.tup [V.w EV (aE r.1),qu r.2.1]) [cw eX (bq r.2.2)]:=by
 refine df Tryz.f201 gi ?_;exact ag<|jK go 1 6 [.obj 900 0] h C7 λb h=>aA<|ah go 1 8 [.obj 900 0] h aO λc h=>ah go 3 12 [.obj 900 0] h aO λd h=>bw 1 14 h JP λe h=>ae<|ce
theorem Xm{b r}(h:Ex b=ac r):aB aaa 249 [.ptr (cw eX (bq b))] (V.i r.1) [cw eX (bq r.2)]:=by
 refine df Tryz.f249 go ?_;refine ag<|ap<|bh go 1 4 [.obj 900 0] h gW λe h=>aq h (λh=>aA<|gL go 2 7 [.obj 900 0] [.own 393216] h dX λf h=>ae<|ce) λh=>aM<|aA<|ah go 1 9 [.obj 900 0] h aO λc h=>ah go 1 11 [.obj 900 0] h aO (λd h=>?_)
 obtain ⟨_,a,h⟩:=aae h;exact iT .shl (.int .i64 c.1) (.int .i64 d.1) (.int .i64 (mm .i64 c.1 d.1)) rfl kr kr kr kr (D5 _ _ _ _ _ (ba a))<|ae<|ce
theorem IU{a b c r}(h:Ah a b c=ac r):aB aaa 250 [V.i a,V.i b,V.i c] (V.w Vu (pI r)) []:=by
 refine df Tryz.f250 gi ?_;exact ag<|cx
theorem BT{c d a r}(h:pT c d a=ac r):mx aaa 252 [V.i c,V.i d,.one (.s a)] (V.w Vu (pI r)):=by
 refine bM (fn:=Tryz.f252) (m:=gi) kr rfl kr kr kr<|ag<|aA<|am 4 kr ?_
 obtain ⟨_,b,h⟩:=aae h;exact eF (y:=.ext go (.bb a)) B' 11 1 5 1 1 589824 (([]:gs)) a rfl rfl rfl rfl kr kr kr kr kr (fM _ _ _) (.inl rfl) kr (of_decide_eq_true (ba b)) kr kr<|ae<|ce
theorem IV{a r}(h:Ai a=ac r):aB aaa 167 [.ptr (cw eX (bq a))] (V.w Vu (pI r.1)) [cw eX (bq r.2)]:=by
 refine df Tryz.f167 gi ?_;exact ag<|ap<|bh go 1 8 [.obj 900 0] h aO λe h=>cd<|ag<|aq h (λh=>jK go 1 13 [.obj 900 0] h E4 λf h=>cx) λh=>ag<|aq h (λh=>jK go 1 21 [.obj 900 0] h Xm λg h=>aA<|ah go 1 23 [.obj 900 0] h aO λi h=>ah go 2 26 [.obj 900 0] h aO λj h=>ah go 0 27 [] h IU λk h=>ae<|ce) λh=>ag<|aq h (λh=>aA<|ah go 2 32 [.obj 900 0] h pE λl h=>bg 0 33 5 1 1966080 B' h λh=>ae<|aA<|ah go 1 35 [.obj 900 0] h aO λm h=>ah go 2 38 [.obj 900 0] h aO λb h=>bw 1 40 h BT λc h=>ae<|ce) λh=>eO<|eZ<|cq<|bh go 1 42 [.obj 900 0] h aO λd h=>ce
theorem yO{a c r}(h:nr a c=ac r):aB aaa 128 [ei (aE a),ei (aE c)] (V.b r) []:=by
 refine df Tryz.f128 go ?_;exact ag<|aA<|ai 6 10 h (λh=>ai 7 17 h (λh=>ai 7 24 h (λh=>ah go 4 29 [] h EW λd h=>ae<|ce) λh=>ae<|ce) λh=>ae<|ce) λh=>ae<|ce
theorem Cb{a r}(h:Bx a=ac r):aB aaa 261 [ei (pI a)] (V.b r) []:=by
 refine df Tryz.f261 go ?_;exact ag<|jK go 3 8 [.agg ((aE a.aH).map .t),.agg [.i 0,.i 0,.i 0,.nil]] h yO λc h=>aU r tK (λc d a=>⟨[(1,.obj 1 0),(2,.b go),(3,.b c),(4,.b d)],[(1,((pI a).map .t))],[]⟩) (λc d a h=>ap<|ag<|cd<|ag<|aq h (λh=>aA<|ai 4 35 h (λh=>ai 6 41 h (λh=>ah go 2 44 [] h lT λf h=>ai 2 46 h (λh=>ae<|ce) λh=>ae<|ce) λh=>ae<|ce) λh=>ae<|ce) λh=>ag<|aq h (λh=>aA<|ah go 2 53 [] h bf λg h=>ai 1 54 h (λh=>ai 3 57 h (λh=>ah go 2 60 [] h dD λj h=>ai 2 62 h (λh=>ah go 2 65 [] h dD λk h=>ai 2 67 h (λh=>ai 5 72 h (λh=>av 2 5 B' a.fB<|ae<|ce) λh=>ae<|ce) λh=>ae<|ce) λh=>ae<|ce) λh=>ae<|ce) λh=>ae<|ce) λh=>ag<|aq h (λh=>aA<|ah go 2 82 [] h bf λl h=>ai 1 83 h (λh=>ai 3 86 h (λh=>ai 5 91 h (λh=>ai 5 96 h (λh=>ah go 2 99 [] h bf λm h=>ai 2 101 h (λh=>av 2 5 B' a.fB<|ah go 0 105 [] h bf λn h=>ae<|ce) λh=>ae<|ce) λh=>ae<|ce) λh=>ae<|ce) λh=>ae<|ce) λh=>ae<|ce) λh=>eO<|eZ<|cq<|aA<|ai 4 110 h (λh=>ah go 2 113 [] h bf λe h=>ai 2 115 h (λh=>ai 3 118 h (λh=>ae<|ce) λh=>ae<|ce) λh=>ae<|ce) λh=>ae<|ce)<|cz [] []<|ai 4 12 h (λh=>ai 5 17 h (λh=>ai 5 22 h (λh=>av 2 5 B' a.fB<|ra) λh=>ra) λh=>ra) λh=>ra
theorem co{b d r}(h:f5 b d=ac r):mx aaa 316 [.one (.s b),V.i d] (qu r):=by
 refine bM (fn:=Tryz.f316) (m:=gi) kr rfl kr kr kr<|ag<|aA<|am 2 kr ?_
 obtain ⟨_,c,h⟩:=aae h;refine eF (y:=.ext go (.bb b)) B' 8 1 5 1 1 393216 (([]:gs)) b rfl rfl rfl rfl kr kr kr kr kr (fM _ _ _) (.inl rfl) kr (of_decide_eq_true (ba c)) kr kr<|ae<|ap<|bh go 1 10 [] h bf λj h=>aq h (λh=>cx) λh=>aM<|aU r Aj (λe a=>⟨[(1,.i e),(4,.nil),(5,.own 327681)],[],[(327681,cH a)]⟩) (λe a h=>aA<|bg 4 28 5 1 327681 B' h λh=>ae<|ce)<|cd<|b9 r oh (λf g=>⟨[(1,.i f),(4,.nil),(5,.own 327681)],[],[(327681,cH g)]⟩) (λwX f g h=>?_) rx
 exact ap<|ag<|aq h (λh=>aM<|cd<|aA<|bg 6 21 5 1 327681 B' h λh=>ae<|cz [] []<|rb) λh=>re
end Go.Tm
