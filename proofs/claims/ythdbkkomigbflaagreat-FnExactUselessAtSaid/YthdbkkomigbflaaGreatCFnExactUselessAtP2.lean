/- Plain laws of the functions. -/
import Derived.Test.YthdbkkomigbflaaGreatCFnExactUselessAtP1
set_option linter.unusedVariables false
set_option linter.unusedSimpArgs false
namespace Go.Tm.Pu
open Go.Tm
theorem Ou (u:Nat) (a b:Int):vW u a b=some (sC a b):=by
 unfold vW t9 sC
 simp only [lM,Option.bind_some]
 cases bF a <;> cases bF b <;> rfl
theorem Ey (u:Nat) (a b:Int):rI u a b=some (sC a b):=by
 unfold rI tN sC
 simp only [jU,Option.bind_some]
 cases bF a <;> cases bF b <;> rfl
def At (m:af) (x:aW):Int:=sC (qw m.aD.length) x.aT
theorem Ov (u:Nat) (m:af) (x:aW):vX u m x=some (At m x):=by
 unfold vX At
 simp only [Dx,Ou,Option.bind_some]
theorem Ow (u:Nat) (m:af) (x:aW):vA u m x=some (At m x):=by
 unfold vA At
 simp only [Dy,Ey,Option.bind_some]
def M.at_ (m:af) (i:Int):Nat:=(cU m.aS m.aY i).1.toNat
def sD (m:af) (i:Int):Nat:=(cU m.aS m.aY i).2.toNat
def w8 (m:af) (x:aW) (i:Int):List Int:=M.win x.bh (M.at_ m i) (sD m i)
theorem Rl {m:af} {b:List Int} (hb:(b.length:Int)=m.aY) (hl:b.length≤1048576) (i:Int) :
  dW (dU (cU m.aS m.aY i).1 (aX .i64 (cU m.aS m.aY i).1 (cU m.aS m.aY i).2) b.length)=some () ∧
  (b.take (Int.toNat (aX .i64 (cU m.aS m.aY i).1 (cU m.aS m.aY i).2))).drop (Int.toNat (cU m.aS m.aY i).1)=M.win b (M.at_ m i) (sD m i) ∧
  M.at_ m i+sD m i≤b.length∧sD m i≤6:=by
 obtain ⟨h1,h2,h3,h4⟩:=wW (size:=m.aS) (n:=m.aY) (i:=i) (by omega)
 unfold M.at_ sD
 generalize cU m.aS m.aY i=s at *
 obtain ⟨a,c⟩:=s
 dsimp only at *
 obtain ⟨a,rfl⟩:∃ n:Nat,a=n:=⟨a.toNat,by omega⟩
 obtain ⟨c,rfl⟩:∃ n:Nat,c=n:=⟨c.toNat,by omega⟩
 simp only [Int.toNat_natCast] at *
 rw [tE (by omega),eK (by omega) (by omega)]
 exact ⟨rfl,rfl,by omega,by omega⟩
def Bp (m:af) (x:aW) (s:bM) (i:Nat):Bool :=
 if eh x.aT i then decide (eg (w8 m x i)=s) else (w8 m x i).all fun c=>c == 0
def ew (m:af) (x:aW):Bool :=
 cS m && bF x.aT && (sC x.aT (qw m.aD.length) == 0) && ((x.bh.length:Int) == m.aY) && iQ (Bp m x) m.aD 0
theorem Rm {u:Nat} (hu:1099511627776≤u) {b:List Int} (hl:b.length≤1048576):pb u b=some (b.all fun c=>c == 0):=by
 unfold pb
 rw [Kv u b () u (by omega) (by omega),mP (fun (c:Int) _=>c == 0) (xs:=b) (b:=true) rfl 0 (fun x i k _ hx=>?_) b 0 (Nat.le_refl _) rfl,Bool.and_true]
 ·congr 1
  have:∀ (l:List Int) (i:Nat),iQ (fun (c:Int) _=>c == 0) l i=l.all fun c=>c == 0:=by
   intro l
   induction l with
   | nil=>intro i; rfl
   | cons x l ih=>intro i; simp [iQ,ih]
  exact this b 0
 ·unfold CK
  rw [Ct]
  cases x == 0 <;> rfl
theorem U2 {u:Nat} (hu:1099511627776≤u) {b:List Int} (hl:b.length≤1048576):bq u b=some (b.any fun c=>c != 0):=by
 unfold bq c9
 rw [mZ u b () u (by omega) (by omega),lP (fun (c:Int)=>c != 0) rfl (fun x i k _=>rfl)]
 simp only [Option.bind_some,ry]
theorem Y3 (b:List Int):(b.any fun c=>c != 0)=!(b.all fun c=>c == 0):=by
 rw [List.not_all_eq_any_not]; rfl
structure M.BldWf (x:aW):Prop where
 b:aF x.bh
 l:x.bh.length≤1048576
theorem Dz {b:List Int} (h:aF b) (hl:b.length≤1048576) (i n:Nat):aF (M.win b i n)∧(M.win b i n).length≤1048576:=by
 refine ⟨nQ h i n,?_⟩
 have:(M.win b i n).length≤b.length:=by unfold M.win; simp; omega
 omega
theorem ul {u:Nat} (hu:1099511627776≤u) {m:af} (hm:m.aD.length≤1048576) {x:aW} (hx:M.BldWf x):nF u m x=some (ew m x):=by
 unfold nF m9 ew
 simp only [iy hu m (show m.aD.length≤1073741824 by omega),jU,Dy,Ey,Option.bind_some]
 cases cS m with
 | false=>rfl
 | true=>cases bF x.aT with
  | false=>rfl
  | true =>
   rw [Ct,Ct]
   cases sC x.aT (qw m.aD.length) == 0 with
   | false=>rfl
   | true =>
    by_cases hb:(x.bh.length:Int)=m.aY
    ·have e:((x.bh.length:Int) == m.aY)=true:=by simpa using hb
     simp only [e,Bool.not_true,cond_false,Bool.and_self,Bool.true_and]
     have hl:=hx.l
     rw [Ic u m x () u (by omega) (by omega),Int.toNat_natCast,Tc (Bp m x) (xs:=m.aD) (b:=true) rfl (fun s i k hs=>?_) m.aD 0 rfl,Bool.and_true]
     obtain ⟨c1,c2,c3,c4⟩:=Rl hb hl i
     obtain ⟨b1,b2⟩:=Dz hx.b hl (M.at_ m i) (sD m i)
     unfold BI dZ Bp w8
     simp only [mN,qt,br,hs,Option.bind_some,c1,c2,n6 hu b1 (show _≤1073741824 by omega),Rm hu b2,B8]
     cases eh x.aT i with
     | true=>simp only [cond_true,↓reduceIte,Bool.not_true,cond_false]; cases decide (eg (M.win x.bh (M.at_ m i) (sD m i))=s) <;> rfl
     | false=>simp only [cond_false,Bool.not_false,cond_true,Bool.false_eq_true,↓reduceIte]; cases (M.win x.bh (M.at_ m i) (sD m i)).all fun c=>c == 0 <;> rfl
    ·have e:((x.bh.length:Int) == m.aY)=false:=by simpa using hb
     simp [e]
theorem V2 {a b:Int} (ha:bF a=true) (hb:bF b=true):sC a b=Aj .i64 a b:=by simp [sC,ha,hb]
theorem GO (u:Nat) {m:af} {x:aW} (hx:M.BldWf x) (hb:(x.bh.length:Int)=m.aY) (i:Int):iI u x m i=some (w8 m x i):=by
 obtain ⟨c1,c2,c3,c4⟩:=Rl hb hx.l i
 unfold iI w8
 simp only [oU,Option.bind_some,c1,c2]
theorem zJ {u:Nat} (hu:1099511627776≤u) {m:af} (hm:m.aD.length≤1048576) {x:aW} (hx:M.BldWf x):pw u m x=some (ew m x):=by
 unfold pw nj ew
 simp only [n7 hu m (show m.aD.length≤1073741824 by omega),lM,Dx,Option.bind_some]
 cases cS m with
 | false=>rfl
 | true=>cases hs:bF x.aT with
  | false=>rfl
  | true =>
   rw [Ct,Ct,V2 hs (V1 _)]
   cases Aj .i64 x.aT (qw m.aD.length) == 0 with
   | false=>rfl
   | true =>
    by_cases hb:(x.bh.length:Int)=m.aY
    ·have e:((x.bh.length:Int) == m.aY)=true:=by simpa using hb
     simp only [e,Bool.not_true,cond_false,Bool.and_self,Bool.true_and]
     have hl:=hx.l
     rw [Is u m x () u (by omega) (by omega),mP (Bp m x) (xs:=m.aD) (b:=true) rfl 0 (fun s i k _ hs=>?_) m.aD 0 (Nat.le_refl _) rfl,Bool.and_true]
     obtain ⟨b1,b2⟩:=Dz hx.b hl (M.at_ m i) (sD m i)
     have b3:aF (w8 m x i)∧(w8 m x i).length≤1048576:=⟨b1,b2⟩
     unfold BO d5 Bp
     simp only [GO u hx hb,qs,Option.bind_some,tD hu b3.1 (show _≤1073741824 by omega),U2 hu b3.2,B8,Y3]
     cases eh x.aT i with
     | true=>simp only [cond_true,↓reduceIte,Bool.not_true,cond_false]; cases decide (eg (w8 m x i)=s) <;> rfl
     | false=>simp only [cond_false,Bool.not_false,cond_true,Bool.false_eq_true,↓reduceIte]; cases (w8 m x i).all fun c=>c == 0 <;> rfl
    ·have e:((x.bh.length:Int) == m.aY)=false:=by simpa using hb
     simp [e]
def OT (m:af) (x:aW):Bool:=(m.aP != 0) && ew m x && (At m x == 0)
theorem Ss {u:Nat} (hu:1099511627776≤u) {m:af} (hm:m.aD.length≤1048576) {x:aW} (hx:M.BldWf x):AK u m x=some (OT m x):=by
 unfold AK OT
 simp only [ul hu hm hx,Ow,Option.bind_some]
 cases m.aP != 0 <;> cases ew m x <;> rfl
def M.tells (m:af) (b:List Int):Bool:=((b.length:Int) == m.aY) && M.same (fun x y=>decide (x=y)) (Ds b m.aS) m.aD
theorem Su {u:Nat} (hu:1099511627776≤u) (m:af) {b:List Int} (hb:aF b) (hl:b.length≤1048576):AQ u m b=some (M.tells m b):=by
 unfold AQ M.tells
 rw [Fm hu hb (by omega)]
 simp only [Option.bind_some]
 rw [Bg hu (by unfold Ds; have:=gT m.aS b.length; simp; omega)]
 cases (b.length:Int) == m.aY <;> rfl
theorem Sv {u:Nat} (hu:1099511627776≤u) (m:af) {b:List Int} (hb:aF b) (hl:b.length≤1048576):AZ u m b=some (M.tells m b):=by
 unfold AZ M.tells
 rw [Fl hu hb (by omega)]
 simp only [Option.bind_some]
 rw [lO hu (by unfold Ds; have:=gT m.aS b.length; simp; omega)]
 cases (b.length:Int) == m.aY <;> rfl
theorem Rn {b:List Int} (hl:b.length≤1048576):dW (decide (((([]:List Int)).length+b.length)*1≤140737488355328))=some ():=bA (by simp; omega)
theorem Fz (u:Nat) {m:af} (hm:m.aD.length≤1048576):uP u m=some m:=by
 unfold uP
 rw [bA (by simp; omega)]; rfl
theorem FA (u:Nat) {x:aW} (hl:x.bh.length≤1048576):uQ u x=some x:=by
 unfold uQ
 rw [Rn hl]; rfl
theorem Ez (u:Nat) {m:af} (hm:m.aD.length≤1048576):sd u m=some m:=by
 unfold sd eU
 rw [bA (by simp; omega)]; rfl
theorem B9 (u:Nat) {x:aW} (hl:x.bh.length≤1048576):oH u x=some x:=by
 unfold oH
 rw [gK u (by omega)]; rfl
structure M.NodWf (n:aA):Prop where
 s:n.av.aD.length≤1048576
 b:M.BldWf n.a7
 k:n.aN.length≤1048577
 w:xY n.av
theorem jf (u:Nat) {n:aA} (h:M.NodWf n):fy u n=some n:=by
 unfold fy
 rw [Fz u h.s,FA u h.b.l,Option.bind_some,Option.bind_some,JK (by have:=h.k; omega)]; rfl
theorem jy (u:Nat) {n:aA} (h:M.NodWf n):gG u n=some n:=by
 unfold gG
 rw [Ez u h.s,B9 u h.b.l,w6 u (by have:=h.k; omega)]; rfl
def ey (m:af) (x:aW) (i:Int):List Int×Bool:=if ew m x && eh x.aT i then (w8 m x i,true) else ([],false)
theorem vd {m:af} {x:aW} (h:ew m x=true):(x.bh.length:Int)=m.aY:=by
 unfold ew at h
 simp only [Bool.and_eq_true,beq_iff_eq] at h
 exact h.1.2
theorem EA {u:Nat} (hu:1099511627776≤u) {m:af} (hm:m.aD.length≤1048576) {x:aW} (hx:M.BldWf x) (i:Int):pq u m x i=some (ey m x i):=by
 unfold pq tR ey
 simp only [ul hu hm hx,qt,Option.bind_some]
 cases hb:ew m x with
 | false=>rfl
 | true=>cases eh x.aT i with
  | false=>rfl
  | true =>
   obtain ⟨c1,c2,c3,c4⟩:=Rl (vd hb) hx.l i
   have c5:=(Dz hx.b hx.l (M.at_ m i) (sD m i)).2
   simp only [Bool.not_true,cond_false,mN,Option.bind_some,c1,c2,Rn c5,Bool.and_self,↓reduceIte,List.nil_append]
   rfl
theorem EB {u:Nat} (hu:1099511627776≤u) {m:af} (hm:m.aD.length≤1048576) {x:aW} (hx:M.BldWf x) (i:Int):pB u m x i=some (ey m x i):=by
 unfold pB uf ey
 simp only [zJ hu hm hx,qs,Option.bind_some]
 cases hb:ew m x with
 | false=>rfl
 | true=>cases eh x.aT i with
  | false=>rfl
  | true =>
   have c5:=(Dz hx.b hx.l (M.at_ m i) (sD m i)).2
   simp only [Bool.not_true,cond_false,GO u hx (vd hb),Option.bind_some]
   rw [gK u (by have:(w8 m x i).length≤1048576:=c5; omega)]
   rfl
theorem Yp:∀ (b:List Int) (s:Int) (n:Nat),aF b→(256:Int) ^ n≤s→(256:Int) ^ (n+b.length)≤oV b s:=by
 intro b
 induction b with
 | nil=>intro s n _ h; exact h
 | cons c b ih =>
  intro s n hb h
  have hc:=hb c (by simp)
  have:=ih (256*s+c) (n+1) (fun z hz=>hb z (by simp [hz])) (by rw [Int.pow_succ]; omega)
  simp only [List.length_cons,oV]
  rwa [show n+(b.length+1)=n+1+b.length by omega]
theorem MC {a b:Nat} (h:a≤b):(256:Int) ^ a≤256 ^ b:=by
 induction h with
 | refl=>exact Int.le_refl _
 | step h ih =>
  rename_i c
  have:(0:Int) < 256 ^ c:=Int.pow_pos (by omega)
  rw [Int.pow_succ]; omega
theorem LV {b:List Int} {s:bM} {size len:Int} {i:Nat} (hb:aF b) (h:eg b=s) (hf:yT size len i s=true):(b.length:Int)=(cU size len i).2∧b.length≤6:=by
 unfold yT at hf
 simp only [Bool.and_eq_true,beq_iff_eq] at hf
 obtain ⟨⟨h1,h2⟩,_⟩:=hf
 have h3:ce s.fS=((ce s.fS).1,true):=by rw [← h1]
 obtain ⟨h4,h5,_,h6⟩:=DX h3
 generalize (ce s.fS).1=c at *
 unfold eg at h
 split at h
 ·rw [← h] at h4; simp at h4
 ·rename_i hl
  have hs:s.fS=oV b 1:=by rw [← h]
  have h7:=(VJ b 1 0 hb (by omega) (by omega)).2
  have h8:=Yp b 1 0 hb (by simp)
  simp only [Nat.zero_add] at h7 h8
  rw [hs] at h5
  have hp:(0:Int) < 256 ^ c.length:=Int.pow_pos (by omega)
  have h9:256 ^ c.length≤oV b 1:=by
   have:=Int.mul_ediv_self_le (x:=oV b 1) (k:=256 ^ c.length) (by omega)
   rw [h5] at this; omega
  have h10:oV b 1 < 256 ^ c.length*2:=by
   have:=Int.lt_mul_ediv_self_add (x:=oV b 1) hp
   rw [h5] at this; omega
  have:b.length=c.length:=by
   rcases Nat.lt_trichotomy b.length c.length with h | h | h
   ·have:=MC (show b.length+1≤c.length by omega)
    rw [Int.pow_succ] at this; omega
   ·exact h
   ·have:=MC (show c.length+1≤b.length by omega)
    rw [Int.pow_succ] at this; omega
  omega
theorem MD {size len:Int}:∀ {l:List bM} {i j:Nat} {s:bM},oX size len l i=true→l[j]?=some s→yT size len (i+j) s=true
 | [],_,_,_,_,h=>by simp at h
 | x :: l,i,0,s,h,hs=>by
  simp only [oX,Bool.and_eq_true] at h
  simp at hs; subst hs; exact h.1
 | x :: l,i,j+1,s,h,hs=>by
  simp only [oX,Bool.and_eq_true] at h
  have:=MD h.2 (by simpa using hs)
  rwa [show i+1+j=i+(j+1) by omega] at this
theorem LW {m:af} (hm:cS m=true) {i:Nat} {s:bM} (hs:m.aD[i]?=some s):yT m.aS m.aY i s=true:=by
 unfold cS at hm
 split at hm
 ·simp only [Bool.and_eq_true,beq_iff_eq] at hm
  have:=(List.getElem?_eq_some_iff.1 hs).1
  omega
 ·simp only [Bool.and_eq_true] at hm
  have:=MD hm.2 hs
  simpa using this
theorem HL {m:af} (hm:cS m=true):0≤m.aY∧m.aY≤240:=by
 unfold cS at hm
 split at hm
 ·simp only [Bool.and_eq_true,beq_iff_eq] at hm; omega
 ·simp only [Bool.and_eq_true] at hm
  have:=Dr hm.1.1.2
  omega
def M.put (m:af) (x:aW) (i:Int) (b:List Int):aW:=⟨sV .i64 x.aT (i4 .i64 1 i),zZ x.bh b (M.at_ m i)⟩
def um (m:af) (x:aW) (i:Int) (b:List Int):Bool×aW :=
 if am i 0 ((m.aD.length:Int) - 1) && !eh x.aT i && (match m.aD[i.toNat]? with | some s=>decide (eg b=s) | none=>false) then (true,M.put m x i b) else (false,x)
theorem Yq (m:af) (x:aW) (i:Int) (b:List Int):um m x i b=(true,M.put m x i b)∨um m x i b=(false,x):=by
 unfold um
 generalize (am i 0 ((m.aD.length:Int) - 1) && !eh x.aT i && (match m.aD[i.toNat]? with | some s=>decide (eg b=s) | none=>false))=c
 cases c
 ·exact .inr rfl
 ·exact .inl rfl
theorem qaA (u:Nat) (p2:Int) (p3:List Int) (r6:Int×Int) (x:aW) (a:Nat) (ha:r6.1=(a:Int)) (hal:a≤1048576):∀ (l:List Int) (i:Nat) (s:List Int),a+i+l.length≤s.length→s.length≤4194304 →
  bt (zk u p2 p3 r6 x) (zl u p2 p3 r6 x) l i s=(nT u x.aT p2).bind fun q=>some (true,⟨q,s.take (a+i)++l++s.drop (a+i+l.length)⟩):=by
 intro l
 induction l with
 | nil=>intro i s _ _; simp [bt,zk,xR]
 | cons y l ih =>
  intro i s h1 h2
  simp only [List.length_cons] at h1
  simp only [bt,zl]
  rw [ha,dJ (by omega) (by omega),show (a:Int)+(i:Int)=((a+i:Nat):Int) by omega,br,List.getElem?_eq_getElem (by omega),Int.toNat_natCast]
  simp only [Option.bind_some]
  rw [ih (i+1) _ (by simp; omega) (by simp; omega)]
  have e1:(s.set (a+i) y).take (a+(i+1))=s.take (a+i)++[y]:=by
   rw [show a+(i+1)=(a+i)+1 by omega,List.take_add_one,List.take_set_of_le (Nat.le_refl _)]
   simp [show a+i < s.length by omega]
  have e2:(s.set (a+i) y).drop (a+(i+1)+l.length)=s.drop (a+i+(y :: l).length):=by
   rw [List.drop_set_of_lt (by omega)]; simp only [List.length_cons]; congr 1; omega
  rw [e1,e2]; simp
theorem Bq {m:af} {b:List Int} (hb:(b.length:Int)=m.aY) (i:Int):(cU m.aS m.aY i).1=(M.at_ m i:Int)∧(cU m.aS m.aY i).2=(sD m i:Int)∧M.at_ m i+sD m i≤b.length:=by
 obtain ⟨h1,h2,h3,h4⟩:=wW (size:=m.aS) (n:=m.aY) (i:=i) (by omega)
 unfold M.at_ sD
 omega
theorem V3 {i:Int} {n:Nat} (h:am i 0 ((n:Int) - 1)=true) (hn:n≤40):iT i=true∧0≤i:=by
 have:=b9 h
 unfold iT am
 simp; omega
theorem DA (u:Nat) {s i:Int} (hs:bF s=true) (hi:iT i=true):nT u s i=some (sV .i64 s (i4 .i64 1 i)):=by
 have:=b9 hi
 unfold nT rP
 rw [jU,hs]
 simp only [Option.bind_some,Bool.not_true,cond_false]
 rw [bU,show am i 0 39=true from hi]
 simp only [Option.bind_some,Bool.not_true,cond_false]
 rw [bA (by omega)]; rfl
theorem GP {u:Nat} (hu:1099511627776≤u) {m:af} (hm:cS m=true) {x:aW} (hx:(x.bh.length:Int)=m.aY) (hs:bF x.aT=true) (i:Int) {b:List Int} (hb:aF b) (hl:b.length≤1048576) :
  ur u m x i b=some (um m x i b):=by
 have h40:=u7 hm
 have h240:=HL hm
 unfold ur qg um
 simp (disch:=omega) only [cB,bU,qt,n6 hu hb (show b.length≤1073741824 by omega),Option.bind_some,B8]
 cases hw:am i 0 ((m.aD.length:Int) - 1) with
 | false=>simp
 | true=>cases eh x.aT i with
  | true=>simp
  | false =>
   have hw':=b9 hw
   obtain ⟨n,rfl⟩:∃ n:Nat,i=n:=⟨i.toNat,by omega⟩
   have hn:n < m.aD.length:=by omega
   obtain ⟨s,hs'⟩:∃ s,m.aD[n]?=some s:=⟨_,List.getElem?_eq_getElem hn⟩
   simp only [Bool.not_true,Bool.not_false,cond_false,br,hs',Option.bind_some,Int.toNat_natCast,Bool.true_and]
   by_cases hq:eg b=s
   ·obtain ⟨h1,h2⟩:=LV hb hq (LW hm hs')
    have h3:decide ((b.length:Int) > 6)=false:=by simp; omega
    obtain ⟨e1,e2,e3⟩:=Bq (b:=x.bh) hx n
    have h4:b.length=sD m n:=by omega
    simp only [hq,decide_true,Bool.not_true,cond_false,h3,mN,Option.bind_some,↓reduceIte]
    rw [MP u n b _ x x.bh u (by omega) (by omega),qaA u n b _ x (M.at_ m n) e1 (by omega) b 0 x.bh (by omega) (by omega),DA u hs (V3 hw (by omega)).1]
    unfold M.put
    rw [JD (by omega)]
    rfl
   ·simp [hq]
theorem ME (u:Nat) {m:af} {x:aW} (hx:(x.bh.length:Int)=m.aY) (n:Nat) {b:List Int} (hl:b.length≤sD m n) (hxl:x.bh.length≤1048576):k9 u x m n b=some (M.put m x n b):=by
 obtain ⟨e1,e2,e3⟩:=Bq (b:=x.bh) hx n
 unfold k9 nL M.put
 rw [oU]
 simp only [Option.bind_some]
 rw [e1,e2,tE (by omega),eK (by omega) e3]
 simp only [Option.bind_some]
 have h1:Vz (M.at_ m n:Int) ((M.at_ m n+sD m n:Nat):Int) (x.bh.length:Int) (b.length:Int)=true:=by unfold Vz; simp; omega
 rw [h1,bA (by omega),Int.toNat_natCast]
 rfl
def iS (m:af) (x:aW) (i:Int) (b:List Int):aW×Bool:=if ew m x && (um m x i b).1 then (M.put m x i b,true) else (x,false)
theorem FB {m:af} {x:aW} (h:ew m x=true):cS m=true∧bF x.aT=true:=by
 unfold ew at h
 simp only [Bool.and_eq_true] at h
 exact ⟨h.1.1.1.1,h.1.1.1.2⟩
theorem LX {u:Nat} (hu:1099511627776≤u) {m:af} (hm:m.aD.length≤1048576) {x:aW} (hx:M.BldWf x) (i:Int) {b:List Int} (hb:aF b) (hl:b.length≤1048576):s9 u m x i b=some (iS m x i b):=by
 unfold s9 rQ iS
 simp only [FA u hx.l,ul hu hm hx,Option.bind_some]
 cases hk:ew m x with
 | false=>rfl
 | true =>
  obtain ⟨h1,h2⟩:=FB hk
  simp only [Bool.not_true,cond_false,GP hu h1 (vd hk) h2 i hb hl,Option.bind_some,Bool.true_and]
  rcases Yq m x i b with h | h <;> rw [h] <;> rfl
theorem LY {u:Nat} (hu:1099511627776≤u) {m:af} (hm:m.aD.length≤1048576) {x:aW} (hx:M.BldWf x) (i:Int) {b:List Int} (hb:aF b) (hl:b.length≤1048576):tl u m x i b=some (iS m x i b):=by
 unfold tl lT iS
 simp (disch:=omega) only [B9 u hx.l,zJ hu hm hx,bG,cB,qs,tD hu hb (show b.length≤1073741824 by omega),B8,Option.bind_some]
 cases hk:ew m x with
 | false=>rfl
 | true =>
  obtain ⟨h1,h2⟩:=FB hk
  unfold um
  cases hw:am i 0 ((m.aD.length:Int) - 1) with
  | false=>simp
  | true=>cases eh x.aT i with
   | true=>simp
   | false =>
    have hw':=b9 hw
    obtain ⟨n,rfl⟩:∃ n:Nat,i=n:=⟨i.toNat,by omega⟩
    have hn:n < m.aD.length:=by omega
    obtain ⟨s,hs'⟩:∃ s,m.aD[n]?=some s:=⟨_,List.getElem?_eq_getElem hn⟩
    simp only [Bool.not_true,Bool.not_false,cond_false,br,hs',Option.bind_some,Int.toNat_natCast,Bool.true_and]
    by_cases hq:eg b=s
    ·obtain ⟨h3,h4⟩:=LV hb hq (LW h1 hs')
     obtain ⟨e1,e2,e3⟩:=Bq (b:=x.bh) (vd hk) n
     simp only [hq,decide_true,Bool.not_true,cond_false,↓reduceIte]
     rw [ME u (vd hk) n (by omega) hx.l]; rfl
    ·simp [hq]
def Ca (m:af) (old:List Int):Nat→Nat→aW→aW
 | 0,_,x=>x
 | n+1,i,x=>Ca m old n (i+1) (if 0≤dy old m i then M.put m x i (M.win old (dy old m i).toNat (sD m i)) else x)
def jz (m:af):aW:=if cS m then ⟨0,List.replicate m.aY.toNat 0⟩ else ⟨0,[]⟩
def rA (m:af) (old:List Int):aW:=if cS m then Ca m old m.aD.length 0 (jz m) else ⟨0,[]⟩
theorem JM {m:af} (hm:cS m=true):dW (decide (0≤m.aY) && (m.aY == 0 || m.aY == m.aY))=some ()∧dW (decide (Int.toNat m.aY*1≤140737488355328))=some ():=by
 have:=HL hm
 refine ⟨by simp [dW]; omega,bA (by omega)⟩
theorem LZ {u:Nat} (hu:1099511627776≤u) {m:af} (hm:m.aD.length≤1048576):s8 u m=some (jz m):=by
 unfold s8 jz
 simp only [iy hu m (show m.aD.length≤1073741824 by omega),Option.bind_some]
 cases h:cS m with
 | false=>rfl
 | true=>obtain ⟨h1,h2⟩:=JM h; rw [h1,h2]; rfl
theorem L0 {u:Nat} (hu:1099511627776≤u) {m:af} (hm:m.aD.length≤1048576):tk u m=some (jz m):=by
 unfold tk jz
 simp only [n7 hu m (show m.aD.length≤1073741824 by omega),Option.bind_some]
 cases h:cS m with
 | false=>rfl
 | true=>obtain ⟨h1,h2⟩:=JM h; rw [h1,h2]; rfl
theorem JN {b:List Int} {s:bM} {n:Nat}:∀ (c i:Nat),0≤fY b s n c i→eg (M.win b (fY b s n c i).toNat n)=s
 | 0,_,h=>by simp [fY] at h
 | c+1,i,h=>by
  unfold fY at h ⊢
  split
  ·rename_i hq; simpa using hq
  ·rename_i hq
   rw [if_neg hq] at h
   exact JN c (i+1) h
theorem HM {old:List Int} {m:af} {i:Nat} (h:0≤dy old m i):∃ s,m.aD[i]?=some s∧0≤(cU m.aS m.aY i).2∧eg (M.win old (dy old m i).toNat (sD m i))=s∧(dy old m i).toNat+sD m i≤old.length:=by
 unfold dy at h ⊢
 split at h
 ·rename_i s hs
  simp only [hs]
  unfold u9 at h ⊢
  split at h
  ·rename_i hw
   have:=b9 hw
   rw [if_pos hw]
   have h1:=JN _ _ h
   have h2:=QS old s (cU m.aS m.aY i).2.toNat (old.length+1 - (cU m.aS m.aY i).2.toNat) 0
   refine ⟨s,rfl,by omega,h1,?_⟩
   unfold sD
   omega
  ·omega
 ·omega
structure M.Part (m:af) (i:Nat) (x:aW):Prop where
 b:M.BldWf x
 l:(x.bh.length:Int)=m.aY
 h:∃ n:Nat,x.aT=n∧n < 2 ^ i
theorem MF {x p:List Int} {a:Nat} (h:a+p.length≤x.length) (hx:aF x) (hp:aF p):aF (zZ x p a)∧(zZ x p a).length=x.length:=by
 rw [JD h]
 refine ⟨fun z hz=>?_,by simp; omega⟩
 simp only [List.mem_append] at hz
 rcases hz with (hz | hz) | hz
 ·exact hx z (List.mem_of_mem_take hz)
 ·exact hp z hz
 ·exact hx z (List.mem_of_mem_drop hz)
theorem Ro {m:af} {i:Nat} {x:aW} (hp:M.Part m i x) (hi:i≤39) {b:List Int} (hb:aF b) (hl:b.length=sD m i):M.Part m (i+1) (M.put m x i b):=by
 obtain ⟨e1,e2,e3⟩:=Bq (b:=x.bh) hp.l i
 obtain ⟨h1,h2⟩:=MF (x:=x.bh) (p:=b) (a:=M.at_ m i) (by omega) hp.b.b hb
 obtain ⟨n,h3,h4⟩:=hp.h
 have h5:(2:Nat) ^ i≤2 ^ 39:=Nat.pow_le_pow_right (by omega) hi
 refine ⟨⟨h1,by unfold M.put; dsimp only; rw [h2]; exact hp.b.l⟩,by unfold M.put; dsimp only; rw [h2]; exact hp.l,n ||| 2 ^ i,?_,?_⟩
 ·unfold M.put
  dsimp only
  rw [h3,LH (by omega),FY (by omega) (by omega)]
 ·exact Nat.or_lt_two_pow (by rw [Nat.pow_succ]; omega) (by rw [Nat.pow_succ]; have:0 < 2 ^ i:=Nat.pow_pos (by omega); omega)
theorem L1 {m:af} {i j:Nat} {x:aW} (hp:M.Part m i x) (h:i≤j):M.Part m j x:=by
 obtain ⟨n,h3,h4⟩:=hp.h
 exact ⟨hp.b,hp.l,n,h3,Nat.lt_of_lt_of_le h4 (Nat.pow_le_pow_right (by omega) h)⟩
theorem WK {m:af} {i:Nat} {x:aW} (hp:M.Part m i x) (hi:i≤40):bF x.aT=true∧eh x.aT i=false:=by
 obtain ⟨n,h3,h4⟩:=hp.h
 have h5:(2:Nat) ^ i≤2 ^ 40:=Nat.pow_le_pow_right (by omega) hi
 constructor
 ·rw [h3]; unfold bF am; simp; omega
 ·unfold eh
  rw [h3,Int.toNat_natCast,Int.toNat_natCast,Nat.testBit_lt_two_pow h4,Bool.and_false]
theorem WL {old:List Int} (hl:old.length≤1048576) {p:Int} {n:Nat} (h0:0≤p) (h:p.toNat+n≤old.length):dW (dU p (aX .i64 p (n:Int)) old.length)=some ()∧(old.take (Int.toNat (aX .i64 p (n:Int)))).drop (Int.toNat p)=M.win old p.toNat n:=by
 obtain ⟨q,rfl⟩:∃ q:Nat,p=q:=⟨p.toNat,by omega⟩
 simp only [Int.toNat_natCast] at h ⊢
 rw [tE (by omega),eK (by omega) (by omega)]
 exact ⟨rfl,rfl⟩
theorem Xs {m:af} (hm:cS m=true) {old:List Int} (ho:aF old):∀ (n i:Nat) (x:aW),i+n=m.aD.length→M.Part m i x→M.Part m (i+n) (Ca m old n i x):=by
 have h40:=u7 hm
 intro n
 induction n with
 | zero=>intro i x _ hp; exact hp
 | succ n ih =>
  intro i x h hp
  simp only [Ca]
  by_cases hq:0≤dy old m i
  ·obtain ⟨s,g1,g2,g3,g4⟩:=HM hq
   have hb:=nQ ho (dy old m i).toNat (sD m i)
   have hbl:(M.win old (dy old m i).toNat (sD m i)).length=sD m i:=DZ g4
   have hput:=Ro hp (by omega) hb hbl
   have k3:=ih (i+1) _ (by omega) hput
   rw [if_pos hq]
   rwa [show i+1+n=i+(n+1) by omega] at k3
  ·have k3:=ih (i+1) x (by omega) (L1 hp (by omega))
   rw [if_neg hq]
   rwa [show i+1+n=i+(n+1) by omega] at k3
theorem Xt {u:Nat} (hu:1099511627776≤u) {m:af} (hm:cS m=true) {old:List Int} (ho:aF old) (hl:old.length≤1048576):∀ (n i:Nat) (x:aW),i+n=m.aD.length→M.Part m i x →
  qz (zR u old m) (sH u old m) n i (x.aT,x.bh)=some (Ca m old n i x):=by
 have h40:=u7 hm
 intro n
 induction n with
 | zero=>intro i x _ hp; exact rfl
 | succ n ih =>
  intro i x h hp
  obtain ⟨e1,e2,e3⟩:=Bq (b:=x.bh) hp.l i
  obtain ⟨f1,f2⟩:=WK hp (by omega)
  simp only [qz,Ca,sH,kt]
  rw [Oh hu ho (by omega) (by omega),mN]
  simp only [Option.bind_some]
  by_cases hq:0≤dy old m i
  ·obtain ⟨s,g1,g2,g3,g4⟩:=HM hq
   have hq':decide (dy old m i≥0)=true:=by simpa using hq
   rw [e2]
   obtain ⟨c1,c2⟩:=WL hl hq g4
   have hb:=nQ ho (dy old m i).toNat (sD m i)
   have hbl:(M.win old (dy old m i).toNat (sD m i)).length=sD m i:=DZ g4
   have hput:=Ro hp (by omega) hb hbl
   have k1:=ih (i+1) _ (by omega) hput
   have h6:(M.win old (dy old m i).toNat (sD m i)).length≤1048576:=by omega
   have hl8:um m x i (M.win old (dy old m i).toNat (sD m i))=(true,M.put m x i (M.win old (dy old m i).toNat (sD m i))):=by
    unfold um
    have hw:am (i:Int) 0 ((m.aD.length:Int) - 1)=true:=by unfold am; simp; omega
    rw [hw,f2,Int.toNat_natCast,g1]
    simp [g3]
   rw [if_pos hq]
   simp only [hq',cond_true,c1,c2,Option.bind_some,GP hu hm hp.l f1 i hb h6,hl8]
   exact k1
  ·have hq':decide (dy old m i≥0)=false:=by simpa using hq
   have k1:=ih (i+1) x (by omega) (L1 hp (by omega))
   rw [if_neg hq]
   simp only [hq',cond_false]
   exact k1
theorem Xu {u:Nat} (hu:1099511627776≤u) {m:af} (hm:cS m=true) {old:List Int} (ho:aF old) (hl:old.length≤1048576):∀ (n i:Nat) (x:aW),i+n=m.aD.length→M.Part m i x →
  qz (zU u old m) (sJ u old m) n i (x.aT,x.bh)=some (Ca m old n i x):=by
 have h40:=u7 hm
 intro n
 induction n with
 | zero=>intro i x _ hp; exact rfl
 | succ n ih =>
  intro i x h hp
  obtain ⟨e1,e2,e3⟩:=Bq (b:=x.bh) hp.l i
  obtain ⟨f1,f2⟩:=WK hp (by omega)
  simp only [qz,Ca,sJ,kx]
  rw [Og hu ho (by omega) (by omega),oU]
  simp only [Option.bind_some]
  by_cases hq:0≤dy old m i
  ·obtain ⟨s,g1,g2,g3,g4⟩:=HM hq
   have hq':decide (dy old m i≥0)=true:=by simpa using hq
   rw [e2]
   obtain ⟨c1,c2⟩:=WL hl hq g4
   have hb:=nQ ho (dy old m i).toNat (sD m i)
   have hbl:(M.win old (dy old m i).toNat (sD m i)).length=sD m i:=DZ g4
   have hput:=Ro hp (by omega) hb hbl
   have k1:=ih (i+1) _ (by omega) hput
   rw [if_pos hq]
   simp only [hq',cond_true,c1,c2,Option.bind_some,ME u hp.l i (Nat.le_of_eq hbl) hp.b.l]
   exact k1
  ·have hq':decide (dy old m i≥0)=false:=by simpa using hq
   have k1:=ih (i+1) x (by omega) (L1 hp (by omega))
   rw [if_neg hq]
   simp only [hq',cond_false]
   exact k1
theorem Rp {m:af} (hm:cS m=true):M.Part m 0 (jz m):=by
 have:=HL hm
 unfold jz
 rw [if_pos hm]
 exact ⟨⟨by simp [aF],by simp; omega⟩,by simp; omega,0,rfl,by simp⟩
theorem Rq {m:af} (hm:cS m=true) {old:List Int} (ho:aF old) (hl:old.length≤1048576):M.Part m m.aD.length (rA m old):=by
 have:=Xs hm ho m.aD.length 0 _ (by omega) (Rp hm)
 unfold rA
 rw [if_pos hm]
 simpa using this
theorem JO {u:Nat} (hu:1099511627776≤u) {m:af} (hs:m.aD.length≤1048576) {old:List Int} (ho:aF old) (hl:old.length≤1048576):q5 u m old=some (rA m old):=by
 unfold q5 rA
 simp only [LZ hu hs,iy hu m (show m.aD.length≤1073741824 by omega),Option.bind_some]
 cases hm:cS m with
 | false=>simp [jz,hm]
 | true =>
  simp only [Bool.not_true,cond_false,↓reduceIte]
  rw [F9 u old m ((jz m).aT,(jz m).bh) u (by omega) (by omega),Int.toNat_natCast]
  exact Xt hu hm ho hl m.aD.length 0 _ (by omega) (Rp hm)
theorem JP {u:Nat} (hu:1099511627776≤u) {m:af} (hs:m.aD.length≤1048576) {old:List Int} (ho:aF old) (hl:old.length≤1048576):rk u m old=some (rA m old):=by
 unfold rk rA
 simp only [L0 hu hs,n7 hu m (show m.aD.length≤1073741824 by omega),Option.bind_some]
 cases hm:cS m with
 | false=>simp [jz,hm]
 | true =>
  simp only [Bool.not_true,cond_false,↓reduceIte]
  rw [Gb u old m ((jz m).aT,(jz m).bh) u (by omega) (by omega),Int.toNat_natCast]
  exact Xu hu hm ho hl m.aD.length 0 _ (by omega) (Rp hm)
def gV (d:aG):Int:=cu .i64 1 d.fR.cL
theorem CA (u:Nat) (d:aG):qR u d=some (gV d):=rfl
theorem Sw (u:Nat) (d:aG):DF u d=some (gV d):=rfl
theorem Yr {d:aG} (h:em d=true):d.fP.length≤200:=by
 unfold em at h
 simp only [Bool.and_eq_true,decide_eq_true_eq] at h
 exact h.1.2
theorem Rr {u:Nat} (hu:1099511627776≤u) {m:ei} (hm:M.MsgWf m):yz u m=some (gL m):=by
 have k:=bi [] m.bz
 have g:=bi (aQ [] m.bz) m.aP
 simp only [List.length_nil] at k
 have hl:=hm.len
 obtain ⟨hb,hbl⟩:=HI hm
 unfold yz gL
 rw [Cv hu hm.sums]
 simp only [Option.bind_some]
 cases hok:lD m with
 | false=>rfl
 | true =>
  simp only [Bool.not_true,cond_false,if_true]
  rw [dM hu (by simp)]
  simp only [Option.bind_some]
  have tail:mE u (eu m)=some (aQ (eu m) (cx (eu m))):=by
   unfold mE
   rw [wV hu hb (by omega)]
   simp only [Option.bind_some]
   rw [dM hu (by omega)]; rfl
  rw [← tail]
  clear tail hbl hb
  unfold eu pU
  by_cases h1:m.bz=1
  ·simp only [h1,beq_self_eq_true,cond_true,if_true]
   rw [h1] at k
   rw [QO hu (by omega) (by have:=hm.sums; omega) hm.wf]; rfl
  ·have e1:(m.bz == 1)=false:=by simpa using h1
   by_cases h2:m.bz=2
   ·rw [h2] at k g
    have h3:=bi (aQ (aQ [] 2) m.aP) (fx .i64 m.bw 1048575)
    have h4:=bi (aQ (aQ (aQ [] 2) m.aP) (fx .i64 m.bw 1048575)) (nY .i64 m.bw 20)
    have h5:=bi (aQ (aQ (aQ (aQ [] 2) m.aP) (fx .i64 m.bw 1048575)) (nY .i64 m.bw 20)) (fx .i64 m.bL 1048575)
    simp only [h2,beq_self_eq_true,cond_true,if_true,vK]
    rw [dM hu (by omega)]; simp only [Option.bind_some]
    rw [dM hu (by omega)]; simp only [Option.bind_some]
    rw [dM hu (by omega)]; simp only [Option.bind_some]
    rw [dM hu (by omega)]; simp only [Option.bind_some]
    rw [dM hu (by omega)]; rfl
   ·have e2:(m.bz == 2)=false:=by simpa using h2
    by_cases h3:m.bz=3
    ·rw [h3] at k g
     have h4:=bi (aQ (aQ [] 3) m.aP) m.fI
     have h5:=bi (aQ (aQ (aQ [] 3) m.aP) m.fI) m.fB.length
     simp only [h3,beq_self_eq_true,cond_true,if_true,Ab]
     rw [dM hu (by omega)]; simp only [Option.bind_some]
     rw [dM hu (by omega)]; simp only [Option.bind_some]
     rw [dM hu (by omega)]; simp only [Option.bind_some]
     rw [bA (by omega)]; rfl
    ·have e3:(m.bz == 3)=false:=by simpa using h3
     by_cases h4:m.bz=4
     ·rw [h4] at k
      simp only [h4,beq_self_eq_true,cond_true,if_true]
      rw [dM hu (by omega)]; rfl
     ·have e4:(m.bz == 4)=false:=by simpa using h4
      rw [Ra h1 h2 h3 h4] at hok; cases hok
def pD (f t:Int) (m:ei):au:=⟨f,t,gL m⟩
def F1 (g i:Int) (b:List Int):ei:=⟨3,g,HJ,0,0,i,b⟩
theorem Br (g i:Int) {b:List Int} (hb:aF b) (hl:b.length≤1048576):M.MsgWf (F1 g i b):=JI _ _ _ _ _ hb hl
theorem o0 {u:Nat} (hu:1099511627776≤u) (f t:Int) {m:ei} (hm:M.MsgWf m):iw u f t m=some (pD f t m):=by
 unfold iw
 rw [Rr hu hm]; rfl
theorem o3 {u:Nat} (hu:1099511627776≤u) (f t:Int) {m:ei} (hm:M.MsgWf m):jO u f t m=some (pD f t m):=by
 unfold jO
 rw [Bk hu hm]; rfl
theorem EC (u:Nat) (g i:Int) {b:List Int} (hl:b.length≤1048576):pr u g i b=some (F1 g i b):=by
 unfold pr
 rw [Rn hl]; rfl
theorem ED (u:Nat) (g i:Int) {b:List Int} (hl:b.length≤1048576):nK u g i b=some (F1 g i b):=by
 unfold nK
 rw [gK u (by omega)]; rfl
theorem Bs (m:af) {x:aW} (hx:M.BldWf x) (i:Int):aF (ey m x i).1∧(ey m x i).1.length≤1048576:=by
 unfold ey
 split
 ·exact Dz hx.b hx.l _ _
 ·exact ⟨l0,by simp⟩
def w9 (n:aA) (f t i:Int):au:=pD f t (F1 n.av.aP i (ey n.av n.a7 i).1)
def gn (n:aA) (f t:Int):Act :=
 ⟨⟨n.fK,n.bf,n.be,n.av,n.a7,n.aJ,mQ n.aN t (jm n.aN t n.a7.aT),n.a8⟩,((lX (jm n.aN t n.a7.aT)).filter fun i=>(ey n.av n.a7 i).2).map (w9 n f t)⟩
theorem FC (s:Int):(lX s).length≤40:=by
 unfold lX
 split
 ·rw [List.length_map]
  exact Nat.le_trans (List.length_filter_le _ _) (by simp)
 ·simp
theorem TW {s:List au} (hl:s.length≤1048576) (p:au):dW (decide ((s.length + [p].length)*40≤140737488355328))=some ():=bA (by simp; omega)
theorem JQ {u:Nat} (hu:1099511627776≤u) {n:aA} (hn:M.NodWf n) (f t:Int):qZ u n f t=some (gn n f t):=by
 have hp:=FC (jm n.aN t n.a7.aT)
 unfold qZ uR
 simp only [jf u hn,Fx hu hn.k,N9 hu,Option.bind_some]
 rw [F8 u _ _ _ _ _ _ _ u (by omega) (by omega),Rj (xs:=lX (jm n.aN t n.a7.aT)) (fun i=>(ey n.av n.a7 i).2) (w9 n f t) (fun x i s k hx hi hs=>?_) (lX (jm n.aN t n.a7.aT)) 0 [] rfl (by simp)]
 ·unfold zP qB
  rw [Dv hu hn.k]; rfl
 ·unfold zQ kp
  have w:=Bs n.av hn.b x
  rw [EA hu hn.s hn.b]
  simp only [Option.bind_some]
  cases (ey n.av n.a7 x).2 with
  | false=>rfl
  | true =>
   have e:ci (lX (jm n.aN t n.a7.aT)) (i:Int)=some x:=by rw [br]; exact hx
   simp only [cond_true,e,Option.bind_some,EC u _ _ w.2,o0 hu _ _ (Br _ _ w.1 w.2),TW (show s.length≤1048576 by omega)]
   rfl
theorem JR {u:Nat} (hu:1099511627776≤u) {n:aA} (hn:M.NodWf n) (f t:Int):rj u n f t=some (gn n f t):=by
 have hp:=FC (jm n.aN t n.a7.aT)
 unfold rj rh
 simp only [jy u hn,Fy hu hn.k,N8 hu,Option.bind_some]
 rw [Ga u _ _ _ _ _ _ _ u (by omega) (by omega),Rj (xs:=lX (jm n.aN t n.a7.aT)) (fun i=>(ey n.av n.a7 i).2) (w9 n f t) (fun x i s k hx hi hs=>?_) (lX (jm n.aN t n.a7.aT)) 0 [] rfl (by simp)]
 ·unfold zS qE
  rw [Dw hu hn.k]; rfl
 ·unfold zT kw
  have w:=Bs n.av hn.b x
  rw [EB hu hn.s hn.b]
  simp only [Option.bind_some]
  cases (ey n.av n.a7 x).2 with
  | false=>rfl
  | true =>
   simp only [cond_true,Option.bind_some,ED u _ _ w.2,o3 hu _ _ (Br _ _ w.1 w.2),TW (show s.length≤1048576 by omega)]
   rfl
theorem Sy (n:aA) (f t:Int):(gn n f t).sU.length≤40:=by
 have hp:=FC (jm n.aN t n.a7.aT)
 unfold gn
 have:=List.length_filter_le (fun i=>(ey n.av n.a7 i).2) (lX (jm n.aN t n.a7.aT))
 simp only [List.length_map]
 omega
def lq (n:aA) (l:List Kid):aA:=⟨n.fK,n.bf,n.be,n.av,n.a7,n.aJ,l,n.a8⟩
def Bt (g:Int):ei:=⟨4,g,HJ,0,0,0,[]⟩
def FD (m:af):ei:=⟨1,0,m,0,0,0,[]⟩
theorem Au (g:Int):M.MsgWf (Bt g):=JI _ _ _ _ _ l0 (by simp)
theorem L2 {m:af} (hs:m.aD.length≤1048576) (hw:xY m):M.MsgWf (FD m):=⟨hs,hw,l0,by simp [FD]⟩
def eZ (n:aA) (me f:Int) (m:ei):Act :=
 if f=me then ⟨n,[]⟩ else
 let l:=n8 n.aN f m.bw m.bL
 if n.aJ=0 then ⟨lq n l,[pD me f (Bt 0)]⟩
 else if m.aP=n.av.aP then
  (let a:=gn (lq n l) me f; if a.sU.length=0 then ⟨a.fN,[pD me f (Bt n.av.aP)]⟩ else a)
 else ⟨lq n l,[pD me f (FD n.av)]⟩
theorem Cb {n:aA} (hn:M.NodWf n) {l:List Kid} (hl:l.length≤1048577):M.NodWf (lq n l):=⟨hn.s,hn.b,hl,hn.w⟩
theorem V4 (p:au):dW (decide (((([]:List au)).length + [p].length)*40≤140737488355328))=some ():=bA (by simp)
theorem HN {u:Nat} (hu:1099511627776≤u) {n:aA} (hn:M.NodWf n) (hk:n.aN.length≤1048576) (me f:Int) (m:ei):pJ u n me f m=some (eZ n me f m):=by
 unfold pJ eZ pt pu
 simp only [jf u hn,Option.bind_some]
 by_cases h1:f=me
 ·simp only [h1,beq_self_eq_true,cond_true,if_true]
 ·have e1:(f == me)=false:=by simpa using h1
  have hl:=Rk n.aN f m.bw m.bL
  simp only [e1,h1,cond_false,if_false,TU hu hk,Option.bind_some]
  by_cases h2:n.aJ=0
  ·simp only [h2,beq_self_eq_true,cond_true,if_true]
   rw [show (ei.mk 4 0 (af.mk 0 0 0 []) 0 0 0 [])=Bt 0 from rfl,o0 hu me f (Au 0)]
   simp only [Option.bind_some,V4,List.nil_append,← h2]; rfl
  ·have e2:(n.aJ == 0)=false:=by simpa using h2
   simp only [e2,h2,cond_false,if_false]
   by_cases h3:m.aP=n.av.aP
   ·simp only [h3,bne_self_eq_false,cond_false,if_true]
    rw [show (aA.mk n.fK n.bf n.be n.av n.a7 n.aJ (n8 n.aN f m.bw m.bL) n.a8)=lq n (n8 n.aN f m.bw m.bL) from rfl,JQ hu (Cb hn (by omega)) me f]
    simp only [Option.bind_some]
    cases ha:gn (lq n (n8 n.aN f m.bw m.bL)) me f with
    | mk an ao =>
     cases ao with
     | nil =>
      rw [show (ei.mk 4 n.av.aP (af.mk 0 0 0 []) 0 0 0 [])=Bt n.av.aP from rfl,o0 hu me f (Au _)]
      simp only [Option.bind_some,V4]; rfl
     | cons p ps =>
      have e3:(((p :: ps).length:Int) == 0)=false:=by simp; omega
      simp only [e3,cond_false]; simp
   ·have e3:(m.aP != n.av.aP)=true:=by simpa using h3
    simp only [e3,h3,cond_true,if_false]
    rw [show (ei.mk 1 0 n.av 0 0 0 [])=FD n.av from rfl,o0 hu me f (L2 hn.s hn.w)]
    simp only [Option.bind_some,V4]; rfl
theorem HO {u:Nat} (hu:1099511627776≤u) {n:aA} (hn:M.NodWf n) (hk:n.aN.length≤1048576) (me f:Int) (m:ei):pP u n me f m=some (eZ n me f m):=by
 unfold pP eZ mI
 simp only [jy u hn,Option.bind_some]
 by_cases h1:f=me
 ·simp only [h1,beq_self_eq_true,cond_true,if_true]
 ·have e1:(f == me)=false:=by simpa using h1
  have hl:=Rk n.aN f m.bw m.bL
  simp only [e1,h1,cond_false,if_false,TV hu hk,Option.bind_some]
  by_cases h2:n.aJ=0
  ·simp only [h2,beq_self_eq_true,cond_true,if_true]
   rw [show (ei.mk 4 0 (af.mk 0 0 0 []) 0 0 0 [])=Bt 0 from rfl,o3 hu me f (Au 0)]
   simp only [Option.bind_some,← h2]; rfl
  ·have e2:(n.aJ == 0)=false:=by simpa using h2
   simp only [e2,h2,cond_false,if_false]
   by_cases h3:m.aP=n.av.aP
   ·simp only [h3,bne_self_eq_false,cond_false,if_true]
    rw [show (aA.mk n.fK n.bf n.be n.av n.a7 n.aJ (n8 n.aN f m.bw m.bL) n.a8)=lq n (n8 n.aN f m.bw m.bL) from rfl,JR hu (Cb hn (by omega)) me f]
    simp only [Option.bind_some]
    cases ha:gn (lq n (n8 n.aN f m.bw m.bL)) me f with
    | mk an ao =>
     cases ao with
     | nil =>
      rw [show (ei.mk 4 n.av.aP (af.mk 0 0 0 []) 0 0 0 [])=Bt n.av.aP from rfl,o3 hu me f (Au _)]
      simp only [Option.bind_some]; rfl
     | cons p ps =>
      have e3:decide ((((p :: ps).length:Nat):Int) > 0)=true:=by simp
      simp only [e3,cond_true]; simp
   ·have e3:(m.aP != n.av.aP)=true:=by simpa using h3
    simp only [e3,h3,cond_true,if_false]
    rw [show (ei.mk 1 0 (af.mk n.av.aP n.av.aS n.av.aY n.av.aD) 0 0 0 [])=FD n.av from rfl,o3 hu me f (L2 hn.s hn.w)]
    simp only [Option.bind_some]; rfl
theorem Y4 {i:Int} (hi:iT i=true):sV .i64 0 (i4 .i64 1 i)=i4 .i64 1 i:=by
 have h:=b9 hi
 obtain ⟨n,rfl⟩:∃ n:Nat,i=n:=⟨i.toNat,by omega⟩
 have hp:2 ^ n≤2 ^ 39:=Nat.pow_le_pow_right (by omega) (by omega)
 have e:=Q1 (a:=1) (n:=n) (by omega) (by omega)
 have e2:i4 .i64 1 (n:Int)=((1*2 ^ n:Nat):Int):=e
 rw [e2]
 have:=FY (a:=0) (b:=1*2 ^ n) (by omega) (by omega)
 simpa using this
theorem GQ {m:af} {x:aW} {i:Int} (h:(ey m x i).2=true):iT i=true:=by
 unfold ey at h
 split at h
 ·rename_i h1
  simp only [Bool.and_eq_true,eh] at h1
  exact h1.2.1.2
 ·cases h
def eI (n:aA) (me i:Int) (s:List Kid×List au) (x:Kid):List Kid×List au :=
 if eh (jm s.1 x.fb n.a7.aT) i then (mQ s.1 x.fb (i4 .i64 1 i),s.2++[w9 n me x.fb i]) else s
def JS (n:aA) (me i:Int):List Kid×List au:=n.aN.foldl (eI n me i) (n.aN,[])
def kD (n:aA) (me i:Int):Act:=if (ey n.av n.a7 i).2 then ⟨lq n (JS n me i).1,(JS n me i).2⟩ else ⟨n,[]⟩
theorem FE (n:aA) (me i:Int) (s:List Kid×List au) (x:Kid):(eI n me i s x).1.length=s.1.length∧(eI n me i s x).2.length≤s.2.length+1:=by
 unfold eI
 split
 ·exact ⟨JL _ _ _,by simp⟩
 ·exact ⟨rfl,by omega⟩
theorem Y5 (n:aA) (me i:Int):∀ (l:List Kid) (s:List Kid×List au),(l.foldl (eI n me i) s).1.length=s.1.length∧(l.foldl (eI n me i) s).2.length≤s.2.length+l.length:=by
 intro l
 induction l with
 | nil=>intro s; exact ⟨rfl,by simp⟩
 | cons x l ih =>
  intro s
  have h:=ih (eI n me i s x)
  have g:=FE n me i s x
  simp only [List.foldl_cons,List.length_cons]
  omega
theorem V5 {u:Nat} (hu:1099511627776≤u) {n:aA} (hn:M.NodWf n) (me i:Int) (h:(ey n.av n.a7 i).2=true):∀ (l:List Kid) (k j:Nat) (s:List Kid×List au),l=n.aN.drop j→l.length < k→s.1.length≤1048577→s.2.length≤j →
  eB u k me i (ey n.av n.a7 i) (j:Int) n n s.1 s.2=some ⟨lq n (l.foldl (eI n me i) s).1,(l.foldl (eI n me i) s).2⟩:=by
 have w:=Bs n.av hn.b i
 have pl:=GQ h
 have hk:=hn.k
 intro l
 induction l with
 | nil =>
  intro k j s hl hf h1 h2
  obtain ⟨k,rfl⟩:∃ k',k=k'+1:=⟨k - 1,by simp at hf; omega⟩
  have hj:n.aN.length≤j:=by
   have:=congrArg List.length hl; simp at this; omega
  have e:decide ((j:Int) < (n.aN.length:Int))=false:=by simp; omega
  simp only [eB,e,cond_false,ng,t2]
  rfl
 | cons x l ih =>
  intro k j s hl hf h1 h2
  obtain ⟨k,rfl⟩:∃ k',k=k'+1:=⟨k - 1,by simp at hf; omega⟩
  have hx:n.aN[j]?=some x:=by
   have:=congrArg List.head? hl
   simpa [List.head?_drop] using this.symm
  have hl2:l=n.aN.drop (j+1):=by
   have:=congrArg List.tail hl
   simpa [List.tail_drop] using this
  have hj:=(List.getElem?_eq_some_iff.1 hx).1
  have e:decide ((j:Int) < (n.aN.length:Int))=true:=by simp; omega
  have g:=FE n me i s x
  have r:=ih k (j+1) (eI n me i s x) hl2 (by simp at hf; omega) (by omega) (by omega)
  simp only [List.foldl_cons,← r]
  simp only [eB,e,cond_true,ng,h,t6,br,hx,uR,Option.bind_some,Fx hu h1,qt]
  rw [tE (a:=j) (b:=1) (by omega) |> (fun (e:aX .i64 (j:Int) ((1:Nat):Int)=_)=>show aX .i64 (j:Int) 1=((j+1:Nat):Int) from e)]
  cases hs:eh (jm s.1 x.fb n.a7.aT) i with
  | false =>
   simp only [cond_false,eI,hs,Bool.false_eq_true,if_false]
  | true =>
   simp only [cond_true,EC u _ _ w.2,Option.bind_some,o0 hu _ _ (Br _ _ w.1 w.2),TW (show s.2.length≤1048576 by omega),DA u (s:=0) rfl pl,Y4 pl,Dv hu h1]
   simp only [eI,hs,if_true]
   rfl
theorem Ox {u:Nat} (hu:1099511627776≤u) {n:aA} (hn:M.NodWf n) (me i:Int):vQ u n me i=some (kD n me i):=by
 unfold vQ kD
 simp only [jf u hn,EA hu hn.s hn.b,Option.bind_some]
 have hk:=hn.k
 cases h:(ey n.av n.a7 i).2 with
 | true =>
  have:=V5 hu hn me i h n.aN u 0 (n.aN,[]) rfl (by omega) hk (by simp)
  exact this
 | false =>
  obtain ⟨k,rfl⟩:∃ k,u=k+1:=⟨u - 1,by omega⟩
  simp only [eB,ng,h,cond_false,t2]
  cases decide ((0:Int) < (n.aN.length:Int)) <;> simp
theorem V6 {α σ ρ:Type} {fin:σ→Option ρ} {body:α→Nat→σ→(σ→Option ρ)→Option ρ} (f:σ→α→σ) (I:Nat→σ→Prop) (hI:∀ x i s,I i s→I (i+1) (f s x)) {n:Nat} (hb:∀ x i s k,I i s→i < n→body x i s k=k (f s x)) :
  ∀ (l:List α) (i:Nat) (s:σ),I i s→i+l.length≤n→bt fin body l i s=fin (l.foldl f s):=by
 intro l
 induction l with
 | nil=>intro i s _ _; rfl
 | cons x l ih =>
  intro i s h hl
  simp only [List.length_cons] at hl
  simp only [bt]
  rw [hb x i s _ h (by omega),ih (i+1) _ (hI x i s h) (by omega)]; rfl
theorem Oy {u:Nat} (hu:1099511627776≤u) {n:aA} (hn:M.NodWf n) (me i:Int):wn u n me i=some (kD n me i):=by
 unfold wn kD
 simp only [jy u hn,EB hu hn.s hn.b,Option.bind_some]
 have hk:=hn.k
 have w:=Bs n.av hn.b i
 cases h:(ey n.av n.a7 i).2 with
 | false=>rfl
 | true =>
  have pl:=GQ h
  simp only [Bool.not_true,cond_false,if_true]
  have e:=Iz u me i (ey n.av n.a7 i) n n (n.aN,[]) u (by omega) (by omega)
  refine e.trans ?_
  rw [V6 (eI n me i) (fun j s=>s.1.length≤1048577∧s.2.length≤j) (fun x j s h=>by have:=FE n me i s x; omega) (n:=n.aN.length) (fun x j s k hI hj=>?_) n.aN 0 (n.aN,[]) ⟨hk,by simp⟩ (by omega)]
  ·rfl
  ·have pl2:dW (decide (0≤i))=some ():=bA (by have:=b9 pl; omega)
   unfold BU nm
   simp only [rh,Option.bind_some,Fy hu hI.1,qs]
   cases hs:eh (jm s.1 x.fb n.a7.aT) i with
   | false=>simp only [cond_false,eI,hs,Bool.false_eq_true,if_false]
   | true =>
    simp only [cond_true,ED u _ _ w.2,Option.bind_some,o3 hu _ _ (Br _ _ w.1 w.2),TW (show s.2.length≤1048576 by omega),pl2,Dw hu hI.1]
    simp only [eI,hs,if_true]
    rfl
theorem Xv {α:Type} [DecidableEq α]:∀ (a b:List α),Bf (fun x y=>decide (x=y)) a b=Bf (fun x y=>decide (x=y)) b a:=by
 intro a
 induction a with
 | nil=>intro b; cases b <;> rfl
 | cons x a ih =>
  intro b
  cases b with
  | nil=>rfl
  | cons y b =>
   simp only [Bf]
   rw [ih b,show decide (x=y)=decide (y=x) from decide_eq_decide.2 eq_comm]
theorem OU {α:Type} [DecidableEq α] (a b:α):(a == b)=(b == a):=Bool.eq_iff_iff.2 ⟨fun h=>beq_iff_eq.2 (beq_iff_eq.1 h).symm,fun h=>beq_iff_eq.2 (beq_iff_eq.1 h).symm⟩
theorem TX (a b:af):et a b=et b a:=by
 unfold et M.same
 rw [Xv,OU a.aP,OU a.aS,OU a.aY,OU a.aD.length]
structure M.DB (d:aG):Prop where
 a:aF d.fA
 b:aF d.fB
 p:∀ x∈d.fP,aF x.fB
theorem TY {l:List Int} (h:aF l) (n:Nat):aF (l.take n):=fun x hx=>h x (List.mem_of_mem_take hx)
theorem TZ {d:aG} (h:M.DB d) (n:Int):aF (iP d n):=by
 unfold iP; split
 ·exact h.a
 ·exact h.b
theorem yh {d:aG} (h:M.DB d):aF (eH d).2∧(eH d).2.length≤240:=by
 unfold eH
 split
 ·rename_i hd
  have:=LM hd d.fR.cL
  exact ⟨TY (TZ h _) _,by simp only [List.length_take]; omega⟩
 ·exact ⟨l0,by simp⟩
theorem L3 {b:List Int} (hb:aF b):M.MsgWf (hU b).1:=by
 unfold hU
 split
 ·rename_i h
  simp only [Bool.and_eq_true] at h
  have g:=cA hb (Ta _ h.1)
  have p:=LR hb (k:=(a9 b 0).1) (a:=(a9 b 0).2.1) (by simpa using g.2.2.2.2.2)
  cases hr:Cx b (a9 b 0).1 (a9 b 0).2.1 with
  | none=>exact JI _ _ _ _ _ l0 (by simp)
  | some x =>
   obtain ⟨m,e⟩:=x
   have q:=p m e hr
   dsimp only
   split
   ·exact q.1
   ·exact JI _ _ _ _ _ l0 (by simp)
 ·exact JI _ _ _ _ _ l0 (by simp)
def M.drop (n:aA):aA:=⟨n.fK,n.bf,n.be,n.av,n.a7,n.aJ,n.aN,aX .i64 n.a8 1⟩
theorem zK (u:Nat) {n:aA} (h:M.NodWf n):lz u n=some (M.drop n):=by
 unfold lz
 rw [jf u h]; rfl
def nx (n:aA) (d:aG) (m:af):aA :=
 if n.aJ=0 then
  (if cS m && (m.aP != 0) then ⟨n.fK,n.bf,n.be,m,rA m (eH d).2,if ((eH d).1 == m.aP) && M.tells m (eH d).2 then 5 else 1,n.aN,n.a8⟩ else n)
 else if et n.av m then n else M.drop n
theorem Oz {u:Nat} (hu:1099511627776≤u) {n:aA} (hn:M.NodWf n) {d:aG} (hd:M.DOk d) (hb:M.DB d) {m:af} (hm:m.aD.length≤1048576):vP u n d m=some (nx n d m):=by
 obtain ⟨rb,rl⟩:=yh hb
 unfold vP nx t1 tZ tY
 simp only [jf u hn,pT hu hn.s,zK u hn,iy hu m (show m.aD.length≤1073741824 by omega),Ex hu hd,Fz u hm,JO hu hm rb (show _≤1048576 by omega),Su hu m rb (show _≤1048576 by omega),Option.bind_some]
 by_cases h:n.aJ=0
 ·have e:(n.aJ != 0)=false:=by simp [h]
  rw [if_pos h]
  simp only [e,cond_false]
  rw [show (m.aP != 0)=!(m.aP == 0) from rfl]
  cases cS m <;> cases (m.aP == 0) <;> cases ((eH d).1 == m.aP) <;> cases M.tells m (eH d).2 <;> rfl
 ·have e:(n.aJ != 0)=true:=by simpa using h
  simp only [e,h,cond_true,if_false]
  cases et n.av m <;> rfl
theorem JT {u:Nat} (hu:1099511627776≤u) {d:aG} (hd:M.DOk d) (hb:M.DB d) (m:af):rm u d m=some (((eH d).1 == m.aP) && M.tells m (eH d).2):=by
 obtain ⟨rb,rl⟩:=yh hb
 unfold rm
 simp only [zH hu hd,Sv hu m rb (show _≤1048576 by omega),Option.bind_some]
 cases ((eH d).1 == m.aP) <;> rfl
theorem OA {u:Nat} (hu:1099511627776≤u) {n:aA} (hn:M.NodWf n) {d:aG} (hd:M.DOk d) (hb:M.DB d) {m:af} (hm:m.aD.length≤1048576):wm u n d m=some (nx n d m):=by
 obtain ⟨rb,rl⟩:=yh hb
 unfold wm nx ug la
 simp only [jy u hn,zG hu hm,TX m n.av,n7 hu m (show m.aD.length≤1073741824 by omega),zH hu hd,Ez u hm,JP hu hm rb (show _≤1048576 by omega),JT hu hd hb m,Option.bind_some]
 by_cases h:n.aJ=0
 ·have e:(n.aJ != 0)=false:=by simp [h]
  rw [if_pos h]
  simp only [e,cond_false]
  rw [show (m.aP != 0)=!(m.aP == 0) from rfl]
  cases cS m <;> cases (m.aP == 0) <;> cases ((eH d).1 == m.aP) <;> cases M.tells m (eH d).2 <;> rfl
 ·have e:(n.aJ != 0)=true:=by simpa using h
  simp only [e,h,cond_true,if_false]
  cases et n.av m <;> rfl
def DC (n:aA) (x:aW):aA:=⟨n.fK,n.bf,n.be,n.av,x,n.aJ,n.aN,n.a8⟩
def lr (n:aA) (me:Int) (m:ei):Act :=
 if n.aJ=0∨m.aP≠n.av.aP then ⟨M.drop n,[]⟩
 else if eh n.a7.aT m.fI then ⟨n,[]⟩
 else if (iS n.av n.a7 m.fI m.fB).2 then kD (DC n (iS n.av n.a7 m.fI m.fB).1) me m.fI
 else ⟨M.drop n,[]⟩
theorem Y6 {m:af} {x:aW} {i:Int} {b:List Int} (h:(um m x i b).1=true):am i 0 ((m.aD.length:Int) - 1)=true∧(match m.aD[i.toNat]? with | some s=>decide (eg b=s) | none=>false)=true:=by
 unfold um at h
 generalize hc:(am i 0 ((m.aD.length:Int) - 1) && !eh x.aT i && (match m.aD[i.toNat]? with | some s=>decide (eg b=s) | none=>false))=c at h
 cases c with
 | false=>cases h
 | true=>simp only [Bool.and_eq_true] at hc; exact ⟨hc.1.1,hc.2⟩
theorem FF {m:af} {x:aW} (hx:M.BldWf x) (i:Int) {b:List Int} (hb:aF b):M.BldWf (iS m x i b).1:=by
 unfold iS
 by_cases h:(ew m x && (um m x i b).1)=true
 ·rw [if_pos h]
  simp only [Bool.and_eq_true] at h
  obtain ⟨hbo,h2⟩:=h
  obtain ⟨hm,hs⟩:=FB hbo
  have hl:=vd hbo
  obtain ⟨h4,h6⟩:=Y6 h2
  have h7:=b9 h4
  obtain ⟨n,rfl⟩:∃ n:Nat,i=n:=⟨i.toNat,by omega⟩
  rw [Int.toNat_natCast] at h6
  cases hg:m.aD[n]? with
  | none=>rw [hg] at h6; cases h6
  | some s =>
   rw [hg] at h6
   have h8:=LV hb (of_decide_eq_true h6) (LW hm hg)
   obtain ⟨e1,e2,e3⟩:=Bq (b:=x.bh) hl n
   obtain ⟨g1,g2⟩:=MF (x:=x.bh) (p:=b) (a:=M.at_ m n) (by omega) hx.b hb
   exact ⟨g1,by show (zZ _ _ _).length≤_; rw [g2]; exact hx.l⟩
 ·rw [if_neg h]; exact hx
theorem HP {n:aA} (hn:M.NodWf n) {x:aW} (hx:M.BldWf x):M.NodWf (DC n x):=⟨hn.s,hx,hn.k,hn.w⟩
theorem L4 {u:Nat} (hu:1099511627776≤u) {n:aA} (hn:M.NodWf n) (me:Int) {m:ei} (hm:M.MsgWf m):ta u n me m=some (lr n me m):=by
 unfold ta lr rS
 simp only [jf u hn,zK u hn,qt,LX hu hn.s hn.b m.fI hm.b hm.len,Option.bind_some]
 rw [show (aA.mk n.fK n.bf n.be n.av (iS n.av n.a7 m.fI m.fB).1 n.aJ n.aN n.a8)=DC n (iS n.av n.a7 m.fI m.fB).1 from rfl,Ox hu (HP hn (FF hn.b m.fI hm.b)) me m.fI]
 simp only [Option.bind_some]
 by_cases h1:n.aJ=0
 ·simp [h1]
 ·by_cases h2:m.aP=n.av.aP
  ·have e:(n.aJ == 0)=false:=by simpa using h1
   simp only [h1,h2,e,cond_false,bne_self_eq_false,ne_eq,not_true_eq_false,or_self,if_false]
   cases eh n.a7.aT m.fI <;> cases (iS n.av n.a7 m.fI m.fB).2 <;> rfl
  ·have e:(n.aJ == 0)=false:=by simpa using h1
   have e2:(m.aP != n.av.aP)=true:=by simpa using h2
   simp [h1,h2,e,e2]
theorem L5 {u:Nat} (hu:1099511627776≤u) {n:aA} (hn:M.NodWf n) (me:Int) {m:ei} (hm:M.MsgWf m):tn u n me m=some (lr n me m):=by
 unfold tn lr si
 simp only [jy u hn,qs,LY hu hn.s hn.b m.fI hm.b hm.len,Option.bind_some]
 rw [show (aA.mk n.fK n.bf n.be n.av (iS n.av n.a7 m.fI m.fB).1 n.aJ n.aN n.a8)=DC n (iS n.av n.a7 m.fI m.fB).1 from rfl,Oy hu (HP hn (FF hn.b m.fI hm.b)) me m.fI]
 simp only [Option.bind_some]
 by_cases h1:n.aJ=0
 ·simp [h1,M.drop]
 ·by_cases h2:m.aP=n.av.aP
  ·have e:(n.aJ == 0)=false:=by simpa using h1
   simp only [h1,h2,e,cond_false,bne_self_eq_false,ne_eq,not_true_eq_false,or_self,if_false]
   cases eh n.a7.aT m.fI <;> cases (iS n.av n.a7 m.fI m.fB).2 <;> rfl
  ·have e:(n.aJ == 0)=false:=by simpa using h1
   have e2:(m.aP != n.av.aP)=true:=by simpa using h2
   simp [h1,h2,e,e2,M.drop]
def FG (n:aA):aA:=⟨n.fK,n.bf,0,n.av,n.a7,n.aJ,n.aN,n.a8⟩
theorem Cc {n:aA} (hn:M.NodWf n):M.NodWf (FG n):=⟨hn.s,hn.b,hn.k,hn.w⟩
def jA (n:aA) (me:Int) (d:aG) (m:ei):Act :=
 if m.bz=1 then ⟨nx (FG n) d m.av,[]⟩
 else if m.bz=3 then lr (FG n) me m
 else if m.bz=2 then ⟨M.drop (FG n),[]⟩
 else ⟨FG n,[]⟩
theorem Ys {α:Type} (k:Int) (a b c e:α):(bif k == 1 then a else (bif k == 3 then b else (bif k == 2 then c else e)))=if k=1 then a else if k=3 then b else if k=2 then c else e:=by
 by_cases h1:k=1
 ·subst h1; rfl
 ·by_cases h2:k=3
  ·subst h2; rfl
  ·by_cases h3:k=2
   ·subst h3; rfl
   ·have e1:(k == 1)=false:=by simpa using h1
    have e2:(k == 3)=false:=by simpa using h2
    have e3:(k == 2)=false:=by simpa using h3
    simp [h1,h2,h3,e1,e2,e3]
theorem Rs {α:Type} (p q r:Prop) [Decidable p] [Decidable q] [Decidable r] (a b c e:α):(if p then some a else if q then some b else if r then some c else some e)=some (if p then a else if q then b else if r then c else e):=by
 by_cases hp:p <;> by_cases hq:q <;> by_cases hr:r <;> simp [hp,hq,hr]
theorem L6 {u:Nat} (hu:1099511627776≤u) {n:aA} (hn:M.NodWf n) (me:Int) {d:aG} (hd:M.DOk d) (hb:M.DB d) {m:ei} (hm:M.MsgWf m):tc u n me d m=some (jA n me d m):=by
 unfold tc jA oC
 simp only [jf u hn,Option.bind_some]
 rw [show (aA.mk n.fK n.bf 0 n.av n.a7 n.aJ n.aN n.a8)=FG n from rfl,Oz hu (Cc hn) hd hb hm.sums,L4 hu (Cc hn) me hm,Ys]
 exact Rs _ _ _ _ _ _ _
theorem L7 {u:Nat} (hu:1099511627776≤u) {n:aA} (hn:M.NodWf n) (me:Int) {d:aG} (hd:M.DOk d) (hb:M.DB d) {m:ei} (hm:M.MsgWf m):tp u n me d m=some (jA n me d m):=by
 unfold tp jA sj
 simp only [jy u hn,Option.bind_some]
 rw [show (aA.mk n.fK n.bf 0 n.av n.a7 n.aJ n.aN n.a8)=FG n from rfl,OA hu (Cc hn) hd hb hm.sums,L5 hu (Cc hn) me hm,Ys]
 exact Rs _ _ _ _ _ _ _
def M.take (t:co) (me:Int) (n:aA) (d:aG) (p:au):Act :=
 if !n.fK then ⟨n,[]⟩
 else if (hU p.fB).2 && am p.du 0 ((t.cy.length:Int) - 1) && (p.du != me) then
  (if (hU p.fB).1.bz=2 then eZ n me p.du (hU p.fB).1
   else if p.du=n.bf then jA n me d (hU p.fB).1 else ⟨M.drop n,[]⟩)
 else ⟨M.drop n,[]⟩
theorem T0 {u:Nat} (hu:1099511627776≤u) {t:co} (ht:t.cy.length≤1048576) (me:Int) {n:aA} (hn:M.NodWf n) (hk:n.aN.length≤1048576) {d:aG} (hd:M.DOk d) (hb:M.DB d) {p:au} (hp:aF p.fB) (hl:p.fB.length≤1048576):CR u t me n d p=some (M.take t me n d p):=by
 have w:=L3 hp
 have eb:cu .i64 ((t.cy.length:Int)) 1=(t.cy.length:Int) - 1:=cB (by omega) (by omega)
 unfold CR M.take vR
 simp only [jf u hn,zK u hn,Rc hu hp hl,bU,eb,HN hu hn hk,L6 hu hn me hd hb w,Option.bind_some]
 by_cases h1:(hU p.fB).1.bz=2
 ·simp only [h1,beq_self_eq_true,cond_true,if_true]
  rw [show (p.du != me)=!(p.du == me) from rfl]
  cases n.fK <;> cases (hU p.fB).2 <;> cases am p.du 0 ((t.cy.length:Int) - 1) <;> cases (p.du == me) <;> rfl
 ·have e1:((hU p.fB).1.bz == 2)=false:=by simpa using h1
  simp only [e1,h1,cond_false,if_false]
  rw [show (p.du != me)=!(p.du == me) from rfl]
  by_cases h2:p.du=n.bf
  ·have e2:(p.du == n.bf)=true:=by simpa using h2
   simp only [e2,cond_true,if_pos h2]
   cases n.fK <;> cases (hU p.fB).2 <;> cases am p.du 0 ((t.cy.length:Int) - 1) <;> cases (p.du == me) <;> rfl
  ·have e2:(p.du == n.bf)=false:=by simpa using h2
   simp only [e2,cond_false,if_neg h2]
   cases n.fK <;> cases (hU p.fB).2 <;> cases am p.du 0 ((t.cy.length:Int) - 1) <;> cases (p.du == me) <;> rfl
theorem T1 {u:Nat} (hu:1099511627776≤u) {t:co} (ht:t.cy.length≤1048576) (me:Int) {n:aA} (hn:M.NodWf n) (hk:n.aN.length≤1048576) {d:aG} (hd:M.DOk d) (hb:M.DB d) {p:au} (hp:aF p.fB) (hl:p.fB.length≤1048576):C4 u t me n d p=some (M.take t me n d p):=by
 have w:=L3 hp
 unfold C4 M.take wo
 simp only [jy u hn,Rb hu hp hl,oZ u ht,HO hu hn hk,L7 hu hn me hd hb w,Option.bind_some]
 rw [show (aA.mk n.fK n.bf n.be n.av n.a7 n.aJ n.aN (aX .i64 n.a8 1))=M.drop n from rfl]
 by_cases h1:(hU p.fB).1.bz=2
 ·simp only [h1,beq_self_eq_true,cond_true,if_true]
  rw [show (p.du != me)=!(p.du == me) from rfl]
  cases n.fK <;> cases (hU p.fB).2 <;> cases am p.du 0 ((t.cy.length:Int) - 1) <;> cases (p.du == me) <;> rfl
 ·have e1:((hU p.fB).1.bz == 2)=false:=by simpa using h1
  simp only [e1,h1,cond_false,if_false]
  rw [show (p.du != me)=!(p.du == me) from rfl]
  by_cases h2:p.du=n.bf
  ·have e2:(p.du == n.bf)=true:=by simpa using h2
   simp only [e2,cond_true,if_pos h2]
   cases n.fK <;> cases (hU p.fB).2 <;> cases am p.du 0 ((t.cy.length:Int) - 1) <;> cases (p.du == me) <;> rfl
  ·have e2:(p.du == n.bf)=false:=by simpa using h2
   simp only [e2,cond_false,if_neg h2]
   cases n.fK <;> cases (hU p.fB).2 <;> cases am p.du 0 ((t.cy.length:Int) - 1) <;> cases (p.du == me) <;> rfl
theorem V7 (m:ei):(gL m).length≤1000:=by
 unfold gL
 split
 ·rename_i hok
  have k:=bi [] m.bz
  have g:=bi (aQ [] m.bz) m.aP
  have l:=bi (eu m) (cx (eu m))
  simp only [List.length_nil] at k
  suffices h:(eu m).length≤600 by omega
  unfold eu pU
  split
  ·have:=GN (aQ [] m.bz) m.av; omega
  ·rename_i n1
   split
   ·have h1:=bi (aQ (aQ [] m.bz) m.aP) (fx .i64 m.bw 1048575)
    have h2:=bi (aQ (aQ (aQ [] m.bz) m.aP) (fx .i64 m.bw 1048575)) (nY .i64 m.bw 20)
    have h3:=bi (aQ (aQ (aQ (aQ [] m.bz) m.aP) (fx .i64 m.bw 1048575)) (nY .i64 m.bw 20)) (fx .i64 m.bL 1048575)
    have h4:=bi (aQ (aQ (aQ (aQ (aQ [] m.bz) m.aP) (fx .i64 m.bw 1048575)) (nY .i64 m.bw 20)) (fx .i64 m.bL 1048575)) (nY .i64 m.bL 20)
    omega
   ·rename_i n2
    split
    ·rename_i n3
     have h1:=bi (aQ (aQ [] m.bz) m.aP) m.fI
     have h2:=bi (aQ (aQ (aQ [] m.bz) m.aP) m.fI) m.fB.length
     have h3:m.fB.length≤6:=by
      unfold lD at hok
      simp only [n1,n2,n3] at hok
      have h4:am m.fB.length 1 6=true:=by
       revert hok
       cases am (m.fB.length:Int) 1 6 <;> simp
      have:=b9 h4
      omega
     rw [List.length_append]; omega
    ·split <;> omega
 ·simp
def HQ (p:au):Prop:=aF p.fB∧p.fB.length≤1048576
theorem MG (f t:Int) {m:ei} (hm:M.MsgWf m):HQ (pD f t m):=⟨D5 hm,by have:=V7 m; show (gL m).length≤_; omega⟩
structure M.ActWf (n:aA) (out:List au):Prop where
 n:M.NodWf n
 o:∀ p∈out,HQ p
 l:out.length≤1048576
theorem Rt {n:aA} (hn:M.NodWf n):M.ActWf n []:=⟨hn,fun p hp=>by simp at hp,by simp⟩
theorem ZJ {n:aA} (hn:M.NodWf n) (f t:Int) {m:ei} (hm:M.MsgWf m):M.ActWf n [pD f t m]:=⟨hn,fun p hp=>by
 simp only [List.mem_singleton] at hp
 rw [hp]; exact MG f t hm,by simp⟩
theorem GR {n:aA} (hn:M.NodWf n) (f t i:Int):HQ (w9 n f t i):=by
 have w:=Bs n.av hn.b i
 exact MG f t (Br _ _ w.1 w.2)
theorem F2 {n:aA} (hn:M.NodWf n):M.NodWf (M.drop n):=⟨hn.s,hn.b,hn.k,hn.w⟩
theorem T2 {n:aA} (hn:M.NodWf n) (f t:Int):M.ActWf (gn n f t).fN (gn n f t).sU:=by
 refine ⟨⟨hn.s,hn.b,?_,hn.w⟩,fun p hp=>?_,Nat.le_trans (Sy n f t) (by omega)⟩
 ·show (mQ _ _ _).length≤_
  rw [JL]; exact hn.k
 ·unfold gn at hp
  simp only [List.mem_map] at hp
  obtain ⟨i,_,rfl⟩:=hp
  exact GR hn f t i
theorem Sz {n:aA} (hn:M.NodWf n) (hk:n.aN.length≤1048576) (me f:Int) (m:ei):M.ActWf (eZ n me f m).fN (eZ n me f m).sU:=by
 have hl:=Rk n.aN f m.bw m.bL
 have hw:M.NodWf (lq n (n8 n.aN f m.bw m.bL)):=Cb hn (by omega)
 have hs:=T2 hw me f
 unfold eZ
 split
 ·exact Rt hn
 ·split
  ·exact ZJ hw _ _ (Au 0)
  ·split
   ·dsimp only
    split
    ·exact ZJ hs.n _ _ (Au _)
    ·exact hs
   ·exact ZJ hw _ _ (L2 hn.s hn.w)
theorem Y7 {n:aA} (hn:M.NodWf n) (me i:Int):∀ (l:List Kid) (s:List Kid×List au),(∀ p∈s.2,HQ p)→∀ p∈(l.foldl (eI n me i) s).2,HQ p:=by
 intro l
 induction l with
 | nil=>intro s h; exact h
 | cons x l ih =>
  intro s h
  refine ih _ fun p hp=>?_
  unfold eI at hp
  split at hp
  ·simp only [List.mem_append,List.mem_singleton] at hp
   rcases hp with hp | rfl
   ·exact h p hp
   ·exact GR hn _ _ _
  ·exact h p hp
theorem V8 {n:aA} (hn:M.NodWf n) (hk:n.aN.length≤1048576) (me i:Int):M.ActWf (kD n me i).fN (kD n me i).sU:=by
 have h:=Y5 n me i n.aN (n.aN,[])
 unfold kD
 split
 ·refine ⟨Cb hn ?_,Y7 hn me i _ _ (fun p hp=>by simp at hp),?_⟩
  ·have:=h.1; unfold JS; dsimp only at this ⊢; omega
  ·have:=h.2; unfold JS; simp only [List.length_nil] at this; dsimp only; omega
 ·exact Rt hn
theorem V9 {n:aA} (hn:M.NodWf n) {d:aG} (hb:M.DB d) {m:af} (hs:m.aD.length≤1048576) (hw:xY m):M.NodWf (nx n d m):=by
 obtain ⟨rb,rl⟩:=yh hb
 unfold nx
 split
 ·split
  ·rename_i h
   simp only [Bool.and_eq_true] at h
   exact ⟨hs,(Rq h.1 rb (by omega)).b,hn.k,hw⟩
  ·exact hn
 ·split
  ·exact hn
  ·exact F2 hn
theorem U3 {n:aA} (hn:M.NodWf n) (hk:n.aN.length≤1048576) (me:Int) {m:ei} (hm:M.MsgWf m):M.ActWf (lr n me m).fN (lr n me m).sU:=by
 unfold lr
 split
 ·exact Rt (F2 hn)
 ·split
  ·exact Rt hn
  ·split
   ·exact V8 (HP hn (FF hn.b m.fI hm.b)) hk me m.fI
   ·exact Rt (F2 hn)
theorem U4 {n:aA} (hn:M.NodWf n) (hk:n.aN.length≤1048576) (me:Int) {d:aG} (hb:M.DB d) {m:ei} (hm:M.MsgWf m):M.ActWf (jA n me d m).fN (jA n me d m).sU:=by
 unfold jA
 split
 ·exact Rt (V9 (Cc hn) hb hm.sums hm.wf)
 ·split
  ·exact U3 (Cc hn) hk me hm
  ·split
   ·exact Rt (F2 (Cc hn))
   ·exact Rt (Cc hn)
theorem Y8 (t:co) (me:Int) {n:aA} (hn:M.NodWf n) (hk:n.aN.length≤1048576) {d:aG} (hb:M.DB d) {p:au} (hp:aF p.fB):M.ActWf (M.take t me n d p).fN (M.take t me n d p).sU:=by
 have w:=L3 hp
 unfold M.take
 split
 ·exact Rt hn
 ·split
  ·split
   ·exact Sz hn hk me _ _
   ·split
    ·exact U4 hn hk me hb w
    ·exact Rt (F2 hn)
  ·exact Rt (F2 hn)
def ft (l:List Kid):List Int:=l.map fun x=>x.fb
structure M.IdsOk (s:List Int):Prop where
 r:∀ x∈s,0≤x∧x≤6
 p:s.Pairwise (· < ·)
def qI (l:List Kid):Prop:=M.IdsOk (ft l)
theorem Yt:∀ (s:List Int) (a:Int),a≤7→(∀ x∈s,a≤x∧x≤6)→s.Pairwise (· < ·)→(s.length:Int)≤7 - a
 | [],a,ha,_,_=>by simp; omega
 | x :: s,a,ha,h,p=>by
  rw [List.pairwise_cons] at p
  have hx:=h x (by simp)
  have:=Yt s (x+1) (by omega) (fun y hy=>⟨by have:=p.1 y hy; omega,(h y (by simp [hy])).2⟩) p.2
  simp only [List.length_cons]
  omega
theorem Xw {l:List Kid} (h:qI l):l.length≤7:=by
 have:=Yt (ft l) 0 (by omega) h.r h.p
 simp only [ft,List.length_map] at this
 omega
theorem T3 {l:List Kid} {j:Nat} {x y:Kid} (h:l[j]?=some x) (hi:y.fb=x.fb):ft (l.set j y)=ft l:=by
 unfold ft
 apply List.ext_getElem?
 intro i
 simp only [List.getElem?_map,List.getElem?_set]
 by_cases e:j=i
 ·subst e
  obtain ⟨hj,hx⟩:=List.getElem?_eq_some_iff.1 h
  simp [hj,hx,hi]
 ·simp [e]
theorem JU (l:List Kid) (id s:Int):ft (mQ l id s)=ft l:=by
 unfold mQ
 rcases nR l id with ⟨h1,_⟩ | ⟨j,x,h1,h2,_⟩
 ·rw [h1]; rfl
 ·rw [h1]
  simp only [br,h2,Int.toNat_natCast]
  split
  ·exact T3 h2 rfl
  ·rfl
theorem MH {α:Type} (f:α→Bool):∀ (l:List α) (i j:Nat),dD f l i=((i+j:Nat):Int)→∀ x∈l.take j,f x=false
 | [],i,j,_=>by simp
 | y :: l,i,0,_=>by simp
 | y :: l,i,j+1,h=>by
  unfold dD at h
  split at h
  ·omega
  ·rename_i hy
   intro x hx
   simp only [List.take_succ_cons,List.mem_cons] at hx
   rcases hx with rfl | hx
   ·simpa using hy
   ·exact MH f l (i+1) j (by rw [h]; congr 1; omega) x hx
theorem Ru {l:List Kid} (h:qI l) {k:Nat} {y:Kid} (hy:0≤y.fb∧y.fb≤6) (h1:∀ x∈l.take k,x.fb < y.fb) (h2:∀ x∈l.drop k,y.fb < x.fb):qI (l.take k++[y]++l.drop k):=by
 have e:ft l=ft (l.take k)++ft (l.drop k):=by unfold ft; rw [← List.map_append,List.take_append_drop]
 have hp:=h.p
 rw [e,List.pairwise_append] at hp
 have e2:ft (l.take k++[y]++l.drop k)=ft (l.take k)++([y.fb]++ft (l.drop k)):=by unfold ft; simp
 unfold qI
 rw [e2]
 constructor
 ·intro z hz
  simp only [List.mem_append,List.mem_singleton] at hz
  rcases hz with hz | rfl | hz
  ·exact h.r z (by rw [e]; simp [hz])
  ·exact hy
  ·exact h.r z (by rw [e]; simp [hz])
 ·rw [List.pairwise_append]
  refine ⟨hp.1,?_,?_⟩
  ·rw [List.singleton_append,List.pairwise_cons]
   refine ⟨fun z hz=>?_,hp.2.1⟩
   unfold ft at hz
   rw [List.mem_map] at hz
   obtain ⟨x,hx,rfl⟩:=hz
   exact h2 x hx
  ·intro a ha b hb
   simp only [List.mem_append,List.mem_singleton] at hb
   rcases hb with rfl | hb
   ·unfold ft at ha
    rw [List.mem_map] at ha
    obtain ⟨x,hx,rfl⟩:=ha
    exact h1 x hx
   ·exact hp.2.2 a ha b hb
theorem Wa {l:List Kid} (h:qI l) (id w d:Int):qI (n8 l id w d):=by
 unfold n8
 split
 ·rename_i hc
  simp only [Bool.and_eq_true] at hc
  have hid:=b9 hc.1.1
  rcases nR l id with ⟨h1,hno⟩ | ⟨j,x,h1,h2,_⟩
  ·rw [h1]
   have e:ci l (-1)=none:=by unfold ci; simp
   rw [e]
   dsimp only
   unfold w7
   rcases yf (fun (x:Kid)=>decide (x.fb > id)) l 0 with ⟨g1,g2⟩ | ⟨j,x,g1,g2,g3⟩
   ·rw [g1,if_pos (by omega)]
    refine Ru h hid (fun x hx=>?_) (fun x hx=>by simp at hx)
    have hx:=List.mem_of_mem_take hx
    have a:=g2 x hx
    have b:=hno x hx
    simp only [decide_eq_false_iff_not] at a
    show x.fb < id
    omega
   ·rw [g1,if_neg (by omega)]
    have hj:=MH (fun (x:Kid)=>decide (x.fb > id)) l 0 j g1
    rw [show (((0+j:Nat):Int)).toNat=j by omega]
    refine Ru h hid (fun x hx=>?_) (fun y hy=>?_)
    ·have a:=hj x hx
     have b:=hno x (List.mem_of_mem_take hx)
     simp only [decide_eq_false_iff_not] at a
     show x.fb < id
     omega
    ·have lt:=(List.getElem?_eq_some_iff.1 g2).1
     have e:l.drop j=x :: l.drop (j+1):=by
      rw [List.drop_eq_getElem_cons lt,(List.getElem?_eq_some_iff.1 g2).2]
     have gx:id < x.fb:=by simpa using g3
     have hs:(ft (l.drop j)).Pairwise (· < ·):=h.p.sublist (List.Sublist.map _ (List.drop_sublist j l))
     rw [e] at hs hy
     unfold ft at hs
     rw [List.map_cons,List.pairwise_cons] at hs
     simp only [List.mem_cons] at hy
     show id < y.fb
     rcases hy with rfl | hy
     ·exact gx
     ·have:=hs.1 y.fb (List.mem_map.2 ⟨y,hy,rfl⟩)
      omega
  ·rw [h1]
   simp only [br,h2,Int.toNat_natCast]
   unfold qI
   rw [T3 (y:=⟨x.fb,w,sV .i64 x.bL d,0,x.c8⟩) h2 rfl]
   exact h
 ·exact h
theorem Rv {α:Type} {f:α→Nat→Bool}:∀ {l:List α} {i:Nat},iQ f l i=true→∀ (j:Nat) (x:α),l[j]?=some x→f x (i+j)=true
 | [],i,_,j,x,h=>by simp at h
 | y :: l,i,h,j,x,hx=>by
  unfold iQ at h
  simp only [Bool.and_eq_true] at h
  cases j with
  | zero =>
   simp only [List.getElem?_cons_zero,Option.some.injEq] at hx
   subst hx; exact h.1
  | succ j =>
   have:=Rv h.2 j x (by simpa using hx)
   rw [show i+(j+1)=i+1+j by omega]; exact this
theorem JV {l:List Kid} (h:pV l=true):qI l:=by
 have g:∀ (j:Nat) (x:Kid),l[j]?=some x→yV l x j=true:=fun j x hx=>by
  have:=Rv h j x hx
  rwa [Nat.zero_add] at this
 constructor
 ·intro z hz
  unfold ft at hz
  rw [List.mem_map] at hz
  obtain ⟨x,hx,rfl⟩:=hz
  obtain ⟨j,hj⟩:=List.getElem?_of_mem hx
  have:=g j x hj
  unfold yV at this
  simp only [Bool.and_eq_true] at this
  exact b9 this.1.1.1.1.1
 ·have step:∀ (j:Nat) (x y:Kid),l[j]?=some x→l[j+1]?=some y→x.fb < y.fb:=fun j x y hx hy=>by
   have:=g (j+1) y hy
   unfold yV at this
   simp only [Bool.and_eq_true,Nat.add_sub_cancel,hx,Nat.add_eq_zero_iff,Nat.one_ne_zero,and_false,if_false] at this
   have:=this.2
   simp at this
   exact this
  have chain:∀ (n i:Nat) (x y:Kid),l[i]?=some x→l[i+n+1]?=some y→x.fb < y.fb:=fun n=>by
   induction n with
   | zero=>intro i x y hx hy; exact step i x y hx hy
   | succ n ih =>
    intro i x y hx hy
    have lt:=(List.getElem?_eq_some_iff.1 hy).1
    have hz:l[i+1]?=some (l[i+1]'(by omega)):=List.getElem?_eq_getElem (by omega)
    have a:=step i x _ hx hz
    have b:=ih (i+1) _ y hz (by rw [show i+1+n+1=i+(n+1)+1 by omega]; exact hy)
    omega
  unfold ft
  rw [List.pairwise_iff_getElem]
  intro i j hi hj hij
  simp only [List.length_map] at hi hj
  simp only [List.getElem_map]
  exact chain (j - i - 1) i _ _ (List.getElem?_eq_getElem hi) (by rw [show i+(j - i - 1)+1=j by omega]; exact List.getElem?_eq_getElem hj)
theorem Yu {l:List Kid} (id w d:Int):∀ z∈ft (n8 l id w d),z∈ft l∨z=id:=by
 unfold n8
 split
 ·rcases nR l id with ⟨h1,hno⟩ | ⟨j,x,h1,h2,_⟩
  ·rw [h1]
   have e:ci l (-1)=none:=by unfold ci; simp
   rw [e]
   dsimp only
   intro z hz
   unfold ft at hz ⊢
   simp only [List.map_append,List.mem_append,List.map_cons,List.map_nil,List.mem_singleton,List.mem_map] at hz ⊢
   rcases hz with (⟨x,hx,rfl⟩ | rfl) | ⟨x,hx,rfl⟩
   ·exact .inl ⟨x,List.mem_of_mem_take hx,rfl⟩
   ·exact .inr rfl
   ·exact .inl ⟨x,List.mem_of_mem_drop hx,rfl⟩
  ·rw [h1]
   simp only [br,h2,Int.toNat_natCast]
   rw [T3 (y:=⟨x.fb,w,sV .i64 x.bL d,0,x.c8⟩) h2 rfl]
   exact fun z hz=>.inl hz
 ·exact fun z hz=>.inl hz
structure M.KidsTo (S:Int→Prop) (l m:List Kid):Prop where
 s:qI l→qI m
 i:∀ z∈ft m,z∈ft l∨S z
theorem Rw {S:Int→Prop} {l m:List Kid} (h:ft m=ft l):M.KidsTo S l m:=⟨fun hl=>by unfold qI at hl ⊢; rw [h]; exact hl,fun z hz=>.inl (h ▸ hz)⟩
theorem D7 {S:Int→Prop} (l:List Kid):M.KidsTo S l l:=Rw rfl
theorem Xx {S:Int→Prop} {l m k:List Kid} (a:M.KidsTo S l m) (h:ft k=ft m):M.KidsTo S l k:=⟨fun hl=>by have:=a.s hl; unfold qI at this ⊢; rw [h]; exact this,fun z hz=>a.i z (h ▸ hz)⟩
theorem Y9 {S:Int→Prop} {l:List Kid} {id:Int} (hs:S id) (w d:Int):M.KidsTo S l (n8 l id w d):=⟨fun h=>Wa h id w d,fun z hz=>by
 rcases Yu id w d z hz with h | h
 ·exact .inl h
 ·rw [h]; exact .inr hs⟩
theorem SA (n:aA) (f t:Int):ft (gn n f t).fN.aN=ft n.aN:=JU _ _ _
theorem OB {S:Int→Prop} {n:aA} {me f:Int} (hs:S f) (m:ei):M.KidsTo S n.aN (eZ n me f m).fN.aN:=by
 have h:M.KidsTo S n.aN (n8 n.aN f m.bw m.bL):=Y9 hs _ _
 have g:M.KidsTo S n.aN (gn (lq n (n8 n.aN f m.bw m.bL)) me f).fN.aN:=Xx h (SA _ me f)
 unfold eZ
 split
 ·exact D7 _
 ·split
  ·exact h
  ·split
   ·dsimp only
    split
    ·exact g
    ·exact g
   ·exact h
theorem Za (n:aA) (me i:Int):∀ (l:List Kid) (s:List Kid×List au),ft (l.foldl (eI n me i) s).1=ft s.1:=by
 intro l
 induction l with
 | nil=>intro s; rfl
 | cons x l ih =>
  intro s
  rw [List.foldl_cons,ih]
  unfold eI
  split
  ·exact JU _ _ _
  ·rfl
theorem U5 (n:aA) (me i:Int):ft (kD n me i).fN.aN=ft n.aN:=by
 unfold kD
 split
 ·exact Za n me i _ _
 ·rfl
theorem T4 (n:aA) (d:aG) (m:af):(nx n d m).aN=n.aN:=by
 unfold nx
 split
 ·split <;> rfl
 ·split <;> rfl
theorem T5 (n:aA) (me:Int) (m:ei):ft (lr n me m).fN.aN=ft n.aN:=by
 unfold lr
 split
 ·rfl
 ·split
  ·rfl
  ·split
   ·exact U5 _ _ _
   ·rfl
theorem T6 (n:aA) (me:Int) (d:aG) (m:ei):ft (jA n me d m).fN.aN=ft n.aN:=by
 unfold jA
 split
 ·show ft (nx _ _ _).aN=_
  rw [T4]; rfl
 ·split
  ·exact T5 _ _ _
  ·split <;> rfl
def pW (t:co) (z:Int):Prop:=am z 0 ((t.cy.length:Int) - 1)=true
theorem Xy (t:co) (me:Int) (n:aA) (d:aG) (p:au):M.KidsTo (pW t) n.aN (M.take t me n d p).fN.aN:=by
 unfold M.take
 split
 ·exact D7 _
 ·split
  ·rename_i h
   simp only [Bool.and_eq_true] at h
   split
   ·exact OB h.1.2 _
   ·split
    ·exact Rw (T6 _ _ _ _)
    ·exact D7 _
  ·exact D7 _
def ve (me:Int) (S:Int→Prop) (out:List au):Prop:=∀ q∈out,q.du=me∧S q.GU
theorem zL (me:Int) (S:Int→Prop):ve me S []:=fun q hq=>by simp at hq
theorem Wb {me t:Int} {S:Int→Prop} (h:S t) (m:ei):ve me S [pD me t m]:=fun q hq=>by
 simp only [List.mem_singleton] at hq
 subst hq; exact ⟨rfl,h⟩
theorem T7 {S:Int→Prop} {n:aA} {me f:Int} (h:S f):ve me S (gn n me f).sU:=fun q hq=>by
 unfold gn at hq
 simp only [List.mem_map] at hq
 obtain ⟨i,_,rfl⟩:=hq
 exact ⟨rfl,h⟩
theorem SB {S:Int→Prop} {n:aA} {me f:Int} (h:S f) (m:ei):ve me S (eZ n me f m).sU:=by
 unfold eZ
 split
 ·exact zL _ _
 ·split
  ·exact Wb h _
  ·split
   ·dsimp only
    split
    ·exact Wb h _
    ·exact T7 h
   ·exact Wb h _
theorem ZK {S:Int→Prop} {n:aA} {me i:Int}:∀ (l:List Kid) (s:List Kid×List au),(∀ x∈l,S x.fb)→ve me S s.2→ve me S (l.foldl (eI n me i) s).2:=by
 intro l
 induction l with
 | nil=>intro s _ h; exact h
 | cons x l ih =>
  intro s hl h
  refine ih _ (fun y hy=>hl y (by simp [hy])) fun q hq=>?_
  unfold eI at hq
  split at hq
  ·simp only [List.mem_append,List.mem_singleton] at hq
   rcases hq with hq | rfl
   ·exact h q hq
   ·exact ⟨rfl,hl x (by simp)⟩
  ·exact h q hq
theorem Wc {S:Int→Prop} {n:aA} {me i:Int} (h:∀ x∈n.aN,S x.fb):ve me S (kD n me i).sU:=by
 unfold kD
 split
 ·exact ZK _ _ h (zL _ _)
 ·exact zL _ _
theorem Zb {t:co} {me:Int} {n:aA} (h:∀ x∈n.aN,pW t x.fb) (d:aG) (p:au):ve me (pW t) (M.take t me n d p).sU:=by
 unfold M.take
 split
 ·exact zL _ _
 ·split
  ·rename_i hc
   simp only [Bool.and_eq_true] at hc
   split
   ·exact SB hc.1.2 _
   ·split
    ·unfold jA
     split
     ·exact zL _ _
     ·split
      ·unfold lr
       split
       ·exact zL _ _
       ·split
        ·exact zL _ _
        ·split
         ·exact Wc (n:=DC (FG n) _) h
         ·exact zL _ _
      ·first | exact zL _ _ | (split <;> exact zL _ _)
    ·exact zL _ _
  ·exact zL _ _
theorem T8 (n:aA) (d:aG) (m:af):(nx n d m).bf=n.bf:=by
 unfold nx
 split
 ·split <;> rfl
 ·split <;> rfl
theorem OC (n:aA) (me f:Int) (m:ei):(eZ n me f m).fN.bf=n.bf:=by
 unfold eZ
 split
 ·rfl
 ·split
  ·rfl
  ·split
   ·dsimp only
    split <;> rfl
   ·rfl
theorem T9 (n:aA) (me i:Int):(kD n me i).fN.bf=n.bf:=by
 unfold kD
 split <;> rfl
theorem SC (n:aA) (me:Int) (d:aG) (m:ei):(jA n me d m).fN.bf=n.bf:=by
 unfold jA
 split
 ·exact T8 _ _ _
 ·split
  ·unfold lr
   split
   ·rfl
   ·split
    ·rfl
    ·split
     ·exact T9 _ _ _
     ·rfl
  ·split <;> rfl
theorem Xz (t:co) (me:Int) (n:aA) (d:aG) (p:au):(M.take t me n d p).fN.bf=n.bf:=by
 unfold M.take
 split
 ·rfl
 ·split
  ·split
   ·exact OC _ _ _ _
   ·split
    ·exact SC _ _ _ _
    ·rfl
  ·rfl
structure M.NodeIn (t:co) (j:Nat) (n:aA):Prop where
 w:M.NodWf n
 s:qI n.aN
 k:∀ z∈ft n.aN,pW t z
 b:j≠0→pW t n.bf
structure M.DiskIn (d:aG):Prop where
 o:M.DOk d
 b:M.DB d
 l:d.fP.length≤200
structure M.PkIn (t:co) (p:au):Prop where
 w:HQ p
 f:pW t p.du
 t:pW t p.GU
structure M.WWf (w:World):Prop where
 t:oY w.fT=true
 nl:w.fN.length=w.fT.cy.length
 dl:w.fD.length=w.fT.cy.length
 nodes:∀ (j:Nat) (n:aA),w.fN[j]?=some n→M.NodeIn w.fT j n
 disks:∀ (j:Nat) (d:aG),w.fD[j]?=some d→M.DiskIn d
 net:∀ p∈w.eo,M.PkIn w.fT p
 len:w.eo.length≤400
theorem Cd {t:co} {j:Nat} {n:aA} (h:M.NodeIn t j n):n.aN.length≤1048576:=by
 have:=Xw h.s; omega
theorem ZL {w:World} (h:M.WWf w):1≤w.fT.cy.length∧w.fT.cy.length≤7:=by
 have:=h.t
 unfold oY at this
 simp only [Bool.and_eq_true] at this
 have:=b9 this.2
 omega
theorem Wd {t:co} {z:Int} (h:pW t z):∃ j:Nat,z=j∧j < t.cy.length:=by
 have:=b9 h
 exact ⟨z.toNat,by omega,by omega⟩
theorem Zc {t:co} {n:aA} {k:Nat} (hk:k < t.cy.length) (hn:M.NodeIn t k n) {d:aG} (hd:M.DiskIn d) {p:au} (hp:M.PkIn t p) :
  M.NodeIn t k (M.take t k n d p).fN∧(∀ q∈(M.take t k n d p).sU,M.PkIn t q)∧(M.take t k n d p).sU.length≤1048576:=by
 have w:=Y8 t k hn.w (Cd hn) hd.b hp.w.1
 have kk:=Xy t k n d p
 have to:=Zb (me:=(k:Int)) (fun x hx=>hn.k x.fb (List.mem_map.2 ⟨x,hx,rfl⟩)) d p
 have hkk:pW t (k:Int):=by unfold pW; simp [am]; omega
 refine ⟨⟨w.n,kk.s hn.s,fun z hz=>?_,fun h0=>by rw [Xz]; exact hn.b h0⟩,fun q hq=>⟨w.o q hq,?_,(to q hq).2⟩,w.l⟩
 ·rcases kk.i z hz with h | h
  ·exact hn.k z h
  ·exact h
 ·rw [(to q hq).1]; exact hkk
def FH (n:aA):Bool:=lY n.av && (n.a7.aT == 0) && ((n.a7.bh.length:Int) == 0)
theorem EE {u:Nat} (hu:1099511627776≤u) {n:aA} (hs:n.av.aD.length≤1048576):rG u n=some (FH n):=by
 unfold rG FH
 rw [pT hu hs,JF]
 simp only [Option.bind_some]
 cases lY n.av <;> cases n.a7.aT == 0 <;> rfl
def FI (n:aA):Bool:=if n.aJ=0 then FH n else if n.aJ=1 then (n.av.aP != 0) && ew n.av n.a7 else am n.aJ 2 6 && OT n.av n.a7
theorem JW {u:Nat} (hu:1099511627776≤u) {n:aA} (hs:n.av.aD.length≤1048576) (hb:M.BldWf n.a7):qQ u n=some (FI n):=by
 unfold qQ FI
 simp only [EE hu hs,ul hu hs hb,bU,Ss hu hs hb,Option.bind_some]
 by_cases h0:n.aJ=0
 ·simp [h0]
 ·by_cases h1:n.aJ=1
  ·simp only [h1]
   cases (n.av.aP != 0) <;> rfl
  ·have e0:(n.aJ == 0)=false:=by simpa using h0
   have e1:(n.aJ == 1)=false:=by simpa using h1
   simp only [e0,e1,h0,h1,cond_false,if_false]
   cases am n.aJ 2 6 <;> rfl
def qx (t:co) (k:Int) (x:Kid):Bool:=!(x.fb == k) && !decide (x.fb≥(t.cy.length:Int))
theorem FJ {α:Type} (g:α→Bool):∀ (l:List α) (i:Nat),iQ (fun x _=>g x) l i=l.all g
 | [],_=>rfl
 | x :: l,i=>by simp only [iQ,List.all_cons,FJ g l]
theorem JX {u:Nat} (hu:1099511627776≤u) {t:co} (k:Int) {n:aA} (hs:n.av.aD.length≤1048576) (hb:M.BldWf n.a7) (hk:n.aN.length≤1048577):iD u u k 0 t n=some (n.aN.all (qx t k) && FI n):=by
 rw [Kx u k t n () u (by omega) (by omega),mP (fun x _=>qx t k x) (xs:=n.aN) (b:=FI n) (JW hu hs hb) 0 (fun x i f _ hx=>?_) n.aN 0 (Nat.le_refl _) rfl,FJ]
 unfold CL oo qx
 simp only [br,hx,Option.bind_some]
 cases (x.fb == k) <;> cases decide (x.fb≥(t.cy.length:Int)) <;> rfl
def JY (n:aA):Bool:=(n.bf == 0) && (n.be == 0) && FH n && (n.aJ == 0) && ((n.aN.length:Int) == 0) && (n.a8 == 0)
def Ua (t:co) (k:Int) (n:aA):Bool :=
 (if k=0 then n.bf == -1 else JJ t n.bf k) && !decide (n.be < 0) && !decide (n.a8 < 0) && ((n.aJ == 6) == (k == 0)) && pV n.aN && (n.aN.all (qx t k) && FI n)
def mR (t:co) (k:Int) (n:aA):Bool:=oY t && am k 0 ((t.cy.length:Int) - 1) && (if n.fK then Ua t k n else JY n)
theorem Rx {u:Nat} (hu:1099511627776≤u) {t:co} (ht:t.cy.length≤1048576) (k:Int) {n:aA} (hs:n.av.aD.length≤1048576) (hb:M.BldWf n.a7) (hk:n.aN.length≤1048576):uN u t k n=some (mR t k n):=by
 have eb:cu .i64 ((t.cy.length:Int)) 1=(t.cy.length:Int) - 1:=cB (by omega) (by omega)
 unfold uN vB cr mR
 simp only [Fw hu (show t.cy.length≤1073741824 by omega),bU,eb,EE hu hs,LS hu ht,Rh hu hk,JX hu k hs hb (show n.aN.length≤1048577 by omega),Option.bind_some]
 cases oY t with
 | false=>rfl
 | true =>
  cases hw:am k 0 ((t.cy.length:Int) - 1) with
  | false=>rfl
  | true =>
   have hk0:=b9 hw
   cases n.fK with
   | false =>
    unfold JY
    cases (n.bf == 0) <;> cases (n.be == 0) <;> cases FH n <;> cases (n.aJ == 0) <;> cases ((n.aN.length:Int) == 0) <;> rfl
   | true =>
    unfold Ua
    by_cases h0:k=0
    ·have e1:(k == 0)=true:=by simpa using h0
     have e2:decide (k > 0)=false:=by simp; omega
     rw [if_pos h0]
     simp only [e1,e2,bne]
     cases (n.bf == -1) <;> cases decide (n.be < 0) <;> cases decide (n.a8 < 0) <;> cases (n.aJ == 6) <;> cases pV n.aN <;> rfl
    ·have e1:(k == 0)=false:=by simpa using h0
     have e2:decide (k > 0)=true:=by simp; omega
     rw [if_neg h0]
     simp only [e1,e2]
     cases JJ t n.bf k <;> cases decide (n.be < 0) <;> cases decide (n.a8 < 0) <;> cases (n.aJ == 6) <;> cases pV n.aN <;> rfl
theorem z9 (u:Nat) (x:aW):lR u x=some ((x.aT == 0) && ((x.bh.length:Int) == 0)):=by
 unfold lR
 cases x.aT == 0 <;> rfl
def HR (n:aA):Bool:=if n.aJ=0 then FH n else (n.av.aP != 0) && ew n.av n.a7 && ((n.aJ == 1) || (At n.av n.a7 == 0))
theorem OD {u:Nat} (hu:1099511627776≤u) {n:aA} (hs:n.av.aD.length≤1048576) (hb:M.BldWf n.a7):mG u n=some (HR n):=by
 unfold mG mS HR FH
 simp only [wZ,z9,zJ hu hs hb,Ov u,Option.bind_some]
 by_cases h0:n.aJ=0
 ·rw [if_pos h0,h0]
  cases lY n.av <;> cases (n.a7.aT == 0) <;> rfl
 ·have e0:(n.aJ == 0)=false:=by simpa using h0
  rw [if_neg h0,show (n.av.aP != 0)=!(n.av.aP == 0) from rfl]
  simp only [e0,cond_false]
  cases (n.av.aP == 0) <;> cases ew n.av n.a7 <;> cases (n.aJ == 1) <;> rfl
theorem Yv (n:aA):(am n.aJ 0 6 && HR n)=FI n:=by
 unfold HR FI OT
 by_cases h0:n.aJ=0
 ·rw [if_pos h0,if_pos h0,h0]; rfl
 ·rw [if_neg h0,if_neg h0]
  by_cases h1:n.aJ=1
  ·rw [if_pos h1,h1]
   cases (n.av.aP != 0) <;> cases ew n.av n.a7 <;> rfl
  ·have e1:(n.aJ == 1)=false:=by simpa using h1
   have e2:am n.aJ 2 6=am n.aJ 0 6:=by
    unfold am
    rw [Bool.eq_iff_iff]
    simp only [Bool.and_eq_true,decide_eq_true_eq]
    omega
   rw [if_neg h1,e1,e2]
   cases am n.aJ 0 6 <;> cases (n.av.aP != 0) <;> cases ew n.av n.a7 <;> rfl
def D8 (t:co) (k:Int) (x:Kid):Bool:=am x.fb 0 ((t.cy.length:Int) - 1) && !(x.fb == k)
theorem OE {u:Nat} (hu:1099511627776≤u) {l:List Kid} (hl:l.length≤1048576) {t:co} (ht:t.cy.length≤1048576) (k:Int):bZ u l t k=some (l.any fun x=>!D8 t k x):=by
 unfold bZ cC
 rw [jY u l t k () u (by omega) (by omega),lP (fun x=>!D8 t k x) rfl (fun x i k hx=>by
  unfold ej th D8
  rw [oZ u ht]
  simp only [Option.bind_some]
  cases am x.fb 0 ((t.cy.length:Int) - 1)
  ·rfl
  ·simp)]
 simp only [Option.bind_some,ry]
theorem XA {t:co} {k:Int} {l:List Kid} (h:pV l=true):l.all (D8 t k)=l.all (qx t k):=by
 have r:=(JV h).r
 have:∀ x∈l,D8 t k x=qx t k x:=fun x hx=>by
  have:=r x.fb (List.mem_map.2 ⟨x,hx,rfl⟩)
  have e:am x.fb 0 ((t.cy.length:Int) - 1)=!decide (x.fb≥(t.cy.length:Int)):=by
   unfold am
   rw [Bool.eq_iff_iff]
   simp only [Bool.and_eq_true,decide_eq_true_eq,Bool.not_eq_true',decide_eq_false_iff_not]
   omega
  unfold D8 qx
  rw [e,Bool.and_comm]
 rw [Bool.eq_iff_iff,List.all_eq_true,List.all_eq_true]
 exact ⟨fun g x hx=>this x hx ▸ g x hx,fun g x hx=>(this x hx).symm ▸ g x hx⟩
theorem Ry {u:Nat} (hu:1099511627776≤u) {t:co} (ht:t.cy.length≤1048576) (k:Int) {n:aA} (hs:n.av.aD.length≤1048576) (hb:M.BldWf n.a7) (hk:n.aN.length≤1048576):uV u t k n=some (mR t k n):=by
 unfold uV vY mH t8 mR
 simp only [Fv hu (show t.cy.length≤1073741824 by omega),oZ u ht,wZ,z9,LT hu ht,Ri hu hk,bG,OD hu hs hb,OE hu hk ht k,Fo,Option.bind_some]
 cases oY t with
 | false=>rfl
 | true =>
  cases hw:am k 0 ((t.cy.length:Int) - 1) with
  | false=>rfl
  | true =>
   have hk0:=b9 hw
   cases n.fK with
   | false =>
    unfold JY FH
    cases (n.bf == 0) <;> cases (n.be == 0) <;> cases lY n.av <;> cases (n.a7.aT == 0) <;> cases ((n.a7.bh.length:Int) == 0) <;> cases (n.aJ == 0) <;> cases ((n.aN.length:Int) == 0) <;> rfl
   | true =>
    have core:(bif decide (n.be≥0) then bif decide (n.a8≥0) then bif am n.aJ 0 6 then bif (n.aJ == 6) == (k == 0) then bif HR n then bif pV n.aN then some (n.aN.all (D8 t k)) else some false else some false else some false else some false else some false else some false)
      = some (!decide (n.be < 0) && !decide (n.a8 < 0) && ((n.aJ == 6) == (k == 0)) && pV n.aN && (n.aN.all (qx t k) && FI n)):=by
     rw [← Yv n]
     have q:decide (n.be≥0)=!decide (n.be < 0):=by
      by_cases h:n.be < 0
      ·have:¬ n.be≥0:=by omega
       simp [h,this]
      ·have:n.be≥0:=by omega
       simp [h,this]
     have d:decide (n.a8≥0)=!decide (n.a8 < 0):=by
      by_cases h:n.a8 < 0
      ·have:¬ n.a8≥0:=by omega
       simp [h,this]
      ·have:n.a8≥0:=by omega
       simp [h,this]
     rw [q,d]
     cases hko:pV n.aN with
     | false =>
      generalize ((n.aJ == 6) == (k == 0))=z
      cases decide (n.be < 0) <;> cases decide (n.a8 < 0) <;> cases am n.aJ 0 6 <;> cases HR n <;> cases z <;> rfl
     | true =>
      rw [XA hko]
      generalize ((n.aJ == 6) == (k == 0))=z
      generalize n.aN.all (qx t k)=y
      cases decide (n.be < 0) <;> cases decide (n.a8 < 0) <;> cases am n.aJ 0 6 <;> cases HR n <;> cases z <;> cases y <;> rfl
    unfold Ua
    by_cases h0:k=0
    ·have e1:(k == 0)=true:=by simpa using h0
     have e2:(k != 0)=false:=by simpa using h0
     rw [if_pos h0]
     cases hbo:(n.bf == -1) with
     | false=>simp only [e1,e2,hbo]; rfl
     | true =>
      simp only [e1] at core
      simp only [e1,hbo,Bool.not_true,Bool.true_and,Bool.and_true,cond_false,cond_true,if_true]
      exact core
    ·have e1:(k == 0)=false:=by simpa using h0
     have e2:(k != 0)=true:=by simpa using h0
     rw [if_neg h0]
     cases JJ t n.bf k with
     | false=>simp only [e1,e2]; rfl
     | true =>
      simp only [e1] at core
      simp only [e1,e2,Bool.not_true,Bool.true_and,Bool.and_true,cond_false,cond_true,if_true]
      exact core
def tG (a b:List Int):Bool:=decide (b.length≤a.length) && lN (a.take b.length) b
theorem Ce (u:Nat) (a b:List Int):mB u a b=some (tG a b):=by
 unfold mB tG
 by_cases h:b.length≤a.length
 ·have e:decide (((a.length:Int))≥((b.length:Int)))=true:=by simp; omega
  have c:dW (dU 0 ((b.length:Int)) a.length)=some ():=by
   rw [show (0:Int)=((0:Nat):Int) from rfl,eK (by omega) h]
  simp only [e,h,c,cond_true,Option.bind_some,wX,Int.toNat_natCast,show Int.toNat 0=0 from rfl,List.drop_zero,decide_true,Bool.true_and]
 ·have e:decide (((a.length:Int))≥((b.length:Int)))=false:=by simp; omega
  simp only [e,h,cond_false,decide_false,Bool.false_and]
theorem HS (u:Nat) (a b:List Int):pO u a b=some (tG a b):=by
 unfold pO tG
 by_cases h:b.length≤a.length
 ·have e:decide (((a.length:Int))≥((b.length:Int)))=true:=by simp; omega
  have c:dW (dU 0 ((b.length:Int)) a.length)=some ():=by
   rw [show (0:Int)=((0:Nat):Int) from rfl,eK (by omega) h]
  simp only [e,h,c,cond_true,Option.bind_some,Int.toNat_natCast,show Int.toNat 0=0 from rfl,List.drop_zero,decide_true,Bool.true_and]
  rfl
 ·have e:decide (((a.length:Int))≥((b.length:Int)))=false:=by simp; omega
  simp only [e,h,cond_false,decide_false,Bool.false_and]
def L8 (p:cd) (m:af) (s:Int):Bool:=(p.dY == 2) && ([p.fR.aP,p.fR.cL,p.fR.aY] == [m.aP,s,m.aY])
def rB (d:aG) (m:af) (x:aW) (ph:Int):Bool :=
 if ph=2 then (d.fP.all fun p=>p.dY == gV d) && tG (iP (Ft d) (gV d)) x.bh
 else if ph=3 then ((d.fP.length:Int) == 0) && tG (iP d (gV d)) x.bh
 else if ph=4 then ((d.fP.length:Int) == 1) && (match d.fP[0]? with | some p=>L8 p m (gV d) | none=>false) && tG (iP d (gV d)) x.bh
 else false
theorem GS (ph:Int) (a b c:Option Bool):(bif ph == 2 then a else (bif ph == 3 then b else (bif ph == 4 then c else some false)))=if ph=2 then a else if ph=3 then b else if ph=4 then c else some false:=by
 by_cases h2:ph=2
 ·subst h2; rfl
 ·by_cases h3:ph=3
  ·subst h3; rfl
  ·by_cases h4:ph=4
   ·subst h4; rfl
   ·have e2:(ph == 2)=false:=by simpa using h2
    have e3:(ph == 3)=false:=by simpa using h3
    have e4:(ph == 4)=false:=by simpa using h4
    simp [h2,h3,h4,e2,e3,e4]
theorem MI (ph:Int) (a b c:Bool):(if ph=2 then some a else if ph=3 then some b else if ph=4 then some c else some false)=some (if ph=2 then a else if ph=3 then b else if ph=4 then c else false):=by
 by_cases h2:ph=2 <;> by_cases h3:ph=3 <;> by_cases h4:ph=4 <;> simp [h2,h3,h4]
theorem Yw {d:aG} (h:am (gV d) 0 1=true):gV d=0∨gV d=1:=by
 have:=b9 h; omega
theorem FK {u:Nat} (hu:1099511627776≤u) {d:aG} (hd:M.DOk d) (hs:am (gV d) 0 1=true) (x:aW):iE u u 0 d x=some ((d.fP.all fun p=>p.dY == gV d) && tG (iP (Ft d) (gV d)) x.bh):=by
 have hp:=hd.p
 have fin:sG u d x ()=some (tG (iP (Ft d) (gV d)) x.bh):=by
  unfold sG qA
  simp only [TR hu hd,CA,Option.bind_some,Ak u (Ft d) hs,Ce]
 rw [F7 u d x () u (by omega) (by omega),mP (fun p _=>p.dY == gV d) (xs:=d.fP) fin 0 (fun p i f _ hx=>?_) d.fP 0 (Nat.le_refl _) rfl,FJ]
 unfold zO
 simp only [CA,Option.bind_some,bne]
 cases (p.dY == gV d) <;> rfl
theorem qae {α:Type} (l:List α):((l.length:Int) == 1)=decide (l.length=1):=by
 rw [Bool.eq_iff_iff]; simp; omega
theorem JZ {u:Nat} (hu:1099511627776≤u) {d:aG} (hd:M.DOk d) (hs:am (gV d) 0 1=true) (m:af) (x:aW) (ph:Int):qV u d m x ph=some (rB d m x ph):=by
 unfold qV rB
 simp only [CA,Option.bind_some,Ak u d hs,FK hu hd hs,Ce]
 rw [GS,← MI]
 congr 1
 congr 1
 ·cases ((d.fP.length:Int) == 0) <;> rfl
 ·congr 1
  cases hp:d.fP with
  | nil=>rfl
  | cons p l =>
   cases l with
   | nil =>
    have e:ci [p] (0:Int)=some p:=br [p] 0
    simp only [List.length_singleton,e,Option.bind_some,List.getElem?_cons_zero,L8]
    cases (p.dY == 2) <;> cases ([p.fR.aP,p.fR.cL,p.fR.aY] == [m.aP,gV d,m.aY]) <;> rfl
   | cons q l =>
    have e:(((p :: q :: l).length:Int) == 1)=false:=by rw [qae]; simp
    simp only [e,cond_false,Bool.false_and]
theorem We (l:List cd) (s:Int):(!(l.any fun p=>p.dY != s))=l.all fun p=>p.dY == s:=by
 induction l with
 | nil=>rfl
 | cons x l ih =>
  rw [List.any_cons,List.all_cons,Bool.not_or,ih,show (x.dY != s)=!(x.dY == s) from rfl,Bool.not_not]
theorem HT {u:Nat} (hu:1099511627776≤u) {l:List cd} (hl:l.length≤1048576) (s:Int):bT u l s=some (l.any fun p=>p.dY != s):=by
 unfold bT ct
 rw [jk u l s () u (by omega) (by omega),lP (fun p=>p.dY != s) rfl (fun x i k hx=>rfl)]
 simp only [Option.bind_some,ry]
theorem Gk (u:Nat) (d:aG) (s:Int) (x:aW):jt u d s x=some (tG (iP d s) x.bh):=by
 unfold jt
 simp only [D1,Option.bind_some,HS]
theorem FL {u:Nat} (hu:1099511627776≤u) {d:aG} (hd:M.DOk d) (m:af) (x:aW) (ph:Int):nI u ph d (gV d) (gV d) m x=some (rB d m x ph):=by
 unfold nI rB
 simp only [HT hu hd.p,TT hu hd,Gk,Option.bind_some,We]
 rw [GS,← MI]
 congr 1
 ·cases (d.fP.all fun p=>p.dY == gV d) <;> rfl
 ·congr 1
  ·cases ((d.fP.length:Int) == 0) <;> rfl
  ·congr 1
   cases hp:d.fP with
   | nil=>rfl
   | cons p l =>
    cases l with
    | nil =>
     have e:ci [p] (0:Int)=some p:=br [p] 0
     simp only [List.length_singleton,e,Option.bind_some,List.getElem?_cons_zero,L8]
     cases (p.dY == 2) <;> cases ([p.fR.aP,p.fR.cL,p.fR.aY] == [m.aP,gV d,m.aY]) <;> rfl
    | cons q l =>
     have e:(((p :: q :: l).length:Int) == 1)=false:=by rw [qae]; simp
     simp only [e,cond_false,Bool.false_and]
theorem J0 {u:Nat} (hu:1099511627776≤u) {d:aG} (hd:M.DOk d) (hs:am (gV d) 0 1=true) (m:af) (x:aW) (ph:Int):ra u d m x ph=some (rB d m x ph):=by
 have j:=FL hu hd m x ph
 unfold ra
 simp only [Sw,Option.bind_some]
 rcases Yw hs with h | h
 ·rw [h] at j ⊢; exact j
 ·rw [h] at j ⊢; exact j
theorem J1 {d:aG} (h:em d=true):am (gV d) 0 1=true:=by
 have r:=b9 (yb (Al h).1).1
 unfold gV
 rw [cB (by omega) (by omega)]
 simp [am]; omega
def Bu (c:vg):Bool:=am c.aS 2 6 && am c.gA 1 40 && am c.ep 1 5 && am c.ij 2 8
theorem Rz (u:Nat) (c:vg):yq u c=some (Bu c):=by
 unfold yq Bu
 simp only [bU,Option.bind_some]
 cases am c.aS 2 6 <;> cases am c.gA 1 40 <;> cases am c.ep 1 5 <;> rfl
theorem RA (u:Nat) (c:vg):yA u c=some (Bu c):=by
 unfold yA Bu
 simp only [bG,Option.bind_some]
 cases am c.aS 2 6 <;> cases am c.gA 1 40 <;> cases am c.ep 1 5 <;> rfl
def xb (l:List ba) (n:Int):Bool:=(l.all fun x=>!decide ((x.fB.length:Int) > 240)) && ((l.length:Int) == n)
theorem OF {u:Nat} (hu:1099511627776≤u) {l:List ba} (hl:l.length≤1048576) (n:Int):vu u l n=some (xb l n):=by
 unfold vu xb
 rw [Ia u l n () u (by omega) (by omega),mP (fun (x:ba) _=>!decide ((x.fB.length:Int) > 240)) (xs:=l) (b:=(l.length:Int) == n) rfl 0 (fun x i f _ hx=>?_) l 0 (Nat.le_refl _) rfl,FJ]
 unfold BH
 cases decide ((x.fB.length:Int) > 240) <;> rfl
theorem J2 {u:Nat} (hu:1099511627776≤u) {l:List ba} (hl:l.length≤1048576) (t:co):q7 u t l=some (xb l t.cy.length):=by
 unfold q7 xb cf cj
 rw [iq u l () u (by omega) (by omega),lP (fun (x:ba)=>decide ((x.fB.length:Int) > 240)) rfl (fun x i k hx=>rfl)]
 simp only [Option.bind_some,ry]
 have e:(!(l.any fun x=>decide ((x.fB.length:Int) > 240)))=l.all fun x=>!decide ((x.fB.length:Int) > 240):=by
  induction l with
  | nil=>rfl
  | cons x l ih=>simp only [List.any_cons,List.all_cons,Bool.not_or,ih (by simp at hl; omega)]
 rw [e]
 cases ((l.length:Int) == (t.cy.length:Int)) <;> simp
def tH (new old:List Int) (n:aA) (d:aG):Bool :=
 if n.aJ=0 then ((d.fP.length:Int) == 0) && (M.holds d 0 old || M.holds d 1 new)
 else if n.aJ=1 then ((d.fP.length:Int) == 0) && M.holds d 0 old
 else if n.aJ=5 then ((d.fP.length:Int) == 0) && M.holds d 1 new
 else M.holds d 0 old && rB d n.av n.a7 n.aJ
theorem GT {α:Type} (ph:Int) (a b c e:α):(bif ph == 0 then a else (bif ph == 1 then b else (bif ph == 5 then c else e)))=if ph=0 then a else if ph=1 then b else if ph=5 then c else e:=by
 by_cases h2:ph=0
 ·subst h2; rfl
 ·by_cases h3:ph=1
  ·subst h3; rfl
  ·by_cases h4:ph=5
   ·subst h4; rfl
   ·have e2:(ph == 0)=false:=by simpa using h2
    have e3:(ph == 1)=false:=by simpa using h3
    have e4:(ph == 5)=false:=by simpa using h4
    simp [h2,h3,h4,e2,e3,e4]
theorem U6 {α:Type} (p q r:Prop) [Decidable p] [Decidable q] [Decidable r] (a b c e:α):some (if p then a else if q then b else if r then c else e)=if p then some a else if q then some b else if r then some c else some e:=(Rs p q r a b c e).symm
theorem L9 {u:Nat} (hu:1099511627776≤u) {w:World} {k:Nat} {n:aA} {d:aG} {o:ba} (hn:w.fN[k]?=some n) (hd:w.fD[k]?=some d) (ho:w.fZ[k]?=some o) (dk:M.DOk d) (hok:em d=true) (hoff:n.fK=false→n.aJ=0):kc u w k=some (tH w.jh o.fB n d):=by
 unfold kc kv
 simp only [br,hn,hd,ho,Option.bind_some,GK hu dk,J0 hu dk (J1 hok)]
 have main:(bif n.aJ == 0 then (bif (d.fP.length:Int) == 0 then bif M.holds d 0 o.fB then some true else some (M.holds d 1 w.jh) else some false) else bif n.aJ == 1 then (bif (d.fP.length:Int) == 0 then some (M.holds d 0 o.fB) else some false) else bif n.aJ == 5 then (bif (d.fP.length:Int) == 0 then some (M.holds d 1 w.jh) else some false) else (bif M.holds d 0 o.fB then some (rB d n.av n.a7 n.aJ) else some false))=some (tH w.jh o.fB n d):=by
  unfold tH
  rw [GT,U6]
  congr 1
  ·cases ((d.fP.length:Int) == 0) <;> cases M.holds d 0 o.fB <;> rfl
  ·congr 1
   ·cases ((d.fP.length:Int) == 0) <;> rfl
   ·congr 1
    ·cases ((d.fP.length:Int) == 0) <;> rfl
    ·cases M.holds d 0 o.fB <;> rfl
 cases hon:n.fK with
 | true=>exact main
 | false =>
  have h0:=hoff hon
  rw [h0] at main ⊢
  exact main
theorem OG {u:Nat} (hu:1099511627776≤u) {w:World} {k:Nat} (hk:k≠0) {n:aA} {d:aG} {o:ba} (hn:w.fN[k]?=some n) (hd:w.fD[k]?=some d) (ho:w.fZ[k]?=some o) (dk:M.DOk d) (hok:em d=true):iF u w k=some (tH w.jh o.fB n d):=by
 have e0:((k:Int) == 0)=false:=by simp; omega
 unfold iF
 simp only [br,hn,hd,ho,Option.bind_some,e0,cond_false,LP hu dk,yd hu dk,JZ hu dk (J1 hok)]
 rw [GT]
 unfold tH HH
 rw [U6]
 cases h4:M.holds d 0 o.fB with
 | true =>
  simp only [Bool.true_or,Bool.not_true,cond_false,cond_true]
  congr 1
  ·cases ((d.fP.length:Int) == 0) <;> rfl
  ·congr 1
   ·cases ((d.fP.length:Int) == 0) <;> rfl
   ·congr 1
    cases ((d.fP.length:Int) == 0) <;> rfl
 | false =>
  cases h5:M.holds d 1 w.jh with
  | true =>
   simp only [Bool.false_or,Bool.not_true,cond_false]
   congr 1
   ·cases ((d.fP.length:Int) == 0) <;> rfl
   ·congr 1
    ·cases ((d.fP.length:Int) == 0) <;> rfl
    ·congr 1
     cases ((d.fP.length:Int) == 0) <;> rfl
  | false =>
   simp only [Bool.or_self,Bool.not_false,cond_true,Bool.and_false,Bool.false_and]
   split
   ·rfl
   ·split
    ·rfl
    ·split <;> rfl
structure M.WIn (w:World):Prop where
 nd:M.NdOk w
 up:w.fT.cy.length≤1048576
 n:w.fN.length≤1048576
 d:w.fD.length≤1048576
 net:w.eo.length≤1048576
 nodes:∀ n∈w.fN,n.av.aD.length≤1048576∧M.BldWf n.a7∧n.aN.length≤1048576
 disks:∀ d∈w.fD,M.DOk d
def tJ (n:aA) (d:aG) (o:ba):Bool:=n.fK && M.holds d 0 o.fB && ((d.fP.length:Int) == 0)
def tK (w:World) (n:aA) (i:Nat):Bool:=match w.fD[i]?,w.fZ[i]? with
 | some d,some o=>mR w.fT i n && em d && ((n.aJ == 0) || et n.av (uk w)) && (if i=0 then tJ n d o else tH w.jh o.fB n d)
 | _,_=>false
def o4 (t:co) (p:au):Bool:=am p.du 0 ((t.cy.length:Int) - 1) && am p.GU 0 ((t.cy.length:Int) - 1)
def xN (w:World):Bool :=
 Bu w.fC && oY w.fT && fQ w.fC.aS w.jh.length && xb w.fZ w.fT.cy.length && ((w.fN.length:Int) == (w.fT.cy.length:Int)) && ((w.fD.length:Int) == (w.fT.cy.length:Int)) &&
  !decide ((w.eo.length:Int) > 400) && !decide ((w.pX.length:Int) > 3000) && !decide (w.qL < 0) && (iQ (tK w) w.fN 0 && w.eo.all (o4 w.fT))
theorem J3 {u:Nat} (hu:1099511627776≤u) {w:World} {n:aA} {d:aG} {o:ba} (hn:w.fN[0]?=some n) (hd:w.fD[0]?=some d) (ho:w.fZ[0]?=some o) (dk:M.DOk d):iF u w 0=some (tJ n d o):=by
 have i1:ci w.fN (0:Int)=some n:=(br w.fN 0).trans hn
 have i2:ci w.fD (0:Int)=some d:=(br w.fD 0).trans hd
 have i3:ci w.fZ (0:Int)=some o:=(br w.fZ 0).trans ho
 unfold iF tJ
 simp only [i1,i2,i3,Option.bind_some,yd hu dk]
 cases n.fK <;> cases M.holds d 0 o.fB <;> rfl
theorem Ma {u:Nat} (hu:1099511627776≤u) {w:World} (h:M.WIn w):pH u w=some (w.eo.all (o4 w.fT)):=by
 have eb:cu .i64 ((w.fT.cy.length:Int)) 1=(w.fT.cy.length:Int) - 1:=cB (by have:=h.up; omega) (by have:=h.up; omega)
 have hl:=h.net
 unfold pH
 rw [Ie u w () u (by omega) (by omega),mP (fun p _=>o4 w.fT p) (xs:=w.eo) (b:=true) rfl 0 (fun p i f _ hx=>?_) w.eo 0 (Nat.le_refl _) rfl,FJ,Bool.and_true]
 unfold BJ na o4
 simp only [bU,eb,br,hx,Option.bind_some]
 cases am p.du 0 ((w.fT.cy.length:Int) - 1) <;> cases am p.GU 0 ((w.fT.cy.length:Int) - 1) <;> rfl
theorem HU {u:Nat} (hu:1099511627776≤u) {w:World} (h:M.WIn w) (hn:w.fN.length=w.fT.cy.length) (hd:w.fD.length=w.fT.cy.length) (ho:w.fZ.length=w.fT.cy.length) :
  d3 u u w 0 (uk w)=some (iQ (tK w) w.fN 0 && w.eo.all (o4 w.fT)):=by
 have up:=h.up
 rw [Ig u w (uk w) () u (by omega) (by omega),Int.toNat_natCast,← hn,
  Tc (tK w) (xs:=w.fN) (b:=w.eo.all (o4 w.fT)) (Ma hu h) (fun n i k hx=>?_) w.fN 0 rfl]
 have hi:=(List.getElem?_eq_some_iff.1 hx).1
 have hdd:w.fD[i]?=some (w.fD[i]'(by omega)):=List.getElem?_eq_getElem _
 have hoo:w.fZ[i]?=some (w.fZ[i]'(by omega)):=List.getElem?_eq_getElem _
 generalize w.fD[i]'(by omega)=d at hdd
 generalize w.fZ[i]'(by omega)=o at hoo
 have nn:=h.nodes n (List.mem_of_getElem? hx)
 have dk:=h.disks d (List.mem_of_getElem? hdd)
 unfold BK d2 tK
 simp only [br,hx,hdd,hoo,Option.bind_some,Rx hu up i nn.1 nn.2.1 nn.2.2,Bi hu dk,pT hu nn.1]
 cases hok:em d with
 | false=>cases mR w.fT i n <;> simp
 | true =>
  have dsk:iF u w (i:Int)=some (if i=0 then tJ n d o else tH w.jh o.fB n d):=by
   by_cases h0:i=0
   ·subst h0
    rw [if_pos rfl]
    exact J3 hu hx hdd hoo dk
   ·rw [if_neg h0]
    exact OG hu h0 hx hdd hoo dk hok
  simp only [dsk,Option.bind_some]
  generalize (if i=0 then tJ n d o else tH w.jh o.fB n d)=z
  rw [show (n.aJ != 0)=!(n.aJ == 0) from rfl]
  cases mR w.fT i n <;> cases (n.aJ == 0) <;> cases et n.av (uk w) <;> cases z <;> rfl
theorem OH {u:Nat} (hu:1099511627776≤u) {w:World} (h:M.WIn w):vC u w=some (xN w):=by
 unfold vC xN
 simp only [Rz,Fw hu (show w.fT.cy.length≤1073741824 by have:=h.up; omega),wT,OF hu h.nd.old,Option.bind_some]
 rw [show ((w.fN.length:Int) != (w.fT.cy.length:Int))=!((w.fN.length:Int) == (w.fT.cy.length:Int)) from rfl,show ((w.fD.length:Int) != (w.fT.cy.length:Int))=!((w.fD.length:Int) == (w.fT.cy.length:Int)) from rfl]
 have f:d4 u w true=some false:=rfl
 rw [f]
 cases Bu w.fC with
 | false=>rfl
 | true =>
  cases oY w.fT with
  | false=>rfl
  | true =>
   cases fQ w.fC.aS w.jh.length with
   | false=>rfl
   | true =>
    cases ho:xb w.fZ w.fT.cy.length with
    | false=>rfl
    | true =>
     cases hn:((w.fN.length:Int) == (w.fT.cy.length:Int)) with
     | false=>rfl
     | true =>
      cases hd:((w.fD.length:Int) == (w.fT.cy.length:Int)) with
      | false=>rfl
      | true =>
       cases decide ((w.eo.length:Int) > 400) with
       | true=>rfl
       | false =>
        cases decide ((w.pX.length:Int) > 3000) with
        | true=>rfl
        | false =>
         cases decide (w.qL < 0) with
         | true=>rfl
         | false =>
          unfold xb at ho
          simp only [Bool.and_eq_true,beq_iff_eq] at ho hn hd
          have l6:=HU hu h (by omega) (by omega) (by omega)
          simp only [Bool.not_true,Bool.not_false,cond_false,cond_true,Bool.true_and,d4,Sn hu h.nd,Option.bind_some,l6]
def sE (w:World) (n:aA) (i:Nat):Bool:=match w.fD[i]?,w.fZ[i]? with
 | some d,some o=>mR w.fT i n && em d && ((n.aJ == 0) || et n.av (uk w)) && (if i=0 then true else tH w.jh o.fB n d)
 | _,_=>false
theorem RB {α:Type} {f g:α→Nat→Bool} (h:∀ x j,1≤j→f x j=g x j):∀ (l:List α) (i:Nat),1≤i→iQ f l i=iQ g l i
 | [],_,_=>rfl
 | x :: l,i,hi=>by simp only [iQ,h x i hi,RB h l (i+1) (by omega)]
theorem Wf (w:World) (n:aA) (j:Nat) (h:1≤j):tK w n j=sE w n j:=by
 have h0:¬ j=0:=by omega
 unfold tK sE
 simp only [h0,if_false]
 all_goals (cases w.fD[j]? <;> cases w.fZ[j]? <;> rfl)
theorem Mb {u:Nat} (hu:1099511627776≤u) {w:World} (h:M.WIn w):bQ u w.eo w=some (w.eo.any fun p=>!o4 w.fT p):=by
 have hl:=h.net
 unfold bQ ck
 rw [iu u w.eo w () u (by omega) (by omega),lP (fun p=>!o4 w.fT p) rfl (fun x i k hx=>by
  unfold dB rc o4
  simp only [oZ u h.up,Option.bind_some]
  cases am x.du 0 ((w.fT.cy.length:Int) - 1) <;> cases am x.GU 0 ((w.fT.cy.length:Int) - 1) <;> rfl)]
 simp only [Option.bind_some,ry]
theorem Wg {t:co} {k:Int} {n:aA} (h:mR t k n=true) (ho:n.fK=false):n.aJ=0:=by
 unfold mR JY at h
 rw [ho] at h
 simp only [Bool.and_eq_true,Bool.false_eq_true,if_false,beq_iff_eq] at h
 exact h.2.1.1.2
def RC (w:World) (r:Bool):Bool:=r && !decide ((w.eo.length:Int) > 400) && w.eo.all (o4 w.fT) && !decide ((w.pX.length:Int) > 3000) && !decide (w.qL < 0)
theorem ZM (a b:Int):decide (a≤b)=!decide (a > b):=by
 by_cases h:a≤b
 ·have:¬ a > b:=by omega
  simp [h,this]
 ·have:a > b:=by omega
  simp [h,this]
theorem ZN (a b:Int):decide (a≥b)=!decide (a < b):=by
 by_cases h:a < b
 ·have:¬ a≥b:=by omega
  simp [h,this]
 ·have:a≥b:=by omega
  simp [h,this]
theorem J4 {u:Nat} (hu:1099511627776≤u) {w:World} (h:M.WIn w) {n:aA} {d:aG} {o:ba} (hn:w.fN[0]?=some n) (hd:w.fD[0]?=some d) (ho:w.fZ[0]?=some o):nk u w=some (RC w (tJ n d o)):=by
 have i1:ci w.fN (0:Int)=some n:=(br w.fN 0).trans hn
 have i2:ci w.fD (0:Int)=some d:=(br w.fD 0).trans hd
 have i3:ci w.fZ (0:Int)=some o:=(br w.fZ 0).trans ho
 have dk:=h.disks d (List.mem_of_getElem? hd)
 unfold nk RC tJ
 simp only [i1,i2,i3,Option.bind_some,GK hu dk,Mb hu h,Fo,ZM,ZN]
 cases n.fK <;> cases M.holds d 0 o.fB <;> cases ((d.fP.length:Int) == 0) <;> cases decide ((w.eo.length:Int) > 400) <;> cases w.eo.all (o4 w.fT) <;> cases decide ((w.pX.length:Int) > 3000) <;> rfl
theorem HV {u:Nat} (hu:1099511627776≤u) {w:World} (h:M.WIn w) (hd:w.fD.length=w.fN.length) (ho:w.fZ.length=w.fN.length) {r:Bool} (hr:nk u w=some r) :
  d6 u u w 0 (uk w)=some (iQ (sE w) w.fN 0 && r):=by
 have hn:=h.n
 rw [Iu u w (uk w) () u (by omega) (by omega),mP (sE w) (xs:=w.fN) (b:=r) hr 0 (fun n i k _ hx=>?_) w.fN 0 (Nat.le_refl _) rfl]
 have hi:=(List.getElem?_eq_some_iff.1 hx).1
 have hdd:w.fD[i]?=some (w.fD[i]'(by omega)):=List.getElem?_eq_getElem _
 have hoo:w.fZ[i]?=some (w.fZ[i]'(by omega)):=List.getElem?_eq_getElem _
 generalize w.fD[i]'(by omega)=d at hdd
 generalize w.fZ[i]'(by omega)=o at hoo
 have nn:=h.nodes n (List.mem_of_getElem? hx)
 have dk:=h.disks d (List.mem_of_getElem? hdd)
 unfold BQ fu ub sE
 simp only [br,hdd,hoo,Option.bind_some,Ry hu h.up i nn.1 nn.2.1 nn.2.2,Bh hu dk,zG hu nn.1]
 cases hno:mR w.fT i n with
 | false=>rfl
 | true =>
  cases hok:em d with
  | false=>rfl
  | true =>
   have mir:=L9 hu hx hdd hoo dk hok (Wg hno)
   simp only [mir,Option.bind_some]
   rw [show (n.aJ != 0)=!(n.aJ == 0) from rfl]
   by_cases h0:i=0
   ·have e:decide ((i:Int) > 0)=false:=by simp; omega
    simp only [e,h0,if_true]
    cases (n.aJ == 0) <;> cases et n.av (uk w) <;> rfl
   ·have e:decide ((i:Int) > 0)=true:=by simp; omega
    simp only [e,h0,if_false]
    cases (n.aJ == 0) <;> cases et n.av (uk w) <;> cases tH w.jh o.fB n d <;> rfl
theorem OI {u:Nat} (hu:1099511627776≤u) {w:World} (h:M.WIn w):wa u w=some (xN w):=by
 unfold wa xN
 simp only [RA,Fv hu (show w.fT.cy.length≤1073741824 by have:=h.up; omega),wS,J2 hu h.nd.old,Option.bind_some]
 rw [show ((w.fN.length:Int) != (w.fT.cy.length:Int))=!((w.fN.length:Int) == (w.fT.cy.length:Int)) from rfl,show ((w.fD.length:Int) != (w.fT.cy.length:Int))=!((w.fD.length:Int) == (w.fT.cy.length:Int)) from rfl]
 have f:gQ u true w=some false:=rfl
 rw [f]
 cases Bu w.fC with
 | false=>rfl
 | true =>
  cases ht:oY w.fT with
  | false=>rfl
  | true =>
   cases fQ w.fC.aS w.jh.length with
   | false=>rfl
   | true =>
    cases ho:xb w.fZ w.fT.cy.length with
    | false=>rfl
    | true =>
     cases hn:((w.fN.length:Int) == (w.fT.cy.length:Int)) with
     | false=>rfl
     | true =>
      cases hd:((w.fD.length:Int) == (w.fT.cy.length:Int)) with
      | false=>rfl
      | true =>
       unfold xb at ho
       unfold oY at ht
       simp only [Bool.and_eq_true,beq_iff_eq] at ho hn hd ht
       have up:=b9 ht.2
       have hnn:w.fN[0]?=some (w.fN[0]'(by omega)):=List.getElem?_eq_getElem _
       have hdd:w.fD[0]?=some (w.fD[0]'(by omega)):=List.getElem?_eq_getElem _
       have hoo:w.fZ[0]?=some (w.fZ[0]'(by omega)):=List.getElem?_eq_getElem _
       generalize w.fN[0]'(by omega)=n at hnn
       generalize w.fD[0]'(by omega)=d at hdd
       generalize w.fZ[0]'(by omega)=o at hoo
       have l3:=HV hu h (by omega) (by omega) (J4 hu h hnn hdd hoo)
       simp only [Bool.not_true,cond_false,Bool.true_and,gQ,Sm hu h.nd,Option.bind_some,l3]
       have e:iQ (tK w) w.fN 0=(iQ (sE w) w.fN 0 && tJ n d o):=by
        cases hf:w.fN with
        | nil=>rw [hf] at hnn; simp at hnn
        | cons x l =>
         rw [hf] at hnn
         simp only [List.getElem?_cons_zero,Option.some.injEq] at hnn
         subst hnn
         simp only [iQ]
         rw [RB (Wf w) l (0+1) (by omega)]
         generalize iQ (sE w) l (0+1)=y
         unfold tK sE
         simp only [hdd,hoo,if_true]
         generalize (mR w.fT ((0:Nat):Int) x && em d && ((x.aJ == 0) || et x.av (uk w)))=z
         cases z <;> cases tJ x d o <;> cases y <;> rfl
       rw [e]
       unfold RC
       generalize iQ (sE w) w.fN 0=a
       generalize tJ n d o=b
       generalize w.eo.all (o4 w.fT)=c
       cases a <;> cases b <;> cases c <;> cases decide ((w.eo.length:Int) > 400) <;> cases decide ((w.pX.length:Int) > 3000) <;> cases decide (w.qL < 0) <;> rfl
structure M.WBytes (w:World):Prop where
 n:∀ n∈w.fN,xY n.av
 d:∀ d∈w.fD,M.DB d
 p:∀ p∈w.eo,HQ p
theorem XB {t:co} {j:Nat} {n:aA} (h:mR t j n=true) (hs:n.av.aD.length≤1048576) (hb:M.BldWf n.a7) (hk:n.aN.length≤1048576) (hw:xY n.av):M.NodeIn t j n:=by
 unfold mR at h
 simp only [Bool.and_eq_true] at h
 have hj:=b9 h.1.2
 have nw:M.NodWf n:=⟨hs,hb,by omega,hw⟩
 cases hon:n.fK with
 | false =>
  have g:=h.2
  rw [hon] at g
  simp only [Bool.false_eq_true,if_false] at g
  unfold JY at g
  simp only [Bool.and_eq_true,beq_iff_eq] at g
  have e:n.aN=[]:=List.eq_nil_of_length_eq_zero (by have:=g.1.2; omega)
  refine ⟨nw,?_,?_,fun _=>?_⟩
  ·unfold qI; rw [e]; exact ⟨by simp [ft],by simp [ft]⟩
  ·rw [e]; simp [ft]
  ·rw [g.1.1.1.1.1]
   unfold pW; simp [am]; omega
 | true =>
  have g:=h.2
  rw [hon] at g
  simp only [if_true] at g
  unfold Ua at g
  simp only [Bool.and_eq_true] at g
  obtain ⟨⟨⟨⟨⟨g1,_⟩,_⟩,_⟩,g2⟩,g3,_⟩:=g
  have ks:=JV g2
  refine ⟨nw,ks,fun z hz=>?_,fun h0=>?_⟩
  ·have r:=ks.r z hz
   unfold ft at hz
   rw [List.mem_map] at hz
   obtain ⟨x,hx,rfl⟩:=hz
   have f:=List.all_eq_true.1 g3 x hx
   unfold qx at f
   simp only [Bool.and_eq_true,Bool.not_eq_true',decide_eq_false_iff_not] at f
   unfold pW
   simp only [am,Bool.and_eq_true,decide_eq_true_eq]
   omega
  ·rw [if_neg (by omega)] at g1
   exact ZI g1
theorem U7 {w:World} (h:M.WIn w) (b:M.WBytes w) (hw:xN w=true):M.WWf w:=by
 unfold xN at hw
 simp only [Bool.and_eq_true,Bool.not_eq_true',decide_eq_false_iff_not,beq_iff_eq] at hw
 obtain ⟨⟨⟨⟨⟨⟨⟨⟨⟨_,ht⟩,_⟩,ho⟩,hn⟩,hd⟩,hnet⟩,_⟩,_⟩,hall,hends⟩:=hw
 have at_:∀ (j:Nat) (n:aA),w.fN[j]?=some n→tK w n j=true:=fun j n hj=>by
  have:=Rv hall j n hj
  rwa [Nat.zero_add] at this
 have parts:∀ (j:Nat) (n:aA) (d:aG),w.fN[j]?=some n→w.fD[j]?=some d→mR w.fT j n=true∧em d=true:=fun j n d hj hdj=>by
  have a:=at_ j n hj
  unfold tK at a
  rw [hdj] at a
  cases ho:w.fZ[j]? with
  | none=>rw [ho] at a; cases a
  | some o =>
   rw [ho] at a
   simp only [Bool.and_eq_true] at a
   exact ⟨a.1.1.1,a.1.1.2⟩
 refine ⟨ht,by omega,by omega,fun j n hj=>?_,fun j d hj=>?_,fun p hp=>?_,by omega⟩
 ·have lt:=(List.getElem?_eq_some_iff.1 hj).1
  have hdd:w.fD[j]?=some (w.fD[j]'(by omega)):=List.getElem?_eq_getElem _
  have nn:=h.nodes n (List.mem_of_getElem? hj)
  exact XB (parts j n _ hj hdd).1 nn.1 nn.2.1 nn.2.2 (b.n n (List.mem_of_getElem? hj))
 ·have lt:=(List.getElem?_eq_some_iff.1 hj).1
  have hnn:w.fN[j]?=some (w.fN[j]'(by omega)):=List.getElem?_eq_getElem _
  exact ⟨h.disks d (List.mem_of_getElem? hj),b.d d (List.mem_of_getElem? hj),Yr (parts j _ d hnn hj).2⟩
 ·have f:=List.all_eq_true.1 hends p hp
  unfold o4 at f
  simp only [Bool.and_eq_true] at f
  exact ⟨b.p p hp,f.1,f.2⟩
theorem ZO {m:af} (h:af.wf m):xY m:=fun s hs=>by
 have g:=(h.2.2.2.1.2 s hs).2.1
 exact (show -9223372036854775808≤s.fS∧s.fS≤9223372036854775807 from g).2
theorem ZP {w:World} (hw:World.wf w) (hb:eT w≤1048576):M.WBytes w:=by
 obtain ⟨_,_,_,_,h5,h6,h7,_⟩:=hw
 refine ⟨fun n hn=>ZO (h5.2 n hn).2.2.2.1,fun d hd=>?_,fun p hp=>⟨Be (h7.2 p hp).2.2.1,?_⟩⟩
 ·have g:=h6.2 d hd
  exact ⟨Be g.1,Be g.2.1,fun x hx=>Be (g.2.2.2.1.2 x hx).2.2.1⟩
 ·have h0:=hb
  unfold eT at h0
  have h8:=gD (f:=cV) hp
  have h9:cV p=p.fB.length:=rfl
  omega
theorem win {w:World} (hw:World.wf w) (hb:eT w≤1048576):M.WIn w:=by
 have k:=worldOk hw hb
 obtain ⟨_,_,_,_,h5,_⟩:=id hw
 refine ⟨qav hw hb,k.up,k.n,k.d,k.net,fun n hn=>⟨(k.nodes n hn).1,⟨Be (h5.2 n hn).2.2.2.2.1.2.1,?_⟩,(k.nodes n hn).2⟩,(qau hb).ok⟩
 have h0:=hb
 unfold eT at h0
 have h8:=gD (f:=dx) hn
 have h7:dx n=n.av.aD.length+(n.a7.bh.length+n.aN.length):=rfl
 omega
def Mc (t:co) (me:Int) (n:aA) (d:aG) (p:au):Bool:=(((M.take t me n d p).sU.length:Int) == 0) && uD ⟨(M.take t me n d p).fN.fK,(M.take t me n d p).fN.bf,(M.take t me n d p).fN.be,(M.take t me n d p).fN.av,(M.take t me n d p).fN.a7,(M.take t me n d p).fN.aJ,(M.take t me n d p).fN.aN,n.a8⟩ n
def DD (w:World) (p:au):Bool:=match w.fN[p.GU.toNat]?,w.fD[p.GU.toNat]? with
 | some n,some d=>Mc w.fT p.GU n d p
 | _,_=>false
theorem U8 {u:Nat} (hu:1099511627776≤u) {w:World} (h:M.WWf w) {k:Nat} {p:au} (hp:w.eo[k]?=some p):pL u w (k:Int)=some (DD w p)∧lv u w (k:Int)=some (DD w p):=by
 have up:=ZL h
 have pin:=h.net p (List.mem_of_getElem? hp)
 obtain ⟨j,e,hj⟩:=Wd pin.t
 have hn:w.fN[j]?=some (w.fN[j]'(by rw [h.nl]; exact hj)):=List.getElem?_eq_getElem _
 have hd:w.fD[j]?=some (w.fD[j]'(by rw [h.dl]; exact hj)):=List.getElem?_eq_getElem _
 generalize w.fN[j]'(by rw [h.nl]; exact hj)=n at hn
 generalize w.fD[j]'(by rw [h.dl]; exact hj)=d at hd
 have a:=h.nodes j n hn
 have b:=h.disks j d hd
 have g:=(Zc hj a b pin).1
 have hs:∀ q:Int,(aA.mk (M.take w.fT j n d p).fN.fK (M.take w.fT j n d p).fN.bf (M.take w.fT j n d p).fN.be (M.take w.fT j n d p).fN.av (M.take w.fT j n d p).fN.a7 (M.take w.fT j n d p).fN.aJ (M.take w.fT j n d p).fN.aN q).av.aD.length≤1048576:=fun _=>g.w.s
 have hk:=Cd g
 have s1:∀ a':aA,a'.av.aD.length≤1048576→a'.aN.length≤1048576→qh u a' n=some (uD a' n)∧qm u a' n=some (uD a' n):=fun a' h1 h2=>⟨LJ hu h1 h2,LI hu h1 h2⟩
 have s2:=s1 _ (hs n.a8) hk
 constructor
 ·unfold pL Ac DD Mc
  simp only [br,hp,e,Int.toNat_natCast,hn,hd,Option.bind_some,T0 hu (show w.fT.cy.length≤1048576 by omega) (j:Int) a.w (Cd a) b.o b.b pin.w.1 pin.w.2,s2.1]
  cases ((M.take w.fT j n d p).sU.length:Int) == 0 <;> rfl
 ·unfold lv Ah DD Mc
  simp only [br,hp,e,Int.toNat_natCast,hn,hd,Option.bind_some,T1 hu (show w.fT.cy.length≤1048576 by omega) (j:Int) a.w (Cd a) b.o b.b pin.w.1 pin.w.2,s2.2]
  cases ((M.take w.fT j n d p).sU.length:Int) == 0 <;> rfl
theorem RD {u:Nat} (hu:1099511627776≤u) {w:World} {i:Int} (hw:World.wf w) (hi:lc .i64 i) (hb:eT w≤1048576):∃ v,q6 u w i=some v∧rn u w i=some v:=by
 have hin:=win hw hb
 have hnet:=hin.net
 have eb:cu .i64 ((w.eo.length:Int)) 1=(w.eo.length:Int) - 1:=cB (by omega) (by omega)
 unfold q6 rn
 simp only [OH hu hin,OI hu hin,bU,bG,eb,Option.bind_some]
 cases ho:xN w with
 | false=>cases am i 0 ((w.eo.length:Int) - 1) <;> exact ⟨false,rfl,rfl⟩
 | true =>
  have hwf:=U7 hin (ZP hw hb) ho
  cases hin2:am i 0 ((w.eo.length:Int) - 1) with
  | false=>exact ⟨false,rfl,rfl⟩
  | true =>
   have hi2:=b9 hin2
   obtain ⟨k,rfl⟩:=Int.eq_ofNat_of_zero_le hi2.1
   have hk:w.eo[k]?=some (w.eo[k]'(by omega)):=List.getElem?_eq_getElem _
   obtain ⟨e1,e2⟩:=U8 hu hwf hk
   exact ⟨DD w (w.eo[k]'(by omega)),by simp only [cond_true,e1,Option.bind_some],by simp only [cond_true,e2,Option.bind_some]⟩
theorem SD (p0:World) (p1:Int) (h:World.wf p0∧(lc .i64) p1∧True):jl 1099511627776 p0 p1=some true:=by
 obtain ⟨w0,w1,_⟩:=h
 have hu:1099511627776≤1099511627776:=Nat.le_refl _
 unfold jl
 rw [N2 hu (x:=p0) (n:=1048576) (by omega) (by omega) w0]
 simp only [Option.bind_some]
 by_cases b0:((eT p0:Nat):Int)≤1048576
 ·have c0:¬ (1048576 - ((eT p0:Nat):Int) < 0):=by omega
  rw [FX b0]
  simp only [c0,decide_false,cond_false]
  obtain ⟨v,e1,e2⟩:=RD hu w0 w1 (show _≤1048576 by omega)
  simp only [N3 hu (x:=p0) (by omega),N4 hu (x:=p0) (by omega),e1,e2,Option.bind_some,bne_self_eq_false,beq_self_eq_true,Bool.not_true,cond_false]
 ·rw [K9 b0]; rfl
end Go.Tm.Pu
