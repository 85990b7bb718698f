/- Plain laws of the functions. -/
import Derived.Test.YthdbkkomigbflaaGreatCFnExactUselessP1
set_option linter.unusedVariables false
set_option linter.unusedSimpArgs false
namespace Go.Tm.Pu
open Go.Tm
theorem OF (u:Nat) (a b:Int):wb u a b=some (sF a b):=by
 unfold wb uc sF
 simp only [lM,Option.bind_some]
 cases bE a <;> cases bE b <;> rfl
theorem EF (u:Nat) (a b:Int):rL u a b=some (sF a b):=by
 unfold rL tO sF
 simp only [jW,Option.bind_some]
 cases bE a <;> cases bE b <;> rfl
def Az (m:af) (x:aX):Int:=sF (qz m.aD.length) x.aT
theorem OG (u:Nat) (m:af) (x:aX):wc u m x=some (Az m x):=by
 unfold wc Az
 simp only [DD,OF,Option.bind_some]
theorem OH (u:Nat) (m:af) (x:aX):vE u m x=some (Az m x):=by
 unfold vE Az
 simp only [DE,EF,Option.bind_some]
def M.at_ (m:af) (i:Int):Nat:=(cT m.aS m.aY i).1.toNat
def sG (m:af) (i:Int):Nat:=(cT m.aS m.aY i).2.toNat
def xh (m:af) (x:aX) (i:Int):List Int:=M.win x.bg (M.at_ m i) (sG m i)
theorem Rv {m:af} {b:List Int} (hb:(b.length:Int)=m.aY) (hl:b.length≤1048576) (i:Int) :
  dW (dU (cT m.aS m.aY i).1 (aW .i64 (cT m.aS m.aY i).1 (cT m.aS m.aY i).2) b.length)=some () ∧
  (b.take (Int.toNat (aW .i64 (cT m.aS m.aY i).1 (cT m.aS m.aY i).2))).drop (Int.toNat (cT m.aS m.aY i).1)=M.win b (M.at_ m i) (sG m i) ∧
  M.at_ m i+sG m i≤b.length∧sG m i≤6:=by
 obtain ⟨h1,h2,h3,h4⟩:=w6 (size:=m.aS) (n:=m.aY) (i:=i) (by omega)
 unfold M.at_ sG
 generalize cT m.aS m.aY i=s at *
 obtain ⟨a,c⟩:=s
 dsimp only at *
 obtain ⟨a,rfl⟩:∃ n:Nat,a=n:=⟨a.toNat,by omega⟩
 obtain ⟨c,rfl⟩:∃ n:Nat,c=n:=⟨c.toNat,by omega⟩
 simp only [Int.toNat_natCast] at *
 rw [rA (by omega),eL (by omega) (by omega)]
 exact ⟨rfl,rfl,by omega,by omega⟩
def Bv (m:af) (x:aX) (s:bN) (i:Nat):Bool :=
 if eh x.aT i then decide (eg (xh m x i)=s) else (xh m x i).all fun c=>c == 0
def eu (m:af) (x:aX):Bool :=
 cS m && bE x.aT && (sF x.aT (qz m.aD.length) == 0) && ((x.bg.length:Int) == m.aY) && iR (Bv m x) m.aD 0
theorem Rw {u:Nat} (hu:1099511627776≤u) {b:List Int} (hl:b.length≤1048576):pd u b=some (b.all fun c=>c == 0):=by
 unfold pd
 rw [KD u b () u (by omega) (by omega),mQ (fun (c:Int) _=>c == 0) (xs:=b) (b:=true) rfl 0 (fun x i k _ hx=>?_) b 0 (Nat.le_refl _) rfl,Bool.and_true]
 ·congr 1
  have:∀ (l:List Int) (i:Nat),iR (fun (c:Int) _=>c == 0) l i=l.all fun c=>c == 0:=by
   intro l
   induction l with
   | nil=>intro i; rfl
   | cons x l ih=>intro i; simp [iR,ih]
  exact this b 0
 ·unfold CP
  rw [Cy]
  cases x == 0 <;> rfl
theorem Va {u:Nat} (hu:1099511627776≤u) {b:List Int} (hl:b.length≤1048576):bq u b=some (b.any fun c=>c != 0):=by
 unfold bq c9
 rw [m0 u b () u (by omega) (by omega),lP (fun (c:Int)=>c != 0) rfl (fun x i k _=>rfl)]
 simp only [Option.bind_some,rB]
theorem Zd (b:List Int):(b.any fun c=>c != 0)=!(b.all fun c=>c == 0):=by
 rw [List.not_all_eq_any_not]; rfl
structure M.BldWf (x:aX):Prop where
 b:aF x.bg
 l:x.bg.length≤1048576
theorem DF {b:List Int} (h:aF b) (hl:b.length≤1048576) (i n:Nat):aF (M.win b i n)∧(M.win b i n).length≤1048576:=by
 refine ⟨nS h i n,?_⟩
 have:(M.win b i n).length≤b.length:=by unfold M.win; simp; omega
 omega
theorem uo {u:Nat} (hu:1099511627776≤u) {m:af} (hm:m.aD.length≤1048576) {x:aX} (hx:M.BldWf x):nI u m x=some (eu m x):=by
 unfold nI nb eu
 simp only [iz hu m (show m.aD.length≤1073741824 by omega),jW,DE,EF,Option.bind_some]
 cases cS m with
 | false=>rfl
 | true=>cases bE x.aT with
  | false=>rfl
  | true =>
   rw [Cy,Cy]
   cases sF x.aT (qz m.aD.length) == 0 with
   | false=>rfl
   | true =>
    by_cases hb:(x.bg.length:Int)=m.aY
    ·have e:((x.bg.length:Int) == m.aY)=true:=by simpa using hb
     simp only [e,Bool.not_true,cond_false,Bool.and_self,Bool.true_and]
     have hl:=hx.l
     rw [Ik u m x () u (by omega) (by omega),Int.toNat_natCast,Tl (Bv m x) (xs:=m.aD) (b:=true) rfl (fun s i k hs=>?_) m.aD 0 rfl,Bool.and_true]
     obtain ⟨c1,c2,c3,c4⟩:=Rv hb hl i
     obtain ⟨b1,b2⟩:=DF hx.b hl (M.at_ m i) (sG m i)
     unfold BO d2 Bv xh
     simp only [mO,qw,br,hs,Option.bind_some,c1,c2,n8 hu b1 (show _≤1073741824 by omega),Rw hu b2,Ce]
     cases eh x.aT i with
     | true=>simp only [cond_true,↓reduceIte,Bool.not_true,cond_false]; cases decide (eg (M.win x.bg (M.at_ m i) (sG m i))=s) <;> rfl
     | false=>simp only [cond_false,Bool.not_false,cond_true,Bool.false_eq_true,↓reduceIte]; cases (M.win x.bg (M.at_ m i) (sG m i)).all fun c=>c == 0 <;> rfl
    ·have e:((x.bg.length:Int) == m.aY)=false:=by simpa using hb
     simp [e]
theorem Wb {a b:Int} (ha:bE a=true) (hb:bE b=true):sF a b=Ap .i64 a b:=by simp [sF,ha,hb]
theorem GW (u:Nat) {m:af} {x:aX} (hx:M.BldWf x) (hb:(x.bg.length:Int)=m.aY) (i:Int):iJ u x m i=some (xh m x i):=by
 obtain ⟨c1,c2,c3,c4⟩:=Rv hb hx.l i
 unfold iJ xh
 simp only [oX,Option.bind_some,c1,c2]
theorem zP {u:Nat} (hu:1099511627776≤u) {m:af} (hm:m.aD.length≤1048576) {x:aX} (hx:M.BldWf x):pA u m x=some (eu m x):=by
 unfold pA nm eu
 simp only [n9 hu m (show m.aD.length≤1073741824 by omega),lM,DD,Option.bind_some]
 cases cS m with
 | false=>rfl
 | true=>cases hs:bE x.aT with
  | false=>rfl
  | true =>
   rw [Cy,Cy,Wb hs (Wa _)]
   cases Ap .i64 x.aT (qz m.aD.length) == 0 with
   | false=>rfl
   | true =>
    by_cases hb:(x.bg.length:Int)=m.aY
    ·have e:((x.bg.length:Int) == m.aY)=true:=by simpa using hb
     simp only [e,Bool.not_true,cond_false,Bool.and_self,Bool.true_and]
     have hl:=hx.l
     rw [IA u m x () u (by omega) (by omega),mQ (Bv m x) (xs:=m.aD) (b:=true) rfl 0 (fun s i k _ hs=>?_) m.aD 0 (Nat.le_refl _) rfl,Bool.and_true]
     obtain ⟨b1,b2⟩:=DF hx.b hl (M.at_ m i) (sG m i)
     have b3:aF (xh m x i)∧(xh m x i).length≤1048576:=⟨b1,b2⟩
     unfold BU d6 Bv
     simp only [GW u hx hb,qv,Option.bind_some,tF hu b3.1 (show _≤1073741824 by omega),Va hu b3.2,Ce,Zd]
     cases eh x.aT i with
     | true=>simp only [cond_true,↓reduceIte,Bool.not_true,cond_false]; cases decide (eg (xh m x i)=s) <;> rfl
     | false=>simp only [cond_false,Bool.not_false,cond_true,Bool.false_eq_true,↓reduceIte]; cases (xh m x i).all fun c=>c == 0 <;> rfl
    ·have e:((x.bg.length:Int) == m.aY)=false:=by simpa using hb
     simp [e]
def O6 (m:af) (x:aX):Bool:=(m.aP != 0) && eu m x && (Az m x == 0)
theorem SD {u:Nat} (hu:1099511627776≤u) {m:af} (hm:m.aD.length≤1048576) {x:aX} (hx:M.BldWf x):AQ u m x=some (O6 m x):=by
 unfold AQ O6
 simp only [uo hu hm hx,OH,Option.bind_some]
 cases m.aP != 0 <;> cases eu m x <;> rfl
def M.tells (m:af) (b:List Int):Bool:=((b.length:Int) == m.aY) && M.same (fun x y=>decide (x=y)) (Dx b m.aS) m.aD
theorem SE {u:Nat} (hu:1099511627776≤u) (m:af) {b:List Int} (hb:aF b) (hl:b.length≤1048576):AW u m b=some (M.tells m b):=by
 unfold AW M.tells
 rw [Fw hu hb (by omega)]
 simp only [Option.bind_some]
 rw [Bm hu (by unfold Dx; have:=gU m.aS b.length; simp; omega)]
 cases (b.length:Int) == m.aY <;> rfl
theorem SF {u:Nat} (hu:1099511627776≤u) (m:af) {b:List Int} (hb:aF b) (hl:b.length≤1048576):A6 u m b=some (M.tells m b):=by
 unfold A6 M.tells
 rw [Fv hu hb (by omega)]
 simp only [Option.bind_some]
 rw [lO hu (by unfold Dx; have:=gU m.aS b.length; simp; omega)]
 cases (b.length:Int) == m.aY <;> rfl
theorem Rx {b:List Int} (hl:b.length≤1048576):dW (decide (((([]:List Int)).length+b.length)*1≤140737488355328))=some ():=bB (by simp; omega)
theorem FH (u:Nat) {m:af} (hm:m.aD.length≤1048576):uS u m=some m:=by
 unfold uS
 rw [bB (by simp; omega)]; rfl
theorem FI (u:Nat) {x:aX} (hl:x.bg.length≤1048576):uT u x=some x:=by
 unfold uT
 rw [Rx hl]; rfl
theorem EG (u:Nat) {m:af} (hm:m.aD.length≤1048576):sg u m=some m:=by
 unfold sg eV
 rw [bB (by simp; omega)]; rfl
theorem Cf (u:Nat) {x:aX} (hl:x.bg.length≤1048576):oJ u x=some x:=by
 unfold oJ
 rw [gL u (by omega)]; rfl
structure M.NodWf (n:aA):Prop where
 s:n.av.aD.length≤1048576
 b:M.BldWf n.a7
 k:n.aO.length≤1048577
 w:yf n.av
theorem jh (u:Nat) {n:aA} (h:M.NodWf n):fF u n=some n:=by
 unfold fF
 rw [FH u h.s,FI u h.b.l,Option.bind_some,Option.bind_some,JR (by have:=h.k; omega)]; rfl
theorem jz (u:Nat) {n:aA} (h:M.NodWf n):gH u n=some n:=by
 unfold gH
 rw [EG u h.s,Cf u h.b.l,xe u (by have:=h.k; omega)]; rfl
def ew (m:af) (x:aX) (i:Int):List Int×Bool:=if eu m x && eh x.aT i then (xh m x i,true) else ([],false)
theorem vh {m:af} {x:aX} (h:eu m x=true):(x.bg.length:Int)=m.aY:=by
 unfold eu at h
 simp only [Bool.and_eq_true,beq_iff_eq] at h
 exact h.1.2
theorem EH {u:Nat} (hu:1099511627776≤u) {m:af} (hm:m.aD.length≤1048576) {x:aX} (hx:M.BldWf x) (i:Int):pt u m x i=some (ew m x i):=by
 unfold pt tT ew
 simp only [uo hu hm hx,qw,Option.bind_some]
 cases hb:eu m x with
 | false=>rfl
 | true=>cases eh x.aT i with
  | false=>rfl
  | true =>
   obtain ⟨c1,c2,c3,c4⟩:=Rv (vh hb) hx.l i
   have c5:=(DF hx.b hx.l (M.at_ m i) (sG m i)).2
   simp only [Bool.not_true,cond_false,mO,Option.bind_some,c1,c2,Rx c5,Bool.and_self,↓reduceIte,List.nil_append]
   rfl
theorem EI {u:Nat} (hu:1099511627776≤u) {m:af} (hm:m.aD.length≤1048576) {x:aX} (hx:M.BldWf x) (i:Int):pD u m x i=some (ew m x i):=by
 unfold pD ui ew
 simp only [zP hu hm hx,qv,Option.bind_some]
 cases hb:eu m x with
 | false=>rfl
 | true=>cases eh x.aT i with
  | false=>rfl
  | true =>
   have c5:=(DF hx.b hx.l (M.at_ m i) (sG m i)).2
   simp only [Bool.not_true,cond_false,GW u hx (vh hb),Option.bind_some]
   rw [gL u (by have:(xh m x i).length≤1048576:=c5; omega)]
   rfl
theorem Yz:∀ (b:List Int) (s:Int) (n:Nat),aF b→(256:Int) ^ n≤s→(256:Int) ^ (n+b.length)≤oY b s:=by
 intro b
 induction b with
 | nil=>intro s n _ h; exact h
 | cons c b ih =>
  intro s n hb h
  have hc:=hb c (by simp)
  have:=ih (256*s+c) (n+1) (fun z hz=>hb z (by simp [hz])) (by rw [Int.pow_succ]; omega)
  simp only [List.length_cons,oY]
  rwa [show n+(b.length+1)=n+1+b.length by omega]
theorem ML {a b:Nat} (h:a≤b):(256:Int) ^ a≤256 ^ b:=by
 induction h with
 | refl=>exact Int.le_refl _
 | step h ih =>
  rename_i c
  have:(0:Int) < 256 ^ c:=Int.pow_pos (by omega)
  rw [Int.pow_succ]; omega
theorem L3 {b:List Int} {s:bN} {size len:Int} {i:Nat} (hb:aF b) (h:eg b=s) (hf:yY size len i s=true):(b.length:Int)=(cT size len i).2∧b.length≤6:=by
 unfold yY at hf
 simp only [Bool.and_eq_true,beq_iff_eq] at hf
 obtain ⟨⟨h1,h2⟩,_⟩:=hf
 have h3:cd s.fS=((cd s.fS).1,true):=by rw [← h1]
 obtain ⟨h4,h5,_,h6⟩:=D3 h3
 generalize (cd s.fS).1=c at *
 unfold eg at h
 split at h
 ·rw [← h] at h4; simp at h4
 ·rename_i hl
  have hs:s.fS=oY b 1:=by rw [← h]
  have h7:=(VT b 1 0 hb (by omega) (by omega)).2
  have h8:=Yz b 1 0 hb (by simp)
  simp only [Nat.zero_add] at h7 h8
  rw [hs] at h5
  have hp:(0:Int) < 256 ^ c.length:=Int.pow_pos (by omega)
  have h9:256 ^ c.length≤oY b 1:=by
   have:=Int.mul_ediv_self_le (x:=oY b 1) (k:=256 ^ c.length) (by omega)
   rw [h5] at this; omega
  have h10:oY b 1 < 256 ^ c.length*2:=by
   have:=Int.lt_mul_ediv_self_add (x:=oY b 1) hp
   rw [h5] at this; omega
  have:b.length=c.length:=by
   rcases Nat.lt_trichotomy b.length c.length with h | h | h
   ·have:=ML (show b.length+1≤c.length by omega)
    rw [Int.pow_succ] at this; omega
   ·exact h
   ·have:=ML (show c.length+1≤b.length by omega)
    rw [Int.pow_succ] at this; omega
  omega
theorem MM {size len:Int}:∀ {l:List bN} {i j:Nat} {s:bN},oZ size len l i=true→l[j]?=some s→yY size len (i+j) s=true
 | [],_,_,_,_,h=>by simp at h
 | x :: l,i,0,s,h,hs=>by
  simp only [oZ,Bool.and_eq_true] at h
  simp at hs; subst hs; exact h.1
 | x :: l,i,j+1,s,h,hs=>by
  simp only [oZ,Bool.and_eq_true] at h
  have:=MM h.2 (by simpa using hs)
  rwa [show i+1+j=i+(j+1) by omega] at this
theorem L4 {m:af} (hm:cS m=true) {i:Nat} {s:bN} (hs:m.aD[i]?=some s):yY m.aS m.aY i s=true:=by
 unfold cS at hm
 split at hm
 ·simp only [Bool.and_eq_true,beq_iff_eq] at hm
  have:=(List.getElem?_eq_some_iff.1 hs).1
  omega
 ·simp only [Bool.and_eq_true] at hm
  have:=MM hm.2 hs
  simpa using this
theorem HT {m:af} (hm:cS m=true):0≤m.aY∧m.aY≤240:=by
 unfold cS at hm
 split at hm
 ·simp only [Bool.and_eq_true,beq_iff_eq] at hm; omega
 ·simp only [Bool.and_eq_true] at hm
  have:=Dw hm.1.1.2
  omega
def M.put (m:af) (x:aX) (i:Int) (b:List Int):aX:=⟨sZ .i64 x.aT (i7 .i64 1 i),Ad x.bg b (M.at_ m i)⟩
def uq (m:af) (x:aX) (i:Int) (b:List Int):Bool×aX :=
 if aq i 0 ((m.aD.length:Int) - 1) && !eh x.aT i && (match m.aD[i.toNat]? with | some s=>decide (eg b=s) | none=>false) then (true,M.put m x i b) else (false,x)
theorem YA (m:af) (x:aX) (i:Int) (b:List Int):uq m x i b=(true,M.put m x i b)∨uq m x i b=(false,x):=by
 unfold uq
 generalize (aq i 0 ((m.aD.length:Int) - 1) && !eh x.aT i && (match m.aD[i.toNat]? with | some s=>decide (eg b=s) | none=>false))=c
 cases c
 ·exact .inr rfl
 ·exact .inl rfl
theorem qaK (u:Nat) (p2:Int) (p3:List Int) (r6:Int×Int) (x:aX) (a:Nat) (ha:r6.1=(a:Int)) (hal:a≤1048576):∀ (l:List Int) (i:Nat) (s:List Int),a+i+l.length≤s.length→s.length≤4194304 →
  bt (zq u p2 p3 r6 x) (zr u p2 p3 r6 x) l i s=(nV u x.aT p2).bind fun q=>some (true,⟨q,s.take (a+i)++l++s.drop (a+i+l.length)⟩):=by
 intro l
 induction l with
 | nil=>intro i s _ _; simp [bt,zq,xW]
 | cons y l ih =>
  intro i s h1 h2
  simp only [List.length_cons] at h1
  simp only [bt,zr]
  rw [ha,dJ (by omega) (by omega),show (a:Int)+(i:Int)=((a+i:Nat):Int) by omega,br,List.getElem?_eq_getElem (by omega),Int.toNat_natCast]
  simp only [Option.bind_some]
  rw [ih (i+1) _ (by simp; omega) (by simp; omega)]
  have e1:(s.set (a+i) y).take (a+(i+1))=s.take (a+i)++[y]:=by
   rw [show a+(i+1)=(a+i)+1 by omega,List.take_add_one,List.take_set_of_le (Nat.le_refl _)]
   simp [show a+i < s.length by omega]
  have e2:(s.set (a+i) y).drop (a+(i+1)+l.length)=s.drop (a+i+(y :: l).length):=by
   rw [List.drop_set_of_lt (by omega)]; simp only [List.length_cons]; congr 1; omega
  rw [e1,e2]; simp
theorem Bw {m:af} {b:List Int} (hb:(b.length:Int)=m.aY) (i:Int):(cT m.aS m.aY i).1=(M.at_ m i:Int)∧(cT m.aS m.aY i).2=(sG m i:Int)∧M.at_ m i+sG m i≤b.length:=by
 obtain ⟨h1,h2,h3,h4⟩:=w6 (size:=m.aS) (n:=m.aY) (i:=i) (by omega)
 unfold M.at_ sG
 omega
theorem Wc {i:Int} {n:Nat} (h:aq i 0 ((n:Int) - 1)=true) (hn:n≤40):iV i=true∧0≤i:=by
 have:=ce h
 unfold iV aq
 simp; omega
theorem DG (u:Nat) {s i:Int} (hs:bE s=true) (hi:iV i=true):nV u s i=some (sZ .i64 s (i7 .i64 1 i)):=by
 have:=ce hi
 unfold nV rT
 rw [jW,hs]
 simp only [Option.bind_some,Bool.not_true,cond_false]
 rw [bX,show aq i 0 39=true from hi]
 simp only [Option.bind_some,Bool.not_true,cond_false]
 rw [bB (by omega)]; rfl
theorem GX {u:Nat} (hu:1099511627776≤u) {m:af} (hm:cS m=true) {x:aX} (hx:(x.bg.length:Int)=m.aY) (hs:bE x.aT=true) (i:Int) {b:List Int} (hb:aF b) (hl:b.length≤1048576) :
  uw u m x i b=some (uq m x i b):=by
 have h40:=ve hm
 have h240:=HT hm
 unfold uw qj uq
 simp (disch:=omega) only [cH,bX,qw,n8 hu hb (show b.length≤1073741824 by omega),Option.bind_some,Ce]
 cases hw:aq i 0 ((m.aD.length:Int) - 1) with
 | false=>simp
 | true=>cases eh x.aT i with
  | true=>simp
  | false =>
   have hw':=ce hw
   obtain ⟨n,rfl⟩:∃ n:Nat,i=n:=⟨i.toNat,by omega⟩
   have hn:n < m.aD.length:=by omega
   obtain ⟨s,hs'⟩:∃ s,m.aD[n]?=some s:=⟨_,List.getElem?_eq_getElem hn⟩
   simp only [Bool.not_true,Bool.not_false,cond_false,br,hs',Option.bind_some,Int.toNat_natCast,Bool.true_and]
   by_cases hq:eg b=s
   ·obtain ⟨h1,h2⟩:=L3 hb hq (L4 hm hs')
    have h3:decide ((b.length:Int) > 6)=false:=by simp; omega
    obtain ⟨e1,e2,e3⟩:=Bw (b:=x.bg) hx n
    have h4:b.length=sG m n:=by omega
    simp only [hq,decide_true,Bool.not_true,cond_false,h3,mO,Option.bind_some,↓reduceIte]
    rw [MY u n b _ x x.bg u (by omega) (by omega),qaK u n b _ x (M.at_ m n) e1 (by omega) b 0 x.bg (by omega) (by omega),DG u hs (Wc hw (by omega)).1]
    unfold M.put
    rw [JK (by omega)]
    rfl
   ·simp [hq]
theorem MN (u:Nat) {m:af} {x:aX} (hx:(x.bg.length:Int)=m.aY) (n:Nat) {b:List Int} (hl:b.length≤sG m n) (hxl:x.bg.length≤1048576):lc u x m n b=some (M.put m x n b):=by
 obtain ⟨e1,e2,e3⟩:=Bw (b:=x.bg) hx n
 unfold lc nO M.put
 rw [oX]
 simp only [Option.bind_some]
 rw [e1,e2,rA (by omega),eL (by omega) e3]
 simp only [Option.bind_some]
 have h1:VI (M.at_ m n:Int) ((M.at_ m n+sG m n:Nat):Int) (x.bg.length:Int) (b.length:Int)=true:=by unfold VI; simp; omega
 rw [h1,bB (by omega),Int.toNat_natCast]
 rfl
def iT (m:af) (x:aX) (i:Int) (b:List Int):aX×Bool:=if eu m x && (uq m x i b).1 then (M.put m x i b,true) else (x,false)
theorem FJ {m:af} {x:aX} (h:eu m x=true):cS m=true∧bE x.aT=true:=by
 unfold eu at h
 simp only [Bool.and_eq_true] at h
 exact ⟨h.1.1.1.1,h.1.1.1.2⟩
theorem L5 {u:Nat} (hu:1099511627776≤u) {m:af} (hm:m.aD.length≤1048576) {x:aX} (hx:M.BldWf x) (i:Int) {b:List Int} (hb:aF b) (hl:b.length≤1048576):tc u m x i b=some (iT m x i b):=by
 unfold tc rU iT
 simp only [FI u hx.l,uo hu hm hx,Option.bind_some]
 cases hk:eu m x with
 | false=>rfl
 | true =>
  obtain ⟨h1,h2⟩:=FJ hk
  simp only [Bool.not_true,cond_false,GX hu h1 (vh hk) h2 i hb hl,Option.bind_some,Bool.true_and]
  rcases YA m x i b with h | h <;> rw [h] <;> rfl
theorem L6 {u:Nat} (hu:1099511627776≤u) {m:af} (hm:m.aD.length≤1048576) {x:aX} (hx:M.BldWf x) (i:Int) {b:List Int} (hb:aF b) (hl:b.length≤1048576):tp u m x i b=some (iT m x i b):=by
 unfold tp lT iT
 simp (disch:=omega) only [Cf u hx.l,zP hu hm hx,bM,cH,qv,tF hu hb (show b.length≤1073741824 by omega),Ce,Option.bind_some]
 cases hk:eu m x with
 | false=>rfl
 | true =>
  obtain ⟨h1,h2⟩:=FJ hk
  unfold uq
  cases hw:aq i 0 ((m.aD.length:Int) - 1) with
  | false=>simp
  | true=>cases eh x.aT i with
   | true=>simp
   | false =>
    have hw':=ce hw
    obtain ⟨n,rfl⟩:∃ n:Nat,i=n:=⟨i.toNat,by omega⟩
    have hn:n < m.aD.length:=by omega
    obtain ⟨s,hs'⟩:∃ s,m.aD[n]?=some s:=⟨_,List.getElem?_eq_getElem hn⟩
    simp only [Bool.not_true,Bool.not_false,cond_false,br,hs',Option.bind_some,Int.toNat_natCast,Bool.true_and]
    by_cases hq:eg b=s
    ·obtain ⟨h3,h4⟩:=L3 hb hq (L4 h1 hs')
     obtain ⟨e1,e2,e3⟩:=Bw (b:=x.bg) (vh hk) n
     simp only [hq,decide_true,Bool.not_true,cond_false,↓reduceIte]
     rw [MN u (vh hk) n (by omega) hx.l]; rfl
    ·simp [hq]
def Cg (m:af) (old:List Int):Nat→Nat→aX→aX
 | 0,_,x=>x
 | n+1,i,x=>Cg m old n (i+1) (if 0≤dy old m i then M.put m x i (M.win old (dy old m i).toNat (sG m i)) else x)
def jA (m:af):aX:=if cS m then ⟨0,List.replicate m.aY.toNat 0⟩ else ⟨0,[]⟩
def rD (m:af) (old:List Int):aX:=if cS m then Cg m old m.aD.length 0 (jA m) else ⟨0,[]⟩
theorem JT {m:af} (hm:cS m=true):dW (decide (0≤m.aY) && (m.aY == 0 || m.aY == m.aY))=some ()∧dW (decide (Int.toNat m.aY*1≤140737488355328))=some ():=by
 have:=HT hm
 refine ⟨by simp [dW]; omega,bB (by omega)⟩
theorem L7 {u:Nat} (hu:1099511627776≤u) {m:af} (hm:m.aD.length≤1048576):ta u m=some (jA m):=by
 unfold ta jA
 simp only [iz hu m (show m.aD.length≤1073741824 by omega),Option.bind_some]
 cases h:cS m with
 | false=>rfl
 | true=>obtain ⟨h1,h2⟩:=JT h; rw [h1,h2]; rfl
theorem L8 {u:Nat} (hu:1099511627776≤u) {m:af} (hm:m.aD.length≤1048576):tn u m=some (jA m):=by
 unfold tn jA
 simp only [n9 hu m (show m.aD.length≤1073741824 by omega),Option.bind_some]
 cases h:cS m with
 | false=>rfl
 | true=>obtain ⟨h1,h2⟩:=JT h; rw [h1,h2]; rfl
theorem JU {b:List Int} {s:bN} {n:Nat}:∀ (c i:Nat),0≤f0 b s n c i→eg (M.win b (f0 b s n c i).toNat n)=s
 | 0,_,h=>by simp [f0] at h
 | c+1,i,h=>by
  unfold f0 at h ⊢
  split
  ·rename_i hq; simpa using hq
  ·rename_i hq
   rw [if_neg hq] at h
   exact JU c (i+1) h
theorem HU {old:List Int} {m:af} {i:Nat} (h:0≤dy old m i):∃ s,m.aD[i]?=some s∧0≤(cT m.aS m.aY i).2∧eg (M.win old (dy old m i).toNat (sG m i))=s∧(dy old m i).toNat+sG m i≤old.length:=by
 unfold dy at h ⊢
 split at h
 ·rename_i s hs
  simp only [hs]
  unfold vg at h ⊢
  split at h
  ·rename_i hw
   have:=ce hw
   rw [if_pos hw]
   have h1:=JU _ _ h
   have h2:=Q2 old s (cT m.aS m.aY i).2.toNat (old.length+1 - (cT m.aS m.aY i).2.toNat) 0
   refine ⟨s,rfl,by omega,h1,?_⟩
   unfold sG
   omega
  ·omega
 ·omega
structure M.Part (m:af) (i:Nat) (x:aX):Prop where
 b:M.BldWf x
 l:(x.bg.length:Int)=m.aY
 h:∃ n:Nat,x.aT=n∧n < 2 ^ i
theorem MO {x p:List Int} {a:Nat} (h:a+p.length≤x.length) (hx:aF x) (hp:aF p):aF (Ad x p a)∧(Ad x p a).length=x.length:=by
 rw [JK h]
 refine ⟨fun z hz=>?_,by simp; omega⟩
 simp only [List.mem_append] at hz
 rcases hz with (hz | hz) | hz
 ·exact hx z (List.mem_of_mem_take hz)
 ·exact hp z hz
 ·exact hx z (List.mem_of_mem_drop hz)
theorem Ry {m:af} {i:Nat} {x:aX} (hp:M.Part m i x) (hi:i≤39) {b:List Int} (hb:aF b) (hl:b.length=sG m i):M.Part m (i+1) (M.put m x i b):=by
 obtain ⟨e1,e2,e3⟩:=Bw (b:=x.bg) hp.l i
 obtain ⟨h1,h2⟩:=MO (x:=x.bg) (p:=b) (a:=M.at_ m i) (by omega) hp.b.b hb
 obtain ⟨n,h3,h4⟩:=hp.h
 have h5:(2:Nat) ^ i≤2 ^ 39:=Nat.pow_le_pow_right (by omega) hi
 refine ⟨⟨h1,by unfold M.put; dsimp only; rw [h2]; exact hp.b.l⟩,by unfold M.put; dsimp only; rw [h2]; exact hp.l,n ||| 2 ^ i,?_,?_⟩
 ·unfold M.put
  dsimp only
  rw [h3,LP (by omega),F7 (by omega) (by omega)]
 ·exact Nat.or_lt_two_pow (by rw [Nat.pow_succ]; omega) (by rw [Nat.pow_succ]; have:0 < 2 ^ i:=Nat.pow_pos (by omega); omega)
theorem L9 {m:af} {i j:Nat} {x:aX} (hp:M.Part m i x) (h:i≤j):M.Part m j x:=by
 obtain ⟨n,h3,h4⟩:=hp.h
 exact ⟨hp.b,hp.l,n,h3,Nat.lt_of_lt_of_le h4 (Nat.pow_le_pow_right (by omega) h)⟩
theorem WV {m:af} {i:Nat} {x:aX} (hp:M.Part m i x) (hi:i≤40):bE x.aT=true∧eh x.aT i=false:=by
 obtain ⟨n,h3,h4⟩:=hp.h
 have h5:(2:Nat) ^ i≤2 ^ 40:=Nat.pow_le_pow_right (by omega) hi
 constructor
 ·rw [h3]; unfold bE aq; simp; omega
 ·unfold eh
  rw [h3,Int.toNat_natCast,Int.toNat_natCast,Nat.testBit_lt_two_pow h4,Bool.and_false]
theorem WW {old:List Int} (hl:old.length≤1048576) {p:Int} {n:Nat} (h0:0≤p) (h:p.toNat+n≤old.length):dW (dU p (aW .i64 p (n:Int)) old.length)=some ()∧(old.take (Int.toNat (aW .i64 p (n:Int)))).drop (Int.toNat p)=M.win old p.toNat n:=by
 obtain ⟨q,rfl⟩:∃ q:Nat,p=q:=⟨p.toNat,by omega⟩
 simp only [Int.toNat_natCast] at h ⊢
 rw [rA (by omega),eL (by omega) (by omega)]
 exact ⟨rfl,rfl⟩
theorem XD {m:af} (hm:cS m=true) {old:List Int} (ho:aF old):∀ (n i:Nat) (x:aX),i+n=m.aD.length→M.Part m i x→M.Part m (i+n) (Cg m old n i x):=by
 have h40:=ve hm
 intro n
 induction n with
 | zero=>intro i x _ hp; exact hp
 | succ n ih =>
  intro i x h hp
  simp only [Cg]
  by_cases hq:0≤dy old m i
  ·obtain ⟨s,g1,g2,g3,g4⟩:=HU hq
   have hb:=nS ho (dy old m i).toNat (sG m i)
   have hbl:(M.win old (dy old m i).toNat (sG m i)).length=sG m i:=D5 g4
   have hput:=Ry hp (by omega) hb hbl
   have k3:=ih (i+1) _ (by omega) hput
   rw [if_pos hq]
   rwa [show i+1+n=i+(n+1) by omega] at k3
  ·have k3:=ih (i+1) x (by omega) (L9 hp (by omega))
   rw [if_neg hq]
   rwa [show i+1+n=i+(n+1) by omega] at k3
theorem XE {u:Nat} (hu:1099511627776≤u) {m:af} (hm:cS m=true) {old:List Int} (ho:aF old) (hl:old.length≤1048576):∀ (n i:Nat) (x:aX),i+n=m.aD.length→M.Part m i x →
  pT (zX u old m) (sK u old m) n i (x.aT,x.bg)=some (Cg m old n i x):=by
 have h40:=ve hm
 intro n
 induction n with
 | zero=>intro i x _ hp; exact rfl
 | succ n ih =>
  intro i x h hp
  obtain ⟨e1,e2,e3⟩:=Bw (b:=x.bg) hp.l i
  obtain ⟨f1,f2⟩:=WV hp (by omega)
  simp only [pT,Cg,sK,kw]
  rw [Ow hu ho (by omega) (by omega),mO]
  simp only [Option.bind_some]
  by_cases hq:0≤dy old m i
  ·obtain ⟨s,g1,g2,g3,g4⟩:=HU hq
   have hq':decide (dy old m i≥0)=true:=by simpa using hq
   rw [e2]
   obtain ⟨c1,c2⟩:=WW hl hq g4
   have hb:=nS ho (dy old m i).toNat (sG m i)
   have hbl:(M.win old (dy old m i).toNat (sG m i)).length=sG m i:=D5 g4
   have hput:=Ry hp (by omega) hb hbl
   have k1:=ih (i+1) _ (by omega) hput
   have h6:(M.win old (dy old m i).toNat (sG m i)).length≤1048576:=by omega
   have hl8:uq m x i (M.win old (dy old m i).toNat (sG m i))=(true,M.put m x i (M.win old (dy old m i).toNat (sG m i))):=by
    unfold uq
    have hw:aq (i:Int) 0 ((m.aD.length:Int) - 1)=true:=by unfold aq; simp; omega
    rw [hw,f2,Int.toNat_natCast,g1]
    simp [g3]
   rw [if_pos hq]
   simp only [hq',cond_true,c1,c2,Option.bind_some,GX hu hm hp.l f1 i hb h6,hl8]
   exact k1
  ·have hq':decide (dy old m i≥0)=false:=by simpa using hq
   have k1:=ih (i+1) x (by omega) (L9 hp (by omega))
   rw [if_neg hq]
   simp only [hq',cond_false]
   exact k1
theorem XF {u:Nat} (hu:1099511627776≤u) {m:af} (hm:cS m=true) {old:List Int} (ho:aF old) (hl:old.length≤1048576):∀ (n i:Nat) (x:aX),i+n=m.aD.length→M.Part m i x →
  pT (z8 u old m) (sM u old m) n i (x.aT,x.bg)=some (Cg m old n i x):=by
 have h40:=ve hm
 intro n
 induction n with
 | zero=>intro i x _ hp; exact rfl
 | succ n ih =>
  intro i x h hp
  obtain ⟨e1,e2,e3⟩:=Bw (b:=x.bg) hp.l i
  obtain ⟨f1,f2⟩:=WV hp (by omega)
  simp only [pT,Cg,sM,kB]
  rw [Ov hu ho (by omega) (by omega),oX]
  simp only [Option.bind_some]
  by_cases hq:0≤dy old m i
  ·obtain ⟨s,g1,g2,g3,g4⟩:=HU hq
   have hq':decide (dy old m i≥0)=true:=by simpa using hq
   rw [e2]
   obtain ⟨c1,c2⟩:=WW hl hq g4
   have hb:=nS ho (dy old m i).toNat (sG m i)
   have hbl:(M.win old (dy old m i).toNat (sG m i)).length=sG m i:=D5 g4
   have hput:=Ry hp (by omega) hb hbl
   have k1:=ih (i+1) _ (by omega) hput
   rw [if_pos hq]
   simp only [hq',cond_true,c1,c2,Option.bind_some,MN u hp.l i (Nat.le_of_eq hbl) hp.b.l]
   exact k1
  ·have hq':decide (dy old m i≥0)=false:=by simpa using hq
   have k1:=ih (i+1) x (by omega) (L9 hp (by omega))
   rw [if_neg hq]
   simp only [hq',cond_false]
   exact k1
theorem Rz {m:af} (hm:cS m=true):M.Part m 0 (jA m):=by
 have:=HT hm
 unfold jA
 rw [if_pos hm]
 exact ⟨⟨by simp [aF],by simp; omega⟩,by simp; omega,0,rfl,by simp⟩
theorem RA {m:af} (hm:cS m=true) {old:List Int} (ho:aF old) (hl:old.length≤1048576):M.Part m m.aD.length (rD m old):=by
 have:=XD hm ho m.aD.length 0 _ (by omega) (Rz hm)
 unfold rD
 rw [if_pos hm]
 simpa using this
theorem JV {u:Nat} (hu:1099511627776≤u) {m:af} (hs:m.aD.length≤1048576) {old:List Int} (ho:aF old) (hl:old.length≤1048576):q8 u m old=some (rD m old):=by
 unfold q8 rD
 simp only [L7 hu hs,iz hu m (show m.aD.length≤1073741824 by omega),Option.bind_some]
 cases hm:cS m with
 | false=>simp [jA,hm]
 | true =>
  simp only [Bool.not_true,cond_false,↓reduceIte]
  rw [Gj u old m ((jA m).aT,(jA m).bg) u (by omega) (by omega),Int.toNat_natCast]
  exact XE hu hm ho hl m.aD.length 0 _ (by omega) (Rz hm)
theorem JW {u:Nat} (hu:1099511627776≤u) {m:af} (hs:m.aD.length≤1048576) {old:List Int} (ho:aF old) (hl:old.length≤1048576):rn u m old=some (rD m old):=by
 unfold rn rD
 simp only [L8 hu hs,n9 hu m (show m.aD.length≤1073741824 by omega),Option.bind_some]
 cases hm:cS m with
 | false=>simp [jA,hm]
 | true =>
  simp only [Bool.not_true,cond_false,↓reduceIte]
  rw [Gl u old m ((jA m).aT,(jA m).bg) u (by omega) (by omega),Int.toNat_natCast]
  exact XF hu hm ho hl m.aD.length 0 _ (by omega) (Rz hm)
def gW (d:aG):Int:=cy .i64 1 d.fR.cL
theorem CF (u:Nat) (d:aG):qU u d=some (gW d):=rfl
theorem SG (u:Nat) (d:aG):DK u d=some (gW d):=rfl
theorem YB {d:aG} (h:em d=true):d.fP.length≤200:=by
 unfold em at h
 simp only [Bool.and_eq_true,decide_eq_true_eq] at h
 exact h.1.2
theorem RB {u:Nat} (hu:1099511627776≤u) {m:ei} (hm:M.MsgWf m):yE u m=some (gN m):=by
 have k:=bh [] m.bA
 have g:=bh (aQ [] m.bA) m.aP
 simp only [List.length_nil] at k
 have hl:=hm.len
 obtain ⟨hb,hbl⟩:=HQ hm
 unfold yE gN
 rw [CA hu hm.sums]
 simp only [Option.bind_some]
 cases hok:lD m with
 | false=>rfl
 | true =>
  simp only [Bool.not_true,cond_false,if_true]
  rw [dM hu (by simp)]
  simp only [Option.bind_some]
  have tail:mF u (et m)=some (aQ (et m) (cu (et m))):=by
   unfold mF
   rw [w5 hu hb (by omega)]
   simp only [Option.bind_some]
   rw [dM hu (by omega)]; rfl
  rw [← tail]
  clear tail hbl hb
  unfold et pX
  by_cases h1:m.bA=1
  ·simp only [h1,beq_self_eq_true,cond_true,if_true]
   rw [h1] at k
   rw [QY hu (by omega) (by have:=hm.sums; omega) hm.wf]; rfl
  ·have e1:(m.bA == 1)=false:=by simpa using h1
   by_cases h2:m.bA=2
   ·rw [h2] at k g
    have h3:=bh (aQ (aQ [] 2) m.aP) (fE .i64 m.bx 1048575)
    have h4:=bh (aQ (aQ (aQ [] 2) m.aP) (fE .i64 m.bx 1048575)) (n4 .i64 m.bx 20)
    have h5:=bh (aQ (aQ (aQ (aQ [] 2) m.aP) (fE .i64 m.bx 1048575)) (n4 .i64 m.bx 20)) (fE .i64 m.bL 1048575)
    simp only [h2,beq_self_eq_true,cond_true,if_true,vO]
    rw [dM hu (by omega)]; simp only [Option.bind_some]
    rw [dM hu (by omega)]; simp only [Option.bind_some]
    rw [dM hu (by omega)]; simp only [Option.bind_some]
    rw [dM hu (by omega)]; simp only [Option.bind_some]
    rw [dM hu (by omega)]; rfl
   ·have e2:(m.bA == 2)=false:=by simpa using h2
    by_cases h3:m.bA=3
    ·rw [h3] at k g
     have h4:=bh (aQ (aQ [] 3) m.aP) m.fI
     have h5:=bh (aQ (aQ (aQ [] 3) m.aP) m.fI) m.fB.length
     simp only [h3,beq_self_eq_true,cond_true,if_true,Ah]
     rw [dM hu (by omega)]; simp only [Option.bind_some]
     rw [dM hu (by omega)]; simp only [Option.bind_some]
     rw [dM hu (by omega)]; simp only [Option.bind_some]
     rw [bB (by omega)]; rfl
    ·have e3:(m.bA == 3)=false:=by simpa using h3
     by_cases h4:m.bA=4
     ·rw [h4] at k
      simp only [h4,beq_self_eq_true,cond_true,if_true]
      rw [dM hu (by omega)]; rfl
     ·have e4:(m.bA == 4)=false:=by simpa using h4
      rw [Rl h1 h2 h3 h4] at hok; cases hok
def pF (f t:Int) (m:ei):au:=⟨f,t,gN m⟩
def F9 (g i:Int) (b:List Int):ei:=⟨3,g,HR,0,0,i,b⟩
theorem Bx (g i:Int) {b:List Int} (hb:aF b) (hl:b.length≤1048576):M.MsgWf (F9 g i b):=JP _ _ _ _ _ hb hl
theorem o4 {u:Nat} (hu:1099511627776≤u) (f t:Int) {m:ei} (hm:M.MsgWf m):iy u f t m=some (pF f t m):=by
 unfold iy
 rw [RB hu hm]; rfl
theorem o5 {u:Nat} (hu:1099511627776≤u) (f t:Int) {m:ei} (hm:M.MsgWf m):jQ u f t m=some (pF f t m):=by
 unfold jQ
 rw [Bq hu hm]; rfl
theorem EJ (u:Nat) (g i:Int) {b:List Int} (hl:b.length≤1048576):pu u g i b=some (F9 g i b):=by
 unfold pu
 rw [Rx hl]; rfl
theorem EK (u:Nat) (g i:Int) {b:List Int} (hl:b.length≤1048576):nN u g i b=some (F9 g i b):=by
 unfold nN
 rw [gL u (by omega)]; rfl
theorem By (m:af) {x:aX} (hx:M.BldWf x) (i:Int):aF (ew m x i).1∧(ew m x i).1.length≤1048576:=by
 unfold ew
 split
 ·exact DF hx.b hx.l _ _
 ·exact ⟨l9,by simp⟩
def xi (n:aA) (f t i:Int):au:=pF f t (F9 n.av.aP i (ew n.av n.a7 i).1)
def gn (n:aA) (f t:Int):Act :=
 ⟨⟨n.fM,n.bf,n.be,n.av,n.a7,n.aJ,mR n.aO t (jn n.aO t n.a7.aT),n.a8⟩,((lY (jn n.aO t n.a7.aT)).filter fun i=>(ew n.av n.a7 i).2).map (xi n f t)⟩
theorem FK (s:Int):(lY s).length≤40:=by
 unfold lY
 split
 ·rw [List.length_map]
  exact Nat.le_trans (List.length_filter_le _ _) (by simp)
 ·simp
theorem T4 {s:List au} (hl:s.length≤1048576) (p:au):dW (decide ((s.length + [p].length)*40≤140737488355328))=some ():=bB (by simp; omega)
theorem JX {u:Nat} (hu:1099511627776≤u) {n:aA} (hn:M.NodWf n) (f t:Int):q7 u n f t=some (gn n f t):=by
 have hp:=FK (jn n.aO t n.a7.aT)
 unfold q7 uU
 simp only [jh u hn,FF hu hn.k,Ok hu,Option.bind_some]
 rw [Gi u _ _ _ _ _ _ _ u (by omega) (by omega),Rt (xs:=lY (jn n.aO t n.a7.aT)) (fun i=>(ew n.av n.a7 i).2) (xi n f t) (fun x i s k hx hi hs=>?_) (lY (jn n.aO t n.a7.aT)) 0 [] rfl (by simp)]
 ·unfold zV qD
  rw [DA hu hn.k]; rfl
 ·unfold zW kv
  have w:=By n.av hn.b x
  rw [EH hu hn.s hn.b]
  simp only [Option.bind_some]
  cases (ew n.av n.a7 x).2 with
  | false=>rfl
  | true =>
   have e:ci (lY (jn n.aO t n.a7.aT)) (i:Int)=some x:=by rw [br]; exact hx
   simp only [cond_true,e,Option.bind_some,EJ u _ _ w.2,o4 hu _ _ (Bx _ _ w.1 w.2),T4 (show s.length≤1048576 by omega)]
   rfl
theorem JY {u:Nat} (hu:1099511627776≤u) {n:aA} (hn:M.NodWf n) (f t:Int):rm u n f t=some (gn n f t):=by
 have hp:=FK (jn n.aO t n.a7.aT)
 unfold rm rj
 simp only [jz u hn,FG hu hn.k,Oj hu,Option.bind_some]
 rw [Gk u _ _ _ _ _ _ _ u (by omega) (by omega),Rt (xs:=lY (jn n.aO t n.a7.aT)) (fun i=>(ew n.av n.a7 i).2) (xi n f t) (fun x i s k hx hi hs=>?_) (lY (jn n.aO t n.a7.aT)) 0 [] rfl (by simp)]
 ·unfold zY qG
  rw [DC hu hn.k]; rfl
 ·unfold zZ kA
  have w:=By n.av hn.b x
  rw [EI hu hn.s hn.b]
  simp only [Option.bind_some]
  cases (ew n.av n.a7 x).2 with
  | false=>rfl
  | true =>
   simp only [cond_true,Option.bind_some,EK u _ _ w.2,o5 hu _ _ (Bx _ _ w.1 w.2),T4 (show s.length≤1048576 by omega)]
   rfl
theorem SH (n:aA) (f t:Int):(gn n f t).sW.length≤40:=by
 have hp:=FK (jn n.aO t n.a7.aT)
 unfold gn
 have:=List.length_filter_le (fun i=>(ew n.av n.a7 i).2) (lY (jn n.aO t n.a7.aT))
 simp only [List.length_map]
 omega
def lr (n:aA) (l:List Kid):aA:=⟨n.fM,n.bf,n.be,n.av,n.a7,n.aJ,l,n.a8⟩
def Bz (g:Int):ei:=⟨4,g,HR,0,0,0,[]⟩
def FL (m:af):ei:=⟨1,0,m,0,0,0,[]⟩
theorem AA (g:Int):M.MsgWf (Bz g):=JP _ _ _ _ _ l9 (by simp)
theorem Ma {m:af} (hs:m.aD.length≤1048576) (hw:yf m):M.MsgWf (FL m):=⟨hs,hw,l9,by simp [FL]⟩
def fa (n:aA) (me f:Int) (m:ei):Act :=
 if f=me then ⟨n,[]⟩ else
 let l:=oa n.aO f m.bx m.bL
 if n.aJ=0 then ⟨lr n l,[pF me f (Bz 0)]⟩
 else if m.aP=n.av.aP then
  (let a:=gn (lr n l) me f; if a.sW.length=0 then ⟨a.fN,[pF me f (Bz n.av.aP)]⟩ else a)
 else ⟨lr n l,[pF me f (FL n.av)]⟩
theorem Ch {n:aA} (hn:M.NodWf n) {l:List Kid} (hl:l.length≤1048577):M.NodWf (lr n l):=⟨hn.s,hn.b,hl,hn.w⟩
theorem Wd (p:au):dW (decide (((([]:List au)).length + [p].length)*40≤140737488355328))=some ():=bB (by simp)
theorem HV {u:Nat} (hu:1099511627776≤u) {n:aA} (hn:M.NodWf n) (hk:n.aO.length≤1048576) (me f:Int) (m:ei):pL u n me f m=some (fa n me f m):=by
 unfold pL fa pv pw
 simp only [jh u hn,Option.bind_some]
 by_cases h1:f=me
 ·simp only [h1,beq_self_eq_true,cond_true,if_true]
 ·have e1:(f == me)=false:=by simpa using h1
  have hl:=Ru n.aO f m.bx m.bL
  simp only [e1,h1,cond_false,if_false,T2 hu hk,Option.bind_some]
  by_cases h2:n.aJ=0
  ·simp only [h2,beq_self_eq_true,cond_true,if_true]
   rw [show (ei.mk 4 0 (af.mk 0 0 0 []) 0 0 0 [])=Bz 0 from rfl,o4 hu me f (AA 0)]
   simp only [Option.bind_some,Wd,List.nil_append,← h2]; rfl
  ·have e2:(n.aJ == 0)=false:=by simpa using h2
   simp only [e2,h2,cond_false,if_false]
   by_cases h3:m.aP=n.av.aP
   ·simp only [h3,bne_self_eq_false,cond_false,if_true]
    rw [show (aA.mk n.fM n.bf n.be n.av n.a7 n.aJ (oa n.aO f m.bx m.bL) n.a8)=lr n (oa n.aO f m.bx m.bL) from rfl,JX hu (Ch hn (by omega)) me f]
    simp only [Option.bind_some]
    cases ha:gn (lr n (oa n.aO f m.bx m.bL)) me f with
    | mk an ao =>
     cases ao with
     | nil =>
      rw [show (ei.mk 4 n.av.aP (af.mk 0 0 0 []) 0 0 0 [])=Bz n.av.aP from rfl,o4 hu me f (AA _)]
      simp only [Option.bind_some,Wd]; rfl
     | cons p ps =>
      have e3:(((p :: ps).length:Int) == 0)=false:=by simp; omega
      simp only [e3,cond_false]; simp
   ·have e3:(m.aP != n.av.aP)=true:=by simpa using h3
    simp only [e3,h3,cond_true,if_false]
    rw [show (ei.mk 1 0 n.av 0 0 0 [])=FL n.av from rfl,o4 hu me f (Ma hn.s hn.w)]
    simp only [Option.bind_some,Wd]; rfl
theorem HW {u:Nat} (hu:1099511627776≤u) {n:aA} (hn:M.NodWf n) (hk:n.aO.length≤1048576) (me f:Int) (m:ei):pR u n me f m=some (fa n me f m):=by
 unfold pR fa mJ
 simp only [jz u hn,Option.bind_some]
 by_cases h1:f=me
 ·simp only [h1,beq_self_eq_true,cond_true,if_true]
 ·have e1:(f == me)=false:=by simpa using h1
  have hl:=Ru n.aO f m.bx m.bL
  simp only [e1,h1,cond_false,if_false,T3 hu hk,Option.bind_some]
  by_cases h2:n.aJ=0
  ·simp only [h2,beq_self_eq_true,cond_true,if_true]
   rw [show (ei.mk 4 0 (af.mk 0 0 0 []) 0 0 0 [])=Bz 0 from rfl,o5 hu me f (AA 0)]
   simp only [Option.bind_some,← h2]; rfl
  ·have e2:(n.aJ == 0)=false:=by simpa using h2
   simp only [e2,h2,cond_false,if_false]
   by_cases h3:m.aP=n.av.aP
   ·simp only [h3,bne_self_eq_false,cond_false,if_true]
    rw [show (aA.mk n.fM n.bf n.be n.av n.a7 n.aJ (oa n.aO f m.bx m.bL) n.a8)=lr n (oa n.aO f m.bx m.bL) from rfl,JY hu (Ch hn (by omega)) me f]
    simp only [Option.bind_some]
    cases ha:gn (lr n (oa n.aO f m.bx m.bL)) me f with
    | mk an ao =>
     cases ao with
     | nil =>
      rw [show (ei.mk 4 n.av.aP (af.mk 0 0 0 []) 0 0 0 [])=Bz n.av.aP from rfl,o5 hu me f (AA _)]
      simp only [Option.bind_some]; rfl
     | cons p ps =>
      have e3:decide ((((p :: ps).length:Nat):Int) > 0)=true:=by simp
      simp only [e3,cond_true]; simp
   ·have e3:(m.aP != n.av.aP)=true:=by simpa using h3
    simp only [e3,h3,cond_true,if_false]
    rw [show (ei.mk 1 0 (af.mk n.av.aP n.av.aS n.av.aY n.av.aD) 0 0 0 [])=FL n.av from rfl,o5 hu me f (Ma hn.s hn.w)]
    simp only [Option.bind_some]; rfl
theorem Ze {i:Int} (hi:iV i=true):sZ .i64 0 (i7 .i64 1 i)=i7 .i64 1 i:=by
 have h:=ce hi
 obtain ⟨n,rfl⟩:∃ n:Nat,i=n:=⟨i.toNat,by omega⟩
 have hp:2 ^ n≤2 ^ 39:=Nat.pow_le_pow_right (by omega) (by omega)
 have e:=Rb (a:=1) (n:=n) (by omega) (by omega)
 have e2:i7 .i64 1 (n:Int)=((1*2 ^ n:Nat):Int):=e
 rw [e2]
 have:=F7 (a:=0) (b:=1*2 ^ n) (by omega) (by omega)
 simpa using this
theorem GY {m:af} {x:aX} {i:Int} (h:(ew m x i).2=true):iV i=true:=by
 unfold ew at h
 split at h
 ·rename_i h1
  simp only [Bool.and_eq_true,eh] at h1
  exact h1.2.1.2
 ·cases h
def eJ (n:aA) (me i:Int) (s:List Kid×List au) (x:Kid):List Kid×List au :=
 if eh (jn s.1 x.fd n.a7.aT) i then (mR s.1 x.fd (i7 .i64 1 i),s.2++[xi n me x.fd i]) else s
def JZ (n:aA) (me i:Int):List Kid×List au:=n.aO.foldl (eJ n me i) (n.aO,[])
def kF (n:aA) (me i:Int):Act:=if (ew n.av n.a7 i).2 then ⟨lr n (JZ n me i).1,(JZ n me i).2⟩ else ⟨n,[]⟩
theorem FM (n:aA) (me i:Int) (s:List Kid×List au) (x:Kid):(eJ n me i s x).1.length=s.1.length∧(eJ n me i s x).2.length≤s.2.length+1:=by
 unfold eJ
 split
 ·exact ⟨JS _ _ _,by simp⟩
 ·exact ⟨rfl,by omega⟩
theorem Zf (n:aA) (me i:Int):∀ (l:List Kid) (s:List Kid×List au),(l.foldl (eJ n me i) s).1.length=s.1.length∧(l.foldl (eJ n me i) s).2.length≤s.2.length+l.length:=by
 intro l
 induction l with
 | nil=>intro s; exact ⟨rfl,by simp⟩
 | cons x l ih =>
  intro s
  have h:=ih (eJ n me i s x)
  have g:=FM n me i s x
  simp only [List.foldl_cons,List.length_cons]
  omega
theorem We {u:Nat} (hu:1099511627776≤u) {n:aA} (hn:M.NodWf n) (me i:Int) (h:(ew n.av n.a7 i).2=true):∀ (l:List Kid) (k j:Nat) (s:List Kid×List au),l=n.aO.drop j→l.length < k→s.1.length≤1048577→s.2.length≤j →
  eA u k me i (ew n.av n.a7 i) (j:Int) n n s.1 s.2=some ⟨lr n (l.foldl (eJ n me i) s).1,(l.foldl (eJ n me i) s).2⟩:=by
 have w:=By n.av hn.b i
 have pl:=GY h
 have hk:=hn.k
 intro l
 induction l with
 | nil =>
  intro k j s hl hf h1 h2
  obtain ⟨k,rfl⟩:∃ k',k=k'+1:=⟨k - 1,by simp at hf; omega⟩
  have hj:n.aO.length≤j:=by
   have:=congrArg List.length hl; simp at this; omega
  have e:decide ((j:Int) < (n.aO.length:Int))=false:=by simp; omega
  simp only [eA,e,cond_false,ni,t6]
  rfl
 | cons x l ih =>
  intro k j s hl hf h1 h2
  obtain ⟨k,rfl⟩:∃ k',k=k'+1:=⟨k - 1,by simp at hf; omega⟩
  have hx:n.aO[j]?=some x:=by
   have:=congrArg List.head? hl
   simpa [List.head?_drop] using this.symm
  have hl2:l=n.aO.drop (j+1):=by
   have:=congrArg List.tail hl
   simpa [List.tail_drop] using this
  have hj:=(List.getElem?_eq_some_iff.1 hx).1
  have e:decide ((j:Int) < (n.aO.length:Int))=true:=by simp; omega
  have g:=FM n me i s x
  have r:=ih k (j+1) (eJ n me i s x) hl2 (by simp at hf; omega) (by omega) (by omega)
  simp only [List.foldl_cons,← r]
  simp only [eA,e,cond_true,ni,h,t7,br,hx,uU,Option.bind_some,FF hu h1,qw]
  rw [rA (a:=j) (b:=1) (by omega) |> (fun (e:aW .i64 (j:Int) ((1:Nat):Int)=_)=>show aW .i64 (j:Int) 1=((j+1:Nat):Int) from e)]
  cases hs:eh (jn s.1 x.fd n.a7.aT) i with
  | false =>
   simp only [cond_false,eJ,hs,Bool.false_eq_true,if_false]
  | true =>
   simp only [cond_true,EJ u _ _ w.2,Option.bind_some,o4 hu _ _ (Bx _ _ w.1 w.2),T4 (show s.2.length≤1048576 by omega),DG u (s:=0) rfl pl,Ze pl,DA hu h1]
   simp only [eJ,hs,if_true]
   rfl
theorem OI {u:Nat} (hu:1099511627776≤u) {n:aA} (hn:M.NodWf n) (me i:Int):vU u n me i=some (kF n me i):=by
 unfold vU kF
 simp only [jh u hn,EH hu hn.s hn.b,Option.bind_some]
 have hk:=hn.k
 cases h:(ew n.av n.a7 i).2 with
 | true =>
  have:=We hu hn me i h n.aO u 0 (n.aO,[]) rfl (by omega) hk (by simp)
  exact this
 | false =>
  obtain ⟨k,rfl⟩:∃ k,u=k+1:=⟨u - 1,by omega⟩
  simp only [eA,ni,h,cond_false,t6]
  cases decide ((0:Int) < (n.aO.length:Int)) <;> simp
theorem Wf {α σ ρ:Type} {fin:σ→Option ρ} {body:α→Nat→σ→(σ→Option ρ)→Option ρ} (f:σ→α→σ) (I:Nat→σ→Prop) (hI:∀ x i s,I i s→I (i+1) (f s x)) {n:Nat} (hb:∀ x i s k,I i s→i < n→body x i s k=k (f s x)) :
  ∀ (l:List α) (i:Nat) (s:σ),I i s→i+l.length≤n→bt fin body l i s=fin (l.foldl f s):=by
 intro l
 induction l with
 | nil=>intro i s _ _; rfl
 | cons x l ih =>
  intro i s h hl
  simp only [List.length_cons] at hl
  simp only [bt]
  rw [hb x i s _ h (by omega),ih (i+1) _ (hI x i s h) (by omega)]; rfl
theorem OJ {u:Nat} (hu:1099511627776≤u) {n:aA} (hn:M.NodWf n) (me i:Int):wu u n me i=some (kF n me i):=by
 unfold wu kF
 simp only [jz u hn,EI hu hn.s hn.b,Option.bind_some]
 have hk:=hn.k
 have w:=By n.av hn.b i
 cases h:(ew n.av n.a7 i).2 with
 | false=>rfl
 | true =>
  have pl:=GY h
  simp only [Bool.not_true,cond_false,if_true]
  have e:=IH u me i (ew n.av n.a7 i) n n (n.aO,[]) u (by omega) (by omega)
  refine e.trans ?_
  rw [Wf (eJ n me i) (fun j s=>s.1.length≤1048577∧s.2.length≤j) (fun x j s h=>by have:=FM n me i s x; omega) (n:=n.aO.length) (fun x j s k hI hj=>?_) n.aO 0 (n.aO,[]) ⟨hk,by simp⟩ (by omega)]
  ·rfl
  ·have pl2:dW (decide (0≤i))=some ():=bB (by have:=ce pl; omega)
   unfold B0 nq
   simp only [rj,Option.bind_some,FG hu hI.1,qv]
   cases hs:eh (jn s.1 x.fd n.a7.aT) i with
   | false=>simp only [cond_false,eJ,hs,Bool.false_eq_true,if_false]
   | true =>
    simp only [cond_true,EK u _ _ w.2,Option.bind_some,o5 hu _ _ (Bx _ _ w.1 w.2),T4 (show s.2.length≤1048576 by omega),pl2,DC hu hI.1]
    simp only [eJ,hs,if_true]
    rfl
theorem XG {α:Type} [DecidableEq α]:∀ (a b:List α),Bl (fun x y=>decide (x=y)) a b=Bl (fun x y=>decide (x=y)) b a:=by
 intro a
 induction a with
 | nil=>intro b; cases b <;> rfl
 | cons x a ih =>
  intro b
  cases b with
  | nil=>rfl
  | cons y b =>
   simp only [Bl]
   rw [ih b,show decide (x=y)=decide (y=x) from decide_eq_decide.2 eq_comm]
theorem O7 {α:Type} [DecidableEq α] (a b:α):(a == b)=(b == a):=Bool.eq_iff_iff.2 ⟨fun h=>beq_iff_eq.2 (beq_iff_eq.1 h).symm,fun h=>beq_iff_eq.2 (beq_iff_eq.1 h).symm⟩
theorem T5 (a b:af):er a b=er b a:=by
 unfold er M.same
 rw [XG,O7 a.aP,O7 a.aS,O7 a.aY,O7 a.aD.length]
structure M.DB (d:aG):Prop where
 a:aF d.fA
 b:aF d.fB
 p:∀ x∈d.fP,aF x.fB
theorem T6 {l:List Int} (h:aF l) (n:Nat):aF (l.take n):=fun x hx=>h x (List.mem_of_mem_take hx)
theorem T7 {d:aG} (h:M.DB d) (n:Int):aF (iQ d n):=by
 unfold iQ; split
 ·exact h.a
 ·exact h.b
theorem yn {d:aG} (h:M.DB d):aF (eI d).2∧(eI d).2.length≤240:=by
 unfold eI
 split
 ·rename_i hd
  have:=LU hd d.fR.cL
  exact ⟨T6 (T7 h _) _,by simp only [List.length_take]; omega⟩
 ·exact ⟨l9,by simp⟩
theorem Mb {b:List Int} (hb:aF b):M.MsgWf (hZ b).1:=by
 unfold hZ
 split
 ·rename_i h
  simp only [Bool.and_eq_true] at h
  have g:=cA hb (Tj _ h.1)
  have p:=LZ hb (k:=(a9 b 0).1) (a:=(a9 b 0).2.1) (by simpa using g.2.2.2.2.2)
  cases hr:CC b (a9 b 0).1 (a9 b 0).2.1 with
  | none=>exact JP _ _ _ _ _ l9 (by simp)
  | some x =>
   obtain ⟨m,e⟩:=x
   have q:=p m e hr
   dsimp only
   split
   ·exact q.1
   ·exact JP _ _ _ _ _ l9 (by simp)
 ·exact JP _ _ _ _ _ l9 (by simp)
def M.drop (n:aA):aA:=⟨n.fM,n.bf,n.be,n.av,n.a7,n.aJ,n.aO,aW .i64 n.a8 1⟩
theorem zQ (u:Nat) {n:aA} (h:M.NodWf n):lz u n=some (M.drop n):=by
 unfold lz
 rw [jh u h]; rfl
def nA (n:aA) (d:aG) (m:af):aA :=
 if n.aJ=0 then
  (if cS m && (m.aP != 0) then ⟨n.fM,n.bf,n.be,m,rD m (eI d).2,if ((eI d).1 == m.aP) && M.tells m (eI d).2 then 5 else 1,n.aO,n.a8⟩ else n)
 else if er n.av m then n else M.drop n
theorem OK {u:Nat} (hu:1099511627776≤u) {n:aA} (hn:M.NodWf n) {d:aG} (hd:M.DOk d) (hb:M.DB d) {m:af} (hm:m.aD.length≤1048576):vT u n d m=some (nA n d m):=by
 obtain ⟨rb,rl⟩:=yn hb
 unfold vT nA t2 t1 tZ
 simp only [jh u hn,pW hu hn.s,zQ u hn,iz hu m (show m.aD.length≤1073741824 by omega),EE hu hd,FH u hm,JV hu hm rb (show _≤1048576 by omega),SE hu m rb (show _≤1048576 by omega),Option.bind_some]
 by_cases h:n.aJ=0
 ·have e:(n.aJ != 0)=false:=by simp [h]
  rw [if_pos h]
  simp only [e,cond_false]
  rw [show (m.aP != 0)=!(m.aP == 0) from rfl]
  cases cS m <;> cases (m.aP == 0) <;> cases ((eI d).1 == m.aP) <;> cases M.tells m (eI d).2 <;> rfl
 ·have e:(n.aJ != 0)=true:=by simpa using h
  simp only [e,h,cond_true,if_false]
  cases er n.av m <;> rfl
theorem J0 {u:Nat} (hu:1099511627776≤u) {d:aG} (hd:M.DOk d) (hb:M.DB d) (m:af):ro u d m=some (((eI d).1 == m.aP) && M.tells m (eI d).2):=by
 obtain ⟨rb,rl⟩:=yn hb
 unfold ro
 simp only [zN hu hd,SF hu m rb (show _≤1048576 by omega),Option.bind_some]
 cases ((eI d).1 == m.aP) <;> rfl
theorem OL {u:Nat} (hu:1099511627776≤u) {n:aA} (hn:M.NodWf n) {d:aG} (hd:M.DOk d) (hb:M.DB d) {m:af} (hm:m.aD.length≤1048576):wt u n d m=some (nA n d m):=by
 obtain ⟨rb,rl⟩:=yn hb
 unfold wt nA uj lf
 simp only [jz u hn,zM hu hm,T5 m n.av,n9 hu m (show m.aD.length≤1073741824 by omega),zN hu hd,EG u hm,JW hu hm rb (show _≤1048576 by omega),J0 hu hd hb m,Option.bind_some]
 by_cases h:n.aJ=0
 ·have e:(n.aJ != 0)=false:=by simp [h]
  rw [if_pos h]
  simp only [e,cond_false]
  rw [show (m.aP != 0)=!(m.aP == 0) from rfl]
  cases cS m <;> cases (m.aP == 0) <;> cases ((eI d).1 == m.aP) <;> cases M.tells m (eI d).2 <;> rfl
 ·have e:(n.aJ != 0)=true:=by simpa using h
  simp only [e,h,cond_true,if_false]
  cases er n.av m <;> rfl
def DH (n:aA) (x:aX):aA:=⟨n.fM,n.bf,n.be,n.av,x,n.aJ,n.aO,n.a8⟩
def lu (n:aA) (me:Int) (m:ei):Act :=
 if n.aJ=0∨m.aP≠n.av.aP then ⟨M.drop n,[]⟩
 else if eh n.a7.aT m.fI then ⟨n,[]⟩
 else if (iT n.av n.a7 m.fI m.fB).2 then kF (DH n (iT n.av n.a7 m.fI m.fB).1) me m.fI
 else ⟨M.drop n,[]⟩
theorem Zg {m:af} {x:aX} {i:Int} {b:List Int} (h:(uq m x i b).1=true):aq i 0 ((m.aD.length:Int) - 1)=true∧(match m.aD[i.toNat]? with | some s=>decide (eg b=s) | none=>false)=true:=by
 unfold uq at h
 generalize hc:(aq i 0 ((m.aD.length:Int) - 1) && !eh x.aT i && (match m.aD[i.toNat]? with | some s=>decide (eg b=s) | none=>false))=c at h
 cases c with
 | false=>cases h
 | true=>simp only [Bool.and_eq_true] at hc; exact ⟨hc.1.1,hc.2⟩
theorem FN {m:af} {x:aX} (hx:M.BldWf x) (i:Int) {b:List Int} (hb:aF b):M.BldWf (iT m x i b).1:=by
 unfold iT
 by_cases h:(eu m x && (uq m x i b).1)=true
 ·rw [if_pos h]
  simp only [Bool.and_eq_true] at h
  obtain ⟨hbo,h2⟩:=h
  obtain ⟨hm,hs⟩:=FJ hbo
  have hl:=vh hbo
  obtain ⟨h4,h6⟩:=Zg h2
  have h7:=ce h4
  obtain ⟨n,rfl⟩:∃ n:Nat,i=n:=⟨i.toNat,by omega⟩
  rw [Int.toNat_natCast] at h6
  cases hg:m.aD[n]? with
  | none=>rw [hg] at h6; cases h6
  | some s =>
   rw [hg] at h6
   have h8:=L3 hb (of_decide_eq_true h6) (L4 hm hg)
   obtain ⟨e1,e2,e3⟩:=Bw (b:=x.bg) hl n
   obtain ⟨g1,g2⟩:=MO (x:=x.bg) (p:=b) (a:=M.at_ m n) (by omega) hx.b hb
   exact ⟨g1,by show (Ad _ _ _).length≤_; rw [g2]; exact hx.l⟩
 ·rw [if_neg h]; exact hx
theorem HX {n:aA} (hn:M.NodWf n) {x:aX} (hx:M.BldWf x):M.NodWf (DH n x):=⟨hn.s,hx,hn.k,hn.w⟩
theorem Mc {u:Nat} (hu:1099511627776≤u) {n:aA} (hn:M.NodWf n) (me:Int) {m:ei} (hm:M.MsgWf m):td u n me m=some (lu n me m):=by
 unfold td lu rV
 simp only [jh u hn,zQ u hn,qw,L5 hu hn.s hn.b m.fI hm.b hm.len,Option.bind_some]
 rw [show (aA.mk n.fM n.bf n.be n.av (iT n.av n.a7 m.fI m.fB).1 n.aJ n.aO n.a8)=DH n (iT n.av n.a7 m.fI m.fB).1 from rfl,OI hu (HX hn (FN hn.b m.fI hm.b)) me m.fI]
 simp only [Option.bind_some]
 by_cases h1:n.aJ=0
 ·simp [h1]
 ·by_cases h2:m.aP=n.av.aP
  ·have e:(n.aJ == 0)=false:=by simpa using h1
   simp only [h1,h2,e,cond_false,bne_self_eq_false,ne_eq,not_true_eq_false,or_self,if_false]
   cases eh n.a7.aT m.fI <;> cases (iT n.av n.a7 m.fI m.fB).2 <;> rfl
  ·have e:(n.aJ == 0)=false:=by simpa using h1
   have e2:(m.aP != n.av.aP)=true:=by simpa using h2
   simp [h1,h2,e,e2]
theorem Md {u:Nat} (hu:1099511627776≤u) {n:aA} (hn:M.NodWf n) (me:Int) {m:ei} (hm:M.MsgWf m):tq u n me m=some (lu n me m):=by
 unfold tq lu sn
 simp only [jz u hn,qv,L6 hu hn.s hn.b m.fI hm.b hm.len,Option.bind_some]
 rw [show (aA.mk n.fM n.bf n.be n.av (iT n.av n.a7 m.fI m.fB).1 n.aJ n.aO n.a8)=DH n (iT n.av n.a7 m.fI m.fB).1 from rfl,OJ hu (HX hn (FN hn.b m.fI hm.b)) me m.fI]
 simp only [Option.bind_some]
 by_cases h1:n.aJ=0
 ·simp [h1,M.drop]
 ·by_cases h2:m.aP=n.av.aP
  ·have e:(n.aJ == 0)=false:=by simpa using h1
   simp only [h1,h2,e,cond_false,bne_self_eq_false,ne_eq,not_true_eq_false,or_self,if_false]
   cases eh n.a7.aT m.fI <;> cases (iT n.av n.a7 m.fI m.fB).2 <;> rfl
  ·have e:(n.aJ == 0)=false:=by simpa using h1
   have e2:(m.aP != n.av.aP)=true:=by simpa using h2
   simp [h1,h2,e,e2,M.drop]
def FO (n:aA):aA:=⟨n.fM,n.bf,0,n.av,n.a7,n.aJ,n.aO,n.a8⟩
theorem Ci {n:aA} (hn:M.NodWf n):M.NodWf (FO n):=⟨hn.s,hn.b,hn.k,hn.w⟩
def jB (n:aA) (me:Int) (d:aG) (m:ei):Act :=
 if m.bA=1 then ⟨nA (FO n) d m.av,[]⟩
 else if m.bA=3 then lu (FO n) me m
 else if m.bA=2 then ⟨M.drop (FO n),[]⟩
 else ⟨FO n,[]⟩
theorem YC {α:Type} (k:Int) (a b c e:α):(bif k == 1 then a else (bif k == 3 then b else (bif k == 2 then c else e)))=if k=1 then a else if k=3 then b else if k=2 then c else e:=by
 by_cases h1:k=1
 ·subst h1; rfl
 ·by_cases h2:k=3
  ·subst h2; rfl
  ·by_cases h3:k=2
   ·subst h3; rfl
   ·have e1:(k == 1)=false:=by simpa using h1
    have e2:(k == 3)=false:=by simpa using h2
    have e3:(k == 2)=false:=by simpa using h3
    simp [h1,h2,h3,e1,e2,e3]
theorem RC {α:Type} (p q r:Prop) [Decidable p] [Decidable q] [Decidable r] (a b c e:α):(if p then some a else if q then some b else if r then some c else some e)=some (if p then a else if q then b else if r then c else e):=by
 by_cases hp:p <;> by_cases hq:q <;> by_cases hr:r <;> simp [hp,hq,hr]
theorem Me {u:Nat} (hu:1099511627776≤u) {n:aA} (hn:M.NodWf n) (me:Int) {d:aG} (hd:M.DOk d) (hb:M.DB d) {m:ei} (hm:M.MsgWf m):te u n me d m=some (jB n me d m):=by
 unfold te jB oE
 simp only [jh u hn,Option.bind_some]
 rw [show (aA.mk n.fM n.bf 0 n.av n.a7 n.aJ n.aO n.a8)=FO n from rfl,OK hu (Ci hn) hd hb hm.sums,Mc hu (Ci hn) me hm,YC]
 exact RC _ _ _ _ _ _ _
theorem Mf {u:Nat} (hu:1099511627776≤u) {n:aA} (hn:M.NodWf n) (me:Int) {d:aG} (hd:M.DOk d) (hb:M.DB d) {m:ei} (hm:M.MsgWf m):tr u n me d m=some (jB n me d m):=by
 unfold tr jB so
 simp only [jz u hn,Option.bind_some]
 rw [show (aA.mk n.fM n.bf 0 n.av n.a7 n.aJ n.aO n.a8)=FO n from rfl,OL hu (Ci hn) hd hb hm.sums,Md hu (Ci hn) me hm,YC]
 exact RC _ _ _ _ _ _ _
def M.take (t:co) (me:Int) (n:aA) (d:aG) (p:au):Act :=
 if !n.fM then ⟨n,[]⟩
 else if (hZ p.fB).2 && aq p.du 0 ((t.cx.length:Int) - 1) && (p.du != me) then
  (if (hZ p.fB).1.bA=2 then fa n me p.du (hZ p.fB).1
   else if p.du=n.bf then jB n me d (hZ p.fB).1 else ⟨M.drop n,[]⟩)
 else ⟨M.drop n,[]⟩
theorem T8 {u:Nat} (hu:1099511627776≤u) {t:co} (ht:t.cx.length≤1048576) (me:Int) {n:aA} (hn:M.NodWf n) (hk:n.aO.length≤1048576) {d:aG} (hd:M.DOk d) (hb:M.DB d) {p:au} (hp:aF p.fB) (hl:p.fB.length≤1048576):CX u t me n d p=some (M.take t me n d p):=by
 have w:=Mb hp
 have eb:cy .i64 ((t.cx.length:Int)) 1=(t.cx.length:Int) - 1:=cH (by omega) (by omega)
 unfold CX M.take vV
 simp only [jh u hn,zQ u hn,Rn hu hp hl,bX,eb,HV hu hn hk,Me hu hn me hd hb w,Option.bind_some]
 by_cases h1:(hZ p.fB).1.bA=2
 ·simp only [h1,beq_self_eq_true,cond_true,if_true]
  rw [show (p.du != me)=!(p.du == me) from rfl]
  cases n.fM <;> cases (hZ p.fB).2 <;> cases aq p.du 0 ((t.cx.length:Int) - 1) <;> cases (p.du == me) <;> rfl
 ·have e1:((hZ p.fB).1.bA == 2)=false:=by simpa using h1
  simp only [e1,h1,cond_false,if_false]
  rw [show (p.du != me)=!(p.du == me) from rfl]
  by_cases h2:p.du=n.bf
  ·have e2:(p.du == n.bf)=true:=by simpa using h2
   simp only [e2,cond_true,if_pos h2]
   cases n.fM <;> cases (hZ p.fB).2 <;> cases aq p.du 0 ((t.cx.length:Int) - 1) <;> cases (p.du == me) <;> rfl
  ·have e2:(p.du == n.bf)=false:=by simpa using h2
   simp only [e2,cond_false,if_neg h2]
   cases n.fM <;> cases (hZ p.fB).2 <;> cases aq p.du 0 ((t.cx.length:Int) - 1) <;> cases (p.du == me) <;> rfl
theorem T9 {u:Nat} (hu:1099511627776≤u) {t:co} (ht:t.cx.length≤1048576) (me:Int) {n:aA} (hn:M.NodWf n) (hk:n.aO.length≤1048576) {d:aG} (hd:M.DOk d) (hb:M.DB d) {p:au} (hp:aF p.fB) (hl:p.fB.length≤1048576):C9 u t me n d p=some (M.take t me n d p):=by
 have w:=Mb hp
 unfold C9 M.take wv
 simp only [jz u hn,Rm hu hp hl,o3 u ht,HW hu hn hk,Mf hu hn me hd hb w,Option.bind_some]
 rw [show (aA.mk n.fM n.bf n.be n.av n.a7 n.aJ n.aO (aW .i64 n.a8 1))=M.drop n from rfl]
 by_cases h1:(hZ p.fB).1.bA=2
 ·simp only [h1,beq_self_eq_true,cond_true,if_true]
  rw [show (p.du != me)=!(p.du == me) from rfl]
  cases n.fM <;> cases (hZ p.fB).2 <;> cases aq p.du 0 ((t.cx.length:Int) - 1) <;> cases (p.du == me) <;> rfl
 ·have e1:((hZ p.fB).1.bA == 2)=false:=by simpa using h1
  simp only [e1,h1,cond_false,if_false]
  rw [show (p.du != me)=!(p.du == me) from rfl]
  by_cases h2:p.du=n.bf
  ·have e2:(p.du == n.bf)=true:=by simpa using h2
   simp only [e2,cond_true,if_pos h2]
   cases n.fM <;> cases (hZ p.fB).2 <;> cases aq p.du 0 ((t.cx.length:Int) - 1) <;> cases (p.du == me) <;> rfl
  ·have e2:(p.du == n.bf)=false:=by simpa using h2
   simp only [e2,cond_false,if_neg h2]
   cases n.fM <;> cases (hZ p.fB).2 <;> cases aq p.du 0 ((t.cx.length:Int) - 1) <;> cases (p.du == me) <;> rfl
theorem Wg (m:ei):(gN m).length≤1000:=by
 unfold gN
 split
 ·rename_i hok
  have k:=bh [] m.bA
  have g:=bh (aQ [] m.bA) m.aP
  have l:=bh (et m) (cu (et m))
  simp only [List.length_nil] at k
  suffices h:(et m).length≤600 by omega
  unfold et pX
  split
  ·have:=GV (aQ [] m.bA) m.av; omega
  ·rename_i n1
   split
   ·have h1:=bh (aQ (aQ [] m.bA) m.aP) (fE .i64 m.bx 1048575)
    have h2:=bh (aQ (aQ (aQ [] m.bA) m.aP) (fE .i64 m.bx 1048575)) (n4 .i64 m.bx 20)
    have h3:=bh (aQ (aQ (aQ (aQ [] m.bA) m.aP) (fE .i64 m.bx 1048575)) (n4 .i64 m.bx 20)) (fE .i64 m.bL 1048575)
    have h4:=bh (aQ (aQ (aQ (aQ (aQ [] m.bA) m.aP) (fE .i64 m.bx 1048575)) (n4 .i64 m.bx 20)) (fE .i64 m.bL 1048575)) (n4 .i64 m.bL 20)
    omega
   ·rename_i n2
    split
    ·rename_i n3
     have h1:=bh (aQ (aQ [] m.bA) m.aP) m.fI
     have h2:=bh (aQ (aQ (aQ [] m.bA) m.aP) m.fI) m.fB.length
     have h3:m.fB.length≤6:=by
      unfold lD at hok
      simp only [n1,n2,n3] at hok
      have h4:aq m.fB.length 1 6=true:=by
       revert hok
       cases aq (m.fB.length:Int) 1 6 <;> simp
      have:=ce h4
      omega
     rw [List.length_append]; omega
    ·split <;> omega
 ·simp
def HY (p:au):Prop:=aF p.fB∧p.fB.length≤1048576
theorem MP (f t:Int) {m:ei} (hm:M.MsgWf m):HY (pF f t m):=⟨Eb hm,by have:=Wg m; show (gN m).length≤_; omega⟩
structure M.ActWf (n:aA) (out:List au):Prop where
 n:M.NodWf n
 o:∀ p∈out,HY p
 l:out.length≤1048576
theorem RD {n:aA} (hn:M.NodWf n):M.ActWf n []:=⟨hn,fun p hp=>by simp at hp,by simp⟩
theorem ZS {n:aA} (hn:M.NodWf n) (f t:Int) {m:ei} (hm:M.MsgWf m):M.ActWf n [pF f t m]:=⟨hn,fun p hp=>by
 simp only [List.mem_singleton] at hp
 rw [hp]; exact MP f t hm,by simp⟩
theorem GZ {n:aA} (hn:M.NodWf n) (f t i:Int):HY (xi n f t i):=by
 have w:=By n.av hn.b i
 exact MP f t (Bx _ _ w.1 w.2)
theorem Ga {n:aA} (hn:M.NodWf n):M.NodWf (M.drop n):=⟨hn.s,hn.b,hn.k,hn.w⟩
theorem Ua {n:aA} (hn:M.NodWf n) (f t:Int):M.ActWf (gn n f t).fN (gn n f t).sW:=by
 refine ⟨⟨hn.s,hn.b,?_,hn.w⟩,fun p hp=>?_,Nat.le_trans (SH n f t) (by omega)⟩
 ·show (mR _ _ _).length≤_
  rw [JS]; exact hn.k
 ·unfold gn at hp
  simp only [List.mem_map] at hp
  obtain ⟨i,_,rfl⟩:=hp
  exact GZ hn f t i
theorem SI {n:aA} (hn:M.NodWf n) (hk:n.aO.length≤1048576) (me f:Int) (m:ei):M.ActWf (fa n me f m).fN (fa n me f m).sW:=by
 have hl:=Ru n.aO f m.bx m.bL
 have hw:M.NodWf (lr n (oa n.aO f m.bx m.bL)):=Ch hn (by omega)
 have hs:=Ua hw me f
 unfold fa
 split
 ·exact RD hn
 ·split
  ·exact ZS hw _ _ (AA 0)
  ·split
   ·dsimp only
    split
    ·exact ZS hs.n _ _ (AA _)
    ·exact hs
   ·exact ZS hw _ _ (Ma hn.s hn.w)
theorem Zh {n:aA} (hn:M.NodWf n) (me i:Int):∀ (l:List Kid) (s:List Kid×List au),(∀ p∈s.2,HY p)→∀ p∈(l.foldl (eJ n me i) s).2,HY p:=by
 intro l
 induction l with
 | nil=>intro s h; exact h
 | cons x l ih =>
  intro s h
  refine ih _ fun p hp=>?_
  unfold eJ at hp
  split at hp
  ·simp only [List.mem_append,List.mem_singleton] at hp
   rcases hp with hp | rfl
   ·exact h p hp
   ·exact GZ hn _ _ _
  ·exact h p hp
theorem Wh {n:aA} (hn:M.NodWf n) (hk:n.aO.length≤1048576) (me i:Int):M.ActWf (kF n me i).fN (kF n me i).sW:=by
 have h:=Zf n me i n.aO (n.aO,[])
 unfold kF
 split
 ·refine ⟨Ch hn ?_,Zh hn me i _ _ (fun p hp=>by simp at hp),?_⟩
  ·have:=h.1; unfold JZ; dsimp only at this ⊢; omega
  ·have:=h.2; unfold JZ; simp only [List.length_nil] at this; dsimp only; omega
 ·exact RD hn
theorem Wi {n:aA} (hn:M.NodWf n) {d:aG} (hb:M.DB d) {m:af} (hs:m.aD.length≤1048576) (hw:yf m):M.NodWf (nA n d m):=by
 obtain ⟨rb,rl⟩:=yn hb
 unfold nA
 split
 ·split
  ·rename_i h
   simp only [Bool.and_eq_true] at h
   exact ⟨hs,(RA h.1 rb (by omega)).b,hn.k,hw⟩
  ·exact hn
 ·split
  ·exact hn
  ·exact Ga hn
theorem Vb {n:aA} (hn:M.NodWf n) (hk:n.aO.length≤1048576) (me:Int) {m:ei} (hm:M.MsgWf m):M.ActWf (lu n me m).fN (lu n me m).sW:=by
 unfold lu
 split
 ·exact RD (Ga hn)
 ·split
  ·exact RD hn
  ·split
   ·exact Wh (HX hn (FN hn.b m.fI hm.b)) hk me m.fI
   ·exact RD (Ga hn)
theorem Vc {n:aA} (hn:M.NodWf n) (hk:n.aO.length≤1048576) (me:Int) {d:aG} (hb:M.DB d) {m:ei} (hm:M.MsgWf m):M.ActWf (jB n me d m).fN (jB n me d m).sW:=by
 unfold jB
 split
 ·exact RD (Wi (Ci hn) hb hm.sums hm.wf)
 ·split
  ·exact Vb (Ci hn) hk me hm
  ·split
   ·exact RD (Ga (Ci hn))
   ·exact RD (Ci hn)
theorem Zi (t:co) (me:Int) {n:aA} (hn:M.NodWf n) (hk:n.aO.length≤1048576) {d:aG} (hb:M.DB d) {p:au} (hp:aF p.fB):M.ActWf (M.take t me n d p).fN (M.take t me n d p).sW:=by
 have w:=Mb hp
 unfold M.take
 split
 ·exact RD hn
 ·split
  ·split
   ·exact SI hn hk me _ _
   ·split
    ·exact Vc hn hk me hb w
    ·exact RD (Ga hn)
  ·exact RD (Ga hn)
def fv (l:List Kid):List Int:=l.map fun x=>x.fd
structure M.IdsOk (s:List Int):Prop where
 r:∀ x∈s,0≤x∧x≤6
 p:s.Pairwise (· < ·)
def qK (l:List Kid):Prop:=M.IdsOk (fv l)
theorem YD:∀ (s:List Int) (a:Int),a≤7→(∀ x∈s,a≤x∧x≤6)→s.Pairwise (· < ·)→(s.length:Int)≤7 - a
 | [],a,ha,_,_=>by simp; omega
 | x :: s,a,ha,h,p=>by
  rw [List.pairwise_cons] at p
  have hx:=h x (by simp)
  have:=YD s (x+1) (by omega) (fun y hy=>⟨by have:=p.1 y hy; omega,(h y (by simp [hy])).2⟩) p.2
  simp only [List.length_cons]
  omega
theorem XH {l:List Kid} (h:qK l):l.length≤7:=by
 have:=YD (fv l) 0 (by omega) h.r h.p
 simp only [fv,List.length_map] at this
 omega
theorem Ub {l:List Kid} {j:Nat} {x y:Kid} (h:l[j]?=some x) (hi:y.fd=x.fd):fv (l.set j y)=fv l:=by
 unfold fv
 apply List.ext_getElem?
 intro i
 simp only [List.getElem?_map,List.getElem?_set]
 by_cases e:j=i
 ·subst e
  obtain ⟨hj,hx⟩:=List.getElem?_eq_some_iff.1 h
  simp [hj,hx,hi]
 ·simp [e]
theorem J1 (l:List Kid) (id s:Int):fv (mR l id s)=fv l:=by
 unfold mR
 rcases nT l id with ⟨h1,_⟩ | ⟨j,x,h1,h2,_⟩
 ·rw [h1]; rfl
 ·rw [h1]
  simp only [br,h2,Int.toNat_natCast]
  split
  ·exact Ub h2 rfl
  ·rfl
theorem MQ {α:Type} (f:α→Bool):∀ (l:List α) (i j:Nat),dD f l i=((i+j:Nat):Int)→∀ x∈l.take j,f x=false
 | [],i,j,_=>by simp
 | y :: l,i,0,_=>by simp
 | y :: l,i,j+1,h=>by
  unfold dD at h
  split at h
  ·omega
  ·rename_i hy
   intro x hx
   simp only [List.take_succ_cons,List.mem_cons] at hx
   rcases hx with rfl | hx
   ·simpa using hy
   ·exact MQ f l (i+1) j (by rw [h]; congr 1; omega) x hx
theorem RE {l:List Kid} (h:qK l) {k:Nat} {y:Kid} (hy:0≤y.fd∧y.fd≤6) (h1:∀ x∈l.take k,x.fd < y.fd) (h2:∀ x∈l.drop k,y.fd < x.fd):qK (l.take k++[y]++l.drop k):=by
 have e:fv l=fv (l.take k)++fv (l.drop k):=by unfold fv; rw [← List.map_append,List.take_append_drop]
 have hp:=h.p
 rw [e,List.pairwise_append] at hp
 have e2:fv (l.take k++[y]++l.drop k)=fv (l.take k)++([y.fd]++fv (l.drop k)):=by unfold fv; simp
 unfold qK
 rw [e2]
 constructor
 ·intro z hz
  simp only [List.mem_append,List.mem_singleton] at hz
  rcases hz with hz | rfl | hz
  ·exact h.r z (by rw [e]; simp [hz])
  ·exact hy
  ·exact h.r z (by rw [e]; simp [hz])
 ·rw [List.pairwise_append]
  refine ⟨hp.1,?_,?_⟩
  ·rw [List.singleton_append,List.pairwise_cons]
   refine ⟨fun z hz=>?_,hp.2.1⟩
   unfold fv at hz
   rw [List.mem_map] at hz
   obtain ⟨x,hx,rfl⟩:=hz
   exact h2 x hx
  ·intro a ha b hb
   simp only [List.mem_append,List.mem_singleton] at hb
   rcases hb with rfl | hb
   ·unfold fv at ha
    rw [List.mem_map] at ha
    obtain ⟨x,hx,rfl⟩:=ha
    exact h1 x hx
   ·exact hp.2.2 a ha b hb
theorem Wj {l:List Kid} (h:qK l) (id w d:Int):qK (oa l id w d):=by
 unfold oa
 split
 ·rename_i hc
  simp only [Bool.and_eq_true] at hc
  have hid:=ce hc.1.1
  rcases nT l id with ⟨h1,hno⟩ | ⟨j,x,h1,h2,_⟩
  ·rw [h1]
   have e:ci l (-1)=none:=by unfold ci; simp
   rw [e]
   dsimp only
   unfold xg
   rcases yk (fun (x:Kid)=>decide (x.fd > id)) l 0 with ⟨g1,g2⟩ | ⟨j,x,g1,g2,g3⟩
   ·rw [g1,if_pos (by omega)]
    refine RE h hid (fun x hx=>?_) (fun x hx=>by simp at hx)
    have hx:=List.mem_of_mem_take hx
    have a:=g2 x hx
    have b:=hno x hx
    simp only [decide_eq_false_iff_not] at a
    show x.fd < id
    omega
   ·rw [g1,if_neg (by omega)]
    have hj:=MQ (fun (x:Kid)=>decide (x.fd > id)) l 0 j g1
    rw [show (((0+j:Nat):Int)).toNat=j by omega]
    refine RE h hid (fun x hx=>?_) (fun y hy=>?_)
    ·have a:=hj x hx
     have b:=hno x (List.mem_of_mem_take hx)
     simp only [decide_eq_false_iff_not] at a
     show x.fd < id
     omega
    ·have lt:=(List.getElem?_eq_some_iff.1 g2).1
     have e:l.drop j=x :: l.drop (j+1):=by
      rw [List.drop_eq_getElem_cons lt,(List.getElem?_eq_some_iff.1 g2).2]
     have gx:id < x.fd:=by simpa using g3
     have hs:(fv (l.drop j)).Pairwise (· < ·):=h.p.sublist (List.Sublist.map _ (List.drop_sublist j l))
     rw [e] at hs hy
     unfold fv at hs
     rw [List.map_cons,List.pairwise_cons] at hs
     simp only [List.mem_cons] at hy
     show id < y.fd
     rcases hy with rfl | hy
     ·exact gx
     ·have:=hs.1 y.fd (List.mem_map.2 ⟨y,hy,rfl⟩)
      omega
  ·rw [h1]
   simp only [br,h2,Int.toNat_natCast]
   unfold qK
   rw [Ub (y:=⟨x.fd,w,sZ .i64 x.bL d,0,x.c8⟩) h2 rfl]
   exact h
 ·exact h
theorem RF {α:Type} {f:α→Nat→Bool}:∀ {l:List α} {i:Nat},iR f l i=true→∀ (j:Nat) (x:α),l[j]?=some x→f x (i+j)=true
 | [],i,_,j,x,h=>by simp at h
 | y :: l,i,h,j,x,hx=>by
  unfold iR at h
  simp only [Bool.and_eq_true] at h
  cases j with
  | zero =>
   simp only [List.getElem?_cons_zero,Option.some.injEq] at hx
   subst hx; exact h.1
  | succ j =>
   have:=RF h.2 j x (by simpa using hx)
   rw [show i+(j+1)=i+1+j by omega]; exact this
theorem J2 {l:List Kid} (h:pY l=true):qK l:=by
 have g:∀ (j:Nat) (x:Kid),l[j]?=some x→y0 l x j=true:=fun j x hx=>by
  have:=RF h j x hx
  rwa [Nat.zero_add] at this
 constructor
 ·intro z hz
  unfold fv at hz
  rw [List.mem_map] at hz
  obtain ⟨x,hx,rfl⟩:=hz
  obtain ⟨j,hj⟩:=List.getElem?_of_mem hx
  have:=g j x hj
  unfold y0 at this
  simp only [Bool.and_eq_true] at this
  exact ce this.1.1.1.1.1
 ·have step:∀ (j:Nat) (x y:Kid),l[j]?=some x→l[j+1]?=some y→x.fd < y.fd:=fun j x y hx hy=>by
   have:=g (j+1) y hy
   unfold y0 at this
   simp only [Bool.and_eq_true,Nat.add_sub_cancel,hx,Nat.add_eq_zero_iff,Nat.one_ne_zero,and_false,if_false] at this
   have:=this.2
   simp at this
   exact this
  have chain:∀ (n i:Nat) (x y:Kid),l[i]?=some x→l[i+n+1]?=some y→x.fd < y.fd:=fun n=>by
   induction n with
   | zero=>intro i x y hx hy; exact step i x y hx hy
   | succ n ih =>
    intro i x y hx hy
    have lt:=(List.getElem?_eq_some_iff.1 hy).1
    have hz:l[i+1]?=some (l[i+1]'(by omega)):=List.getElem?_eq_getElem (by omega)
    have a:=step i x _ hx hz
    have b:=ih (i+1) _ y hz (by rw [show i+1+n+1=i+(n+1)+1 by omega]; exact hy)
    omega
  unfold fv
  rw [List.pairwise_iff_getElem]
  intro i j hi hj hij
  simp only [List.length_map] at hi hj
  simp only [List.getElem_map]
  exact chain (j - i - 1) i _ _ (List.getElem?_eq_getElem hi) (by rw [show i+(j - i - 1)+1=j by omega]; exact List.getElem?_eq_getElem hj)
theorem YE {l:List Kid} (id w d:Int):∀ z∈fv (oa l id w d),z∈fv l∨z=id:=by
 unfold oa
 split
 ·rcases nT l id with ⟨h1,hno⟩ | ⟨j,x,h1,h2,_⟩
  ·rw [h1]
   have e:ci l (-1)=none:=by unfold ci; simp
   rw [e]
   dsimp only
   intro z hz
   unfold fv at hz ⊢
   simp only [List.map_append,List.mem_append,List.map_cons,List.map_nil,List.mem_singleton,List.mem_map] at hz ⊢
   rcases hz with (⟨x,hx,rfl⟩ | rfl) | ⟨x,hx,rfl⟩
   ·exact .inl ⟨x,List.mem_of_mem_take hx,rfl⟩
   ·exact .inr rfl
   ·exact .inl ⟨x,List.mem_of_mem_drop hx,rfl⟩
  ·rw [h1]
   simp only [br,h2,Int.toNat_natCast]
   rw [Ub (y:=⟨x.fd,w,sZ .i64 x.bL d,0,x.c8⟩) h2 rfl]
   exact fun z hz=>.inl hz
 ·exact fun z hz=>.inl hz
structure M.KidsTo (S:Int→Prop) (l m:List Kid):Prop where
 s:qK l→qK m
 i:∀ z∈fv m,z∈fv l∨S z
theorem RG {S:Int→Prop} {l m:List Kid} (h:fv m=fv l):M.KidsTo S l m:=⟨fun hl=>by unfold qK at hl ⊢; rw [h]; exact hl,fun z hz=>.inl (h ▸ hz)⟩
theorem Ed {S:Int→Prop} (l:List Kid):M.KidsTo S l l:=RG rfl
theorem XI {S:Int→Prop} {l m k:List Kid} (a:M.KidsTo S l m) (h:fv k=fv m):M.KidsTo S l k:=⟨fun hl=>by have:=a.s hl; unfold qK at this ⊢; rw [h]; exact this,fun z hz=>a.i z (h ▸ hz)⟩
theorem Zj {S:Int→Prop} {l:List Kid} {id:Int} (hs:S id) (w d:Int):M.KidsTo S l (oa l id w d):=⟨fun h=>Wj h id w d,fun z hz=>by
 rcases YE id w d z hz with h | h
 ·exact .inl h
 ·rw [h]; exact .inr hs⟩
theorem SJ (n:aA) (f t:Int):fv (gn n f t).fN.aO=fv n.aO:=J1 _ _ _
theorem OM {S:Int→Prop} {n:aA} {me f:Int} (hs:S f) (m:ei):M.KidsTo S n.aO (fa n me f m).fN.aO:=by
 have h:M.KidsTo S n.aO (oa n.aO f m.bx m.bL):=Zj hs _ _
 have g:M.KidsTo S n.aO (gn (lr n (oa n.aO f m.bx m.bL)) me f).fN.aO:=XI h (SJ _ me f)
 unfold fa
 split
 ·exact Ed _
 ·split
  ·exact h
  ·split
   ·dsimp only
    split
    ·exact g
    ·exact g
   ·exact h
theorem Zk (n:aA) (me i:Int):∀ (l:List Kid) (s:List Kid×List au),fv (l.foldl (eJ n me i) s).1=fv s.1:=by
 intro l
 induction l with
 | nil=>intro s; rfl
 | cons x l ih =>
  intro s
  rw [List.foldl_cons,ih]
  unfold eJ
  split
  ·exact J1 _ _ _
  ·rfl
theorem Vd (n:aA) (me i:Int):fv (kF n me i).fN.aO=fv n.aO:=by
 unfold kF
 split
 ·exact Zk n me i _ _
 ·rfl
theorem Uc (n:aA) (d:aG) (m:af):(nA n d m).aO=n.aO:=by
 unfold nA
 split
 ·split <;> rfl
 ·split <;> rfl
theorem Ud (n:aA) (me:Int) (m:ei):fv (lu n me m).fN.aO=fv n.aO:=by
 unfold lu
 split
 ·rfl
 ·split
  ·rfl
  ·split
   ·exact Vd _ _ _
   ·rfl
theorem Ue (n:aA) (me:Int) (d:aG) (m:ei):fv (jB n me d m).fN.aO=fv n.aO:=by
 unfold jB
 split
 ·show fv (nA _ _ _).aO=_
  rw [Uc]; rfl
 ·split
  ·exact Ud _ _ _
  ·split <;> rfl
def pZ (t:co) (z:Int):Prop:=aq z 0 ((t.cx.length:Int) - 1)=true
theorem XJ (t:co) (me:Int) (n:aA) (d:aG) (p:au):M.KidsTo (pZ t) n.aO (M.take t me n d p).fN.aO:=by
 unfold M.take
 split
 ·exact Ed _
 ·split
  ·rename_i h
   simp only [Bool.and_eq_true] at h
   split
   ·exact OM h.1.2 _
   ·split
    ·exact RG (Ue _ _ _ _)
    ·exact Ed _
  ·exact Ed _
def vj (me:Int) (S:Int→Prop) (out:List au):Prop:=∀ q∈out,q.du=me∧S q.G2
theorem zR (me:Int) (S:Int→Prop):vj me S []:=fun q hq=>by simp at hq
theorem Wk {me t:Int} {S:Int→Prop} (h:S t) (m:ei):vj me S [pF me t m]:=fun q hq=>by
 simp only [List.mem_singleton] at hq
 subst hq; exact ⟨rfl,h⟩
theorem Uf {S:Int→Prop} {n:aA} {me f:Int} (h:S f):vj me S (gn n me f).sW:=fun q hq=>by
 unfold gn at hq
 simp only [List.mem_map] at hq
 obtain ⟨i,_,rfl⟩:=hq
 exact ⟨rfl,h⟩
theorem SK {S:Int→Prop} {n:aA} {me f:Int} (h:S f) (m:ei):vj me S (fa n me f m).sW:=by
 unfold fa
 split
 ·exact zR _ _
 ·split
  ·exact Wk h _
  ·split
   ·dsimp only
    split
    ·exact Wk h _
    ·exact Uf h
   ·exact Wk h _
theorem ZT {S:Int→Prop} {n:aA} {me i:Int}:∀ (l:List Kid) (s:List Kid×List au),(∀ x∈l,S x.fd)→vj me S s.2→vj me S (l.foldl (eJ n me i) s).2:=by
 intro l
 induction l with
 | nil=>intro s _ h; exact h
 | cons x l ih =>
  intro s hl h
  refine ih _ (fun y hy=>hl y (by simp [hy])) fun q hq=>?_
  unfold eJ at hq
  split at hq
  ·simp only [List.mem_append,List.mem_singleton] at hq
   rcases hq with hq | rfl
   ·exact h q hq
   ·exact ⟨rfl,hl x (by simp)⟩
  ·exact h q hq
theorem Wl {S:Int→Prop} {n:aA} {me i:Int} (h:∀ x∈n.aO,S x.fd):vj me S (kF n me i).sW:=by
 unfold kF
 split
 ·exact ZT _ _ h (zR _ _)
 ·exact zR _ _
theorem Zl {t:co} {me:Int} {n:aA} (h:∀ x∈n.aO,pZ t x.fd) (d:aG) (p:au):vj me (pZ t) (M.take t me n d p).sW:=by
 unfold M.take
 split
 ·exact zR _ _
 ·split
  ·rename_i hc
   simp only [Bool.and_eq_true] at hc
   split
   ·exact SK hc.1.2 _
   ·split
    ·unfold jB
     split
     ·exact zR _ _
     ·split
      ·unfold lu
       split
       ·exact zR _ _
       ·split
        ·exact zR _ _
        ·split
         ·exact Wl (n:=DH (FO n) _) h
         ·exact zR _ _
      ·first | exact zR _ _ | (split <;> exact zR _ _)
    ·exact zR _ _
  ·exact zR _ _
theorem Ug (n:aA) (d:aG) (m:af):(nA n d m).bf=n.bf:=by
 unfold nA
 split
 ·split <;> rfl
 ·split <;> rfl
theorem ON (n:aA) (me f:Int) (m:ei):(fa n me f m).fN.bf=n.bf:=by
 unfold fa
 split
 ·rfl
 ·split
  ·rfl
  ·split
   ·dsimp only
    split <;> rfl
   ·rfl
theorem Uh (n:aA) (me i:Int):(kF n me i).fN.bf=n.bf:=by
 unfold kF
 split <;> rfl
theorem SL (n:aA) (me:Int) (d:aG) (m:ei):(jB n me d m).fN.bf=n.bf:=by
 unfold jB
 split
 ·exact Ug _ _ _
 ·split
  ·unfold lu
   split
   ·rfl
   ·split
    ·rfl
    ·split
     ·exact Uh _ _ _
     ·rfl
  ·split <;> rfl
theorem XK (t:co) (me:Int) (n:aA) (d:aG) (p:au):(M.take t me n d p).fN.bf=n.bf:=by
 unfold M.take
 split
 ·rfl
 ·split
  ·split
   ·exact ON _ _ _ _
   ·split
    ·exact SL _ _ _ _
    ·rfl
  ·rfl
structure M.NodeIn (t:co) (j:Nat) (n:aA):Prop where
 w:M.NodWf n
 s:qK n.aO
 k:∀ z∈fv n.aO,pZ t z
 b:j≠0→pZ t n.bf
structure M.DiskIn (d:aG):Prop where
 o:M.DOk d
 b:M.DB d
 l:d.fP.length≤200
structure M.PkIn (t:co) (p:au):Prop where
 w:HY p
 f:pZ t p.du
 t:pZ t p.G2
structure M.WWf (w:World):Prop where
 t:o0 w.fT=true
 nl:w.fN.length=w.fT.cx.length
 dl:w.fD.length=w.fT.cx.length
 nodes:∀ (j:Nat) (n:aA),w.fN[j]?=some n→M.NodeIn w.fT j n
 disks:∀ (j:Nat) (d:aG),w.fD[j]?=some d→M.DiskIn d
 net:∀ p∈w.dX,M.PkIn w.fT p
 len:w.dX.length≤400
theorem Cj {t:co} {j:Nat} {n:aA} (h:M.NodeIn t j n):n.aO.length≤1048576:=by
 have:=XH h.s; omega
theorem ZU {w:World} (h:M.WWf w):1≤w.fT.cx.length∧w.fT.cx.length≤7:=by
 have:=h.t
 unfold o0 at this
 simp only [Bool.and_eq_true] at this
 have:=ce this.2
 omega
theorem Wm {t:co} {z:Int} (h:pZ t z):∃ j:Nat,z=j∧j < t.cx.length:=by
 have:=ce h
 exact ⟨z.toNat,by omega,by omega⟩
theorem Zm {t:co} {n:aA} {k:Nat} (hk:k < t.cx.length) (hn:M.NodeIn t k n) {d:aG} (hd:M.DiskIn d) {p:au} (hp:M.PkIn t p) :
  M.NodeIn t k (M.take t k n d p).fN∧(∀ q∈(M.take t k n d p).sW,M.PkIn t q)∧(M.take t k n d p).sW.length≤1048576:=by
 have w:=Zi t k hn.w (Cj hn) hd.b hp.w.1
 have kk:=XJ t k n d p
 have to:=Zl (me:=(k:Int)) (fun x hx=>hn.k x.fd (List.mem_map.2 ⟨x,hx,rfl⟩)) d p
 have hkk:pZ t (k:Int):=by unfold pZ; simp [aq]; omega
 refine ⟨⟨w.n,kk.s hn.s,fun z hz=>?_,fun h0=>by rw [XK]; exact hn.b h0⟩,fun q hq=>⟨w.o q hq,?_,(to q hq).2⟩,w.l⟩
 ·rcases kk.i z hz with h | h
  ·exact hn.k z h
  ·exact h
 ·rw [(to q hq).1]; exact hkk
def FP (n:aA):Bool:=lZ n.av && (n.a7.aT == 0) && ((n.a7.bg.length:Int) == 0)
theorem EM {u:Nat} (hu:1099511627776≤u) {n:aA} (hs:n.av.aD.length≤1048576):rJ u n=some (FP n):=by
 unfold rJ FP
 rw [pW hu hs,JM]
 simp only [Option.bind_some]
 cases lZ n.av <;> cases n.a7.aT == 0 <;> rfl
def FQ (n:aA):Bool:=if n.aJ=0 then FP n else if n.aJ=1 then (n.av.aP != 0) && eu n.av n.a7 else aq n.aJ 2 6 && O6 n.av n.a7
theorem J3 {u:Nat} (hu:1099511627776≤u) {n:aA} (hs:n.av.aD.length≤1048576) (hb:M.BldWf n.a7):qT u n=some (FQ n):=by
 unfold qT FQ
 simp only [EM hu hs,uo hu hs hb,bX,SD hu hs hb,Option.bind_some]
 by_cases h0:n.aJ=0
 ·simp [h0]
 ·by_cases h1:n.aJ=1
  ·simp only [h1]
   cases (n.av.aP != 0) <;> rfl
  ·have e0:(n.aJ == 0)=false:=by simpa using h0
   have e1:(n.aJ == 1)=false:=by simpa using h1
   simp only [e0,e1,h0,h1,cond_false,if_false]
   cases aq n.aJ 2 6 <;> rfl
def qA (t:co) (k:Int) (x:Kid):Bool:=!(x.fd == k) && !decide (x.fd≥(t.cx.length:Int))
theorem FR {α:Type} (g:α→Bool):∀ (l:List α) (i:Nat),iR (fun x _=>g x) l i=l.all g
 | [],_=>rfl
 | x :: l,i=>by simp only [iR,List.all_cons,FR g l]
theorem J4 {u:Nat} (hu:1099511627776≤u) {t:co} (k:Int) {n:aA} (hs:n.av.aD.length≤1048576) (hb:M.BldWf n.a7) (hk:n.aO.length≤1048577):iE u u k 0 t n=some (n.aO.all (qA t k) && FQ n):=by
 rw [KF u k t n () u (by omega) (by omega),mQ (fun x _=>qA t k x) (xs:=n.aO) (b:=FQ n) (J3 hu hs hb) 0 (fun x i f _ hx=>?_) n.aO 0 (Nat.le_refl _) rfl,FR]
 unfold CQ ot qA
 simp only [br,hx,Option.bind_some]
 cases (x.fd == k) <;> cases decide (x.fd≥(t.cx.length:Int)) <;> rfl
def J5 (n:aA):Bool:=(n.bf == 0) && (n.be == 0) && FP n && (n.aJ == 0) && ((n.aO.length:Int) == 0) && (n.a8 == 0)
def Ui (t:co) (k:Int) (n:aA):Bool :=
 (if k=0 then n.bf == -1 else JQ t n.bf k) && !decide (n.be < 0) && !decide (n.a8 < 0) && ((n.aJ == 6) == (k == 0)) && pY n.aO && (n.aO.all (qA t k) && FQ n)
def mS (t:co) (k:Int) (n:aA):Bool:=o0 t && aq k 0 ((t.cx.length:Int) - 1) && (if n.fM then Ui t k n else J5 n)
theorem RH {u:Nat} (hu:1099511627776≤u) {t:co} (ht:t.cx.length≤1048576) (k:Int) {n:aA} (hs:n.av.aD.length≤1048576) (hb:M.BldWf n.a7) (hk:n.aO.length≤1048576):uQ u t k n=some (mS t k n):=by
 have eb:cy .i64 ((t.cx.length:Int)) 1=(t.cx.length:Int) - 1:=cH (by omega) (by omega)
 unfold uQ vF cr mS
 simp only [FE hu (show t.cx.length≤1073741824 by omega),bX,eb,EM hu hs,L0 hu ht,Rr hu hk,J4 hu k hs hb (show n.aO.length≤1048577 by omega),Option.bind_some]
 cases o0 t with
 | false=>rfl
 | true =>
  cases hw:aq k 0 ((t.cx.length:Int) - 1) with
  | false=>rfl
  | true =>
   have hk0:=ce hw
   cases n.fM with
   | false =>
    unfold J5
    cases (n.bf == 0) <;> cases (n.be == 0) <;> cases FP n <;> cases (n.aJ == 0) <;> cases ((n.aO.length:Int) == 0) <;> rfl
   | true =>
    unfold Ui
    by_cases h0:k=0
    ·have e1:(k == 0)=true:=by simpa using h0
     have e2:decide (k > 0)=false:=by simp; omega
     rw [if_pos h0]
     simp only [e1,e2,bne]
     cases (n.bf == -1) <;> cases decide (n.be < 0) <;> cases decide (n.a8 < 0) <;> cases (n.aJ == 6) <;> cases pY n.aO <;> rfl
    ·have e1:(k == 0)=false:=by simpa using h0
     have e2:decide (k > 0)=true:=by simp; omega
     rw [if_neg h0]
     simp only [e1,e2]
     cases JQ t n.bf k <;> cases decide (n.be < 0) <;> cases decide (n.a8 < 0) <;> cases (n.aJ == 6) <;> cases pY n.aO <;> rfl
theorem Af (u:Nat) (x:aX):lR u x=some ((x.aT == 0) && ((x.bg.length:Int) == 0)):=by
 unfold lR
 cases x.aT == 0 <;> rfl
def HZ (n:aA):Bool:=if n.aJ=0 then FP n else (n.av.aP != 0) && eu n.av n.a7 && ((n.aJ == 1) || (Az n.av n.a7 == 0))
theorem OO {u:Nat} (hu:1099511627776≤u) {n:aA} (hs:n.av.aD.length≤1048576) (hb:M.BldWf n.a7):mH u n=some (HZ n):=by
 unfold mH mT HZ FP
 simp only [w9,Af,zP hu hs hb,OG u,Option.bind_some]
 by_cases h0:n.aJ=0
 ·rw [if_pos h0,h0]
  cases lZ n.av <;> cases (n.a7.aT == 0) <;> rfl
 ·have e0:(n.aJ == 0)=false:=by simpa using h0
  rw [if_neg h0,show (n.av.aP != 0)=!(n.av.aP == 0) from rfl]
  simp only [e0,cond_false]
  cases (n.av.aP == 0) <;> cases eu n.av n.a7 <;> cases (n.aJ == 1) <;> rfl
theorem YF (n:aA):(aq n.aJ 0 6 && HZ n)=FQ n:=by
 unfold HZ FQ O6
 by_cases h0:n.aJ=0
 ·rw [if_pos h0,if_pos h0,h0]; rfl
 ·rw [if_neg h0,if_neg h0]
  by_cases h1:n.aJ=1
  ·rw [if_pos h1,h1]
   cases (n.av.aP != 0) <;> cases eu n.av n.a7 <;> rfl
  ·have e1:(n.aJ == 1)=false:=by simpa using h1
   have e2:aq n.aJ 2 6=aq n.aJ 0 6:=by
    unfold aq
    rw [Bool.eq_iff_iff]
    simp only [Bool.and_eq_true,decide_eq_true_eq]
    omega
   rw [if_neg h1,e1,e2]
   cases aq n.aJ 0 6 <;> cases (n.av.aP != 0) <;> cases eu n.av n.a7 <;> rfl
def Ee (t:co) (k:Int) (x:Kid):Bool:=aq x.fd 0 ((t.cx.length:Int) - 1) && !(x.fd == k)
theorem OP {u:Nat} (hu:1099511627776≤u) {l:List Kid} (hl:l.length≤1048576) {t:co} (ht:t.cx.length≤1048576) (k:Int):b5 u l t k=some (l.any fun x=>!Ee t k x):=by
 unfold b5 cB
 rw [ka u l t k () u (by omega) (by omega),lP (fun x=>!Ee t k x) rfl (fun x i k hx=>by
  unfold ej tj Ee
  rw [o3 u ht]
  simp only [Option.bind_some]
  cases aq x.fd 0 ((t.cx.length:Int) - 1)
  ·rfl
  ·simp)]
 simp only [Option.bind_some,rB]
theorem XL {t:co} {k:Int} {l:List Kid} (h:pY l=true):l.all (Ee t k)=l.all (qA t k):=by
 have r:=(J2 h).r
 have:∀ x∈l,Ee t k x=qA t k x:=fun x hx=>by
  have:=r x.fd (List.mem_map.2 ⟨x,hx,rfl⟩)
  have e:aq x.fd 0 ((t.cx.length:Int) - 1)=!decide (x.fd≥(t.cx.length:Int)):=by
   unfold aq
   rw [Bool.eq_iff_iff]
   simp only [Bool.and_eq_true,decide_eq_true_eq,Bool.not_eq_true',decide_eq_false_iff_not]
   omega
  unfold Ee qA
  rw [e,Bool.and_comm]
 rw [Bool.eq_iff_iff,List.all_eq_true,List.all_eq_true]
 exact ⟨fun g x hx=>this x hx ▸ g x hx,fun g x hx=>(this x hx).symm ▸ g x hx⟩
theorem RI {u:Nat} (hu:1099511627776≤u) {t:co} (ht:t.cx.length≤1048576) (k:Int) {n:aA} (hs:n.av.aD.length≤1048576) (hb:M.BldWf n.a7) (hk:n.aO.length≤1048576):uY u t k n=some (mS t k n):=by
 unfold uY wd mI ub mS
 simp only [FD hu (show t.cx.length≤1073741824 by omega),o3 u ht,w9,Af,L1 hu ht,Rs hu hk,bM,OO hu hs hb,OP hu hk ht k,Fy,Option.bind_some]
 cases o0 t with
 | false=>rfl
 | true =>
  cases hw:aq k 0 ((t.cx.length:Int) - 1) with
  | false=>rfl
  | true =>
   have hk0:=ce hw
   cases n.fM with
   | false =>
    unfold J5 FP
    cases (n.bf == 0) <;> cases (n.be == 0) <;> cases lZ n.av <;> cases (n.a7.aT == 0) <;> cases ((n.a7.bg.length:Int) == 0) <;> cases (n.aJ == 0) <;> cases ((n.aO.length:Int) == 0) <;> rfl
   | true =>
    have core:(bif decide (n.be≥0) then bif decide (n.a8≥0) then bif aq n.aJ 0 6 then bif (n.aJ == 6) == (k == 0) then bif HZ n then bif pY n.aO then some (n.aO.all (Ee t k)) else some false else some false else some false else some false else some false else some false)
      = some (!decide (n.be < 0) && !decide (n.a8 < 0) && ((n.aJ == 6) == (k == 0)) && pY n.aO && (n.aO.all (qA t k) && FQ n)):=by
     rw [← YF n]
     have q:decide (n.be≥0)=!decide (n.be < 0):=by
      by_cases h:n.be < 0
      ·have:¬ n.be≥0:=by omega
       simp [h,this]
      ·have:n.be≥0:=by omega
       simp [h,this]
     have d:decide (n.a8≥0)=!decide (n.a8 < 0):=by
      by_cases h:n.a8 < 0
      ·have:¬ n.a8≥0:=by omega
       simp [h,this]
      ·have:n.a8≥0:=by omega
       simp [h,this]
     rw [q,d]
     cases hko:pY n.aO with
     | false =>
      generalize ((n.aJ == 6) == (k == 0))=z
      cases decide (n.be < 0) <;> cases decide (n.a8 < 0) <;> cases aq n.aJ 0 6 <;> cases HZ n <;> cases z <;> rfl
     | true =>
      rw [XL hko]
      generalize ((n.aJ == 6) == (k == 0))=z
      generalize n.aO.all (qA t k)=y
      cases decide (n.be < 0) <;> cases decide (n.a8 < 0) <;> cases aq n.aJ 0 6 <;> cases HZ n <;> cases z <;> cases y <;> rfl
    unfold Ui
    by_cases h0:k=0
    ·have e1:(k == 0)=true:=by simpa using h0
     have e2:(k != 0)=false:=by simpa using h0
     rw [if_pos h0]
     cases hbo:(n.bf == -1) with
     | false=>simp only [e1,e2,hbo]; rfl
     | true =>
      simp only [e1] at core
      simp only [e1,hbo,Bool.not_true,Bool.true_and,Bool.and_true,cond_false,cond_true,if_true]
      exact core
    ·have e1:(k == 0)=false:=by simpa using h0
     have e2:(k != 0)=true:=by simpa using h0
     rw [if_neg h0]
     cases JQ t n.bf k with
     | false=>simp only [e1,e2]; rfl
     | true =>
      simp only [e1] at core
      simp only [e1,e2,Bool.not_true,Bool.true_and,Bool.and_true,cond_false,cond_true,if_true]
      exact core
def tH (a b:List Int):Bool:=decide (b.length≤a.length) && lN (a.take b.length) b
theorem Ck (u:Nat) (a b:List Int):mC u a b=some (tH a b):=by
 unfold mC tH
 by_cases h:b.length≤a.length
 ·have e:decide (((a.length:Int))≥((b.length:Int)))=true:=by simp; omega
  have c:dW (dU 0 ((b.length:Int)) a.length)=some ():=by
   rw [show (0:Int)=((0:Nat):Int) from rfl,eL (by omega) h]
  simp only [e,h,c,cond_true,Option.bind_some,w7,Int.toNat_natCast,show Int.toNat 0=0 from rfl,List.drop_zero,decide_true,Bool.true_and]
 ·have e:decide (((a.length:Int))≥((b.length:Int)))=false:=by simp; omega
  simp only [e,h,cond_false,decide_false,Bool.false_and]
theorem H0 (u:Nat) (a b:List Int):pQ u a b=some (tH a b):=by
 unfold pQ tH
 by_cases h:b.length≤a.length
 ·have e:decide (((a.length:Int))≥((b.length:Int)))=true:=by simp; omega
  have c:dW (dU 0 ((b.length:Int)) a.length)=some ():=by
   rw [show (0:Int)=((0:Nat):Int) from rfl,eL (by omega) h]
  simp only [e,h,c,cond_true,Option.bind_some,Int.toNat_natCast,show Int.toNat 0=0 from rfl,List.drop_zero,decide_true,Bool.true_and]
  rfl
 ·have e:decide (((a.length:Int))≥((b.length:Int)))=false:=by simp; omega
  simp only [e,h,cond_false,decide_false,Bool.false_and]
def Mg (p:ca) (m:af) (s:Int):Bool:=(p.d1 == 2) && ([p.fR.aP,p.fR.cL,p.fR.aY] == [m.aP,s,m.aY])
def rE (d:aG) (m:af) (x:aX) (ph:Int):Bool :=
 if ph=2 then (d.fP.all fun p=>p.d1 == gW d) && tH (iQ (FB d) (gW d)) x.bg
 else if ph=3 then ((d.fP.length:Int) == 0) && tH (iQ d (gW d)) x.bg
 else if ph=4 then ((d.fP.length:Int) == 1) && (match d.fP[0]? with | some p=>Mg p m (gW d) | none=>false) && tH (iQ d (gW d)) x.bg
 else false
theorem G0 (ph:Int) (a b c:Option Bool):(bif ph == 2 then a else (bif ph == 3 then b else (bif ph == 4 then c else some false)))=if ph=2 then a else if ph=3 then b else if ph=4 then c else some false:=by
 by_cases h2:ph=2
 ·subst h2; rfl
 ·by_cases h3:ph=3
  ·subst h3; rfl
  ·by_cases h4:ph=4
   ·subst h4; rfl
   ·have e2:(ph == 2)=false:=by simpa using h2
    have e3:(ph == 3)=false:=by simpa using h3
    have e4:(ph == 4)=false:=by simpa using h4
    simp [h2,h3,h4,e2,e3,e4]
theorem MR (ph:Int) (a b c:Bool):(if ph=2 then some a else if ph=3 then some b else if ph=4 then some c else some false)=some (if ph=2 then a else if ph=3 then b else if ph=4 then c else false):=by
 by_cases h2:ph=2 <;> by_cases h3:ph=3 <;> by_cases h4:ph=4 <;> simp [h2,h3,h4]
theorem YG {d:aG} (h:aq (gW d) 0 1=true):gW d=0∨gW d=1:=by
 have:=ce h; omega
theorem FS {u:Nat} (hu:1099511627776≤u) {d:aG} (hd:M.DOk d) (hs:aq (gW d) 0 1=true) (x:aX):iF u u 0 d x=some ((d.fP.all fun p=>p.d1 == gW d) && tH (iQ (FB d) (gW d)) x.bg):=by
 have hp:=hd.p
 have fin:sJ u d x ()=some (tH (iQ (FB d) (gW d)) x.bg):=by
  unfold sJ qC
  simp only [TZ hu hd,CF,Option.bind_some,Aq u (FB d) hs,Ck]
 rw [Gg u d x () u (by omega) (by omega),mQ (fun p _=>p.d1 == gW d) (xs:=d.fP) fin 0 (fun p i f _ hx=>?_) d.fP 0 (Nat.le_refl _) rfl,FR]
 unfold zU
 simp only [CF,Option.bind_some,bne]
 cases (p.d1 == gW d) <;> rfl
theorem qan {α:Type} (l:List α):((l.length:Int) == 1)=decide (l.length=1):=by
 rw [Bool.eq_iff_iff]; simp; omega
theorem J6 {u:Nat} (hu:1099511627776≤u) {d:aG} (hd:M.DOk d) (hs:aq (gW d) 0 1=true) (m:af) (x:aX) (ph:Int):qY u d m x ph=some (rE d m x ph):=by
 unfold qY rE
 simp only [CF,Option.bind_some,Aq u d hs,FS hu hd hs,Ck]
 rw [G0,← MR]
 congr 1
 congr 1
 ·cases ((d.fP.length:Int) == 0) <;> rfl
 ·congr 1
  cases hp:d.fP with
  | nil=>rfl
  | cons p l =>
   cases l with
   | nil =>
    have e:ci [p] (0:Int)=some p:=br [p] 0
    simp only [List.length_singleton,e,Option.bind_some,List.getElem?_cons_zero,Mg]
    cases (p.d1 == 2) <;> cases ([p.fR.aP,p.fR.cL,p.fR.aY] == [m.aP,gW d,m.aY]) <;> rfl
   | cons q l =>
    have e:(((p :: q :: l).length:Int) == 1)=false:=by rw [qan]; simp
    simp only [e,cond_false,Bool.false_and]
theorem Wn (l:List ca) (s:Int):(!(l.any fun p=>p.d1 != s))=l.all fun p=>p.d1 == s:=by
 induction l with
 | nil=>rfl
 | cons x l ih =>
  rw [List.any_cons,List.all_cons,Bool.not_or,ih,show (x.d1 != s)=!(x.d1 == s) from rfl,Bool.not_not]
theorem H1 {u:Nat} (hu:1099511627776≤u) {l:List ca} (hl:l.length≤1048576) (s:Int):bT u l s=some (l.any fun p=>p.d1 != s):=by
 unfold bT ct
 rw [jm u l s () u (by omega) (by omega),lP (fun p=>p.d1 != s) rfl (fun x i k hx=>rfl)]
 simp only [Option.bind_some,rB]
theorem Gt (u:Nat) (d:aG) (s:Int) (x:aX):ju u d s x=some (tH (iQ d s) x.bg):=by
 unfold ju
 simp only [D7,Option.bind_some,H0]
theorem FT {u:Nat} (hu:1099511627776≤u) {d:aG} (hd:M.DOk d) (m:af) (x:aX) (ph:Int):nL u ph d (gW d) (gW d) m x=some (rE d m x ph):=by
 unfold nL rE
 simp only [H1 hu hd.p,T1 hu hd,Gt,Option.bind_some,Wn]
 rw [G0,← MR]
 congr 1
 ·cases (d.fP.all fun p=>p.d1 == gW d) <;> rfl
 ·congr 1
  ·cases ((d.fP.length:Int) == 0) <;> rfl
  ·congr 1
   cases hp:d.fP with
   | nil=>rfl
   | cons p l =>
    cases l with
    | nil =>
     have e:ci [p] (0:Int)=some p:=br [p] 0
     simp only [List.length_singleton,e,Option.bind_some,List.getElem?_cons_zero,Mg]
     cases (p.d1 == 2) <;> cases ([p.fR.aP,p.fR.cL,p.fR.aY] == [m.aP,gW d,m.aY]) <;> rfl
    | cons q l =>
     have e:(((p :: q :: l).length:Int) == 1)=false:=by rw [qan]; simp
     simp only [e,cond_false,Bool.false_and]
theorem J7 {u:Nat} (hu:1099511627776≤u) {d:aG} (hd:M.DOk d) (hs:aq (gW d) 0 1=true) (m:af) (x:aX) (ph:Int):re u d m x ph=some (rE d m x ph):=by
 have j:=FT hu hd m x ph
 unfold re
 simp only [SG,Option.bind_some]
 rcases YG hs with h | h
 ·rw [h] at j ⊢; exact j
 ·rw [h] at j ⊢; exact j
theorem J8 {d:aG} (h:em d=true):aq (gW d) 0 1=true:=by
 have r:=ce (yh (Ar h).1).1
 unfold gW
 rw [cH (by omega) (by omega)]
 simp [aq]; omega
def BA (c:vm):Bool:=aq c.aS 2 6 && aq c.gB 1 40 && aq c.eo 1 5 && aq c.ik 2 8
theorem RJ (u:Nat) (c:vm):yx u c=some (BA c):=by
 unfold yx BA
 simp only [bX,Option.bind_some]
 cases aq c.aS 2 6 <;> cases aq c.gB 1 40 <;> cases aq c.eo 1 5 <;> rfl
theorem RK (u:Nat) (c:vm):yF u c=some (BA c):=by
 unfold yF BA
 simp only [bM,Option.bind_some]
 cases aq c.aS 2 6 <;> cases aq c.gB 1 40 <;> cases aq c.eo 1 5 <;> rfl
def xj (l:List ba) (n:Int):Bool:=(l.all fun x=>!decide ((x.fB.length:Int) > 240)) && ((l.length:Int) == n)
theorem OQ {u:Nat} (hu:1099511627776≤u) {l:List ba} (hl:l.length≤1048576) (n:Int):vB u l n=some (xj l n):=by
 unfold vB xj
 rw [Ii u l n () u (by omega) (by omega),mQ (fun (x:ba) _=>!decide ((x.fB.length:Int) > 240)) (xs:=l) (b:=(l.length:Int) == n) rfl 0 (fun x i f _ hx=>?_) l 0 (Nat.le_refl _) rfl,FR]
 unfold BN
 cases decide ((x.fB.length:Int) > 240) <;> rfl
theorem J9 {u:Nat} (hu:1099511627776≤u) {l:List ba} (hl:l.length≤1048576) (t:co):q9 u t l=some (xj l t.cx.length):=by
 unfold q9 xj cf cj
 rw [ir u l () u (by omega) (by omega),lP (fun (x:ba)=>decide ((x.fB.length:Int) > 240)) rfl (fun x i k hx=>rfl)]
 simp only [Option.bind_some,rB]
 have e:(!(l.any fun x=>decide ((x.fB.length:Int) > 240)))=l.all fun x=>!decide ((x.fB.length:Int) > 240):=by
  induction l with
  | nil=>rfl
  | cons x l ih=>simp only [List.any_cons,List.all_cons,Bool.not_or,ih (by simp at hl; omega)]
 rw [e]
 cases ((l.length:Int) == (t.cx.length:Int)) <;> simp
def tJ (new old:List Int) (n:aA) (d:aG):Bool :=
 if n.aJ=0 then ((d.fP.length:Int) == 0) && (M.holds d 0 old || M.holds d 1 new)
 else if n.aJ=1 then ((d.fP.length:Int) == 0) && M.holds d 0 old
 else if n.aJ=5 then ((d.fP.length:Int) == 0) && M.holds d 1 new
 else M.holds d 0 old && rE d n.av n.a7 n.aJ
theorem G1 {α:Type} (ph:Int) (a b c e:α):(bif ph == 0 then a else (bif ph == 1 then b else (bif ph == 5 then c else e)))=if ph=0 then a else if ph=1 then b else if ph=5 then c else e:=by
 by_cases h2:ph=0
 ·subst h2; rfl
 ·by_cases h3:ph=1
  ·subst h3; rfl
  ·by_cases h4:ph=5
   ·subst h4; rfl
   ·have e2:(ph == 0)=false:=by simpa using h2
    have e3:(ph == 1)=false:=by simpa using h3
    have e4:(ph == 5)=false:=by simpa using h4
    simp [h2,h3,h4,e2,e3,e4]
theorem Ve {α:Type} (p q r:Prop) [Decidable p] [Decidable q] [Decidable r] (a b c e:α):some (if p then a else if q then b else if r then c else e)=if p then some a else if q then some b else if r then some c else some e:=(RC p q r a b c e).symm
theorem Mh {u:Nat} (hu:1099511627776≤u) {w:World} {k:Nat} {n:aA} {d:aG} {o:ba} (hn:w.fN[k]?=some n) (hd:w.fD[k]?=some d) (ho:w.f6[k]?=some o) (dk:M.DOk d) (hok:em d=true) (hoff:n.fM=false→n.aJ=0):ke u w k=some (tJ w.jj o.fB n d):=by
 unfold ke kz
 simp only [br,hn,hd,ho,Option.bind_some,GS hu dk,J7 hu dk (J8 hok)]
 have main:(bif n.aJ == 0 then (bif (d.fP.length:Int) == 0 then bif M.holds d 0 o.fB then some true else some (M.holds d 1 w.jj) else some false) else bif n.aJ == 1 then (bif (d.fP.length:Int) == 0 then some (M.holds d 0 o.fB) else some false) else bif n.aJ == 5 then (bif (d.fP.length:Int) == 0 then some (M.holds d 1 w.jj) else some false) else (bif M.holds d 0 o.fB then some (rE d n.av n.a7 n.aJ) else some false))=some (tJ w.jj o.fB n d):=by
  unfold tJ
  rw [G1,Ve]
  congr 1
  ·cases ((d.fP.length:Int) == 0) <;> cases M.holds d 0 o.fB <;> rfl
  ·congr 1
   ·cases ((d.fP.length:Int) == 0) <;> rfl
   ·congr 1
    ·cases ((d.fP.length:Int) == 0) <;> rfl
    ·cases M.holds d 0 o.fB <;> rfl
 cases hon:n.fM with
 | true=>exact main
 | false =>
  have h0:=hoff hon
  rw [h0] at main ⊢
  exact main
theorem OR {u:Nat} (hu:1099511627776≤u) {w:World} {k:Nat} (hk:k≠0) {n:aA} {d:aG} {o:ba} (hn:w.fN[k]?=some n) (hd:w.fD[k]?=some d) (ho:w.f6[k]?=some o) (dk:M.DOk d) (hok:em d=true):iG u w k=some (tJ w.jj o.fB n d):=by
 have e0:((k:Int) == 0)=false:=by simp; omega
 unfold iG
 simp only [br,hn,hd,ho,Option.bind_some,e0,cond_false,LX hu dk,yi hu dk,J6 hu dk (J8 hok)]
 rw [G1]
 unfold tJ HP
 rw [Ve]
 cases h4:M.holds d 0 o.fB with
 | true =>
  simp only [Bool.true_or,Bool.not_true,cond_false,cond_true]
  congr 1
  ·cases ((d.fP.length:Int) == 0) <;> rfl
  ·congr 1
   ·cases ((d.fP.length:Int) == 0) <;> rfl
   ·congr 1
    cases ((d.fP.length:Int) == 0) <;> rfl
 | false =>
  cases h5:M.holds d 1 w.jj with
  | true =>
   simp only [Bool.false_or,Bool.not_true,cond_false]
   congr 1
   ·cases ((d.fP.length:Int) == 0) <;> rfl
   ·congr 1
    ·cases ((d.fP.length:Int) == 0) <;> rfl
    ·congr 1
     cases ((d.fP.length:Int) == 0) <;> rfl
  | false =>
   simp only [Bool.or_self,Bool.not_false,cond_true,Bool.and_false,Bool.false_and]
   split
   ·rfl
   ·split
    ·rfl
    ·split <;> rfl
structure M.WIn (w:World):Prop where
 nd:M.NdOk w
 up:w.fT.cx.length≤1048576
 n:w.fN.length≤1048576
 d:w.fD.length≤1048576
 net:w.dX.length≤1048576
 nodes:∀ n∈w.fN,n.av.aD.length≤1048576∧M.BldWf n.a7∧n.aO.length≤1048576
 disks:∀ d∈w.fD,M.DOk d
def tK (n:aA) (d:aG) (o:ba):Bool:=n.fM && M.holds d 0 o.fB && ((d.fP.length:Int) == 0)
def tL (w:World) (n:aA) (i:Nat):Bool:=match w.fD[i]?,w.f6[i]? with
 | some d,some o=>mS w.fT i n && em d && ((n.aJ == 0) || er n.av (un w)) && (if i=0 then tK n d o else tJ w.jj o.fB n d)
 | _,_=>false
def o6 (t:co) (p:au):Bool:=aq p.du 0 ((t.cx.length:Int) - 1) && aq p.G2 0 ((t.cx.length:Int) - 1)
def vk (w:World):Bool :=
 BA w.fC && o0 w.fT && fV w.fC.aS w.jj.length && xj w.f6 w.fT.cx.length && ((w.fN.length:Int) == (w.fT.cx.length:Int)) && ((w.fD.length:Int) == (w.fT.cx.length:Int)) &&
  !decide ((w.dX.length:Int) > 400) && !decide ((w.p5.length:Int) > 3000) && !decide (w.qO < 0) && (iR (tL w) w.fN 0 && w.dX.all (o6 w.fT))
theorem Ka {u:Nat} (hu:1099511627776≤u) {w:World} {n:aA} {d:aG} {o:ba} (hn:w.fN[0]?=some n) (hd:w.fD[0]?=some d) (ho:w.f6[0]?=some o) (dk:M.DOk d):iG u w 0=some (tK n d o):=by
 have i1:ci w.fN (0:Int)=some n:=(br w.fN 0).trans hn
 have i2:ci w.fD (0:Int)=some d:=(br w.fD 0).trans hd
 have i3:ci w.f6 (0:Int)=some o:=(br w.f6 0).trans ho
 unfold iG tK
 simp only [i1,i2,i3,Option.bind_some,yi hu dk]
 cases n.fM <;> cases M.holds d 0 o.fB <;> rfl
theorem Mi {u:Nat} (hu:1099511627776≤u) {w:World} (h:M.WIn w):pJ u w=some (w.dX.all (o6 w.fT)):=by
 have eb:cy .i64 ((w.fT.cx.length:Int)) 1=(w.fT.cx.length:Int) - 1:=cH (by have:=h.up; omega) (by have:=h.up; omega)
 have hl:=h.net
 unfold pJ
 rw [Im u w () u (by omega) (by omega),mQ (fun p _=>o6 w.fT p) (xs:=w.dX) (b:=true) rfl 0 (fun p i f _ hx=>?_) w.dX 0 (Nat.le_refl _) rfl,FR,Bool.and_true]
 unfold BP nc o6
 simp only [bX,eb,br,hx,Option.bind_some]
 cases aq p.du 0 ((w.fT.cx.length:Int) - 1) <;> cases aq p.G2 0 ((w.fT.cx.length:Int) - 1) <;> rfl
theorem H2 {u:Nat} (hu:1099511627776≤u) {w:World} (h:M.WIn w) (hn:w.fN.length=w.fT.cx.length) (hd:w.fD.length=w.fT.cx.length) (ho:w.f6.length=w.fT.cx.length) :
  d4 u u w 0 (un w)=some (iR (tL w) w.fN 0 && w.dX.all (o6 w.fT)):=by
 have up:=h.up
 rw [Ip u w (un w) () u (by omega) (by omega),Int.toNat_natCast,← hn,
  Tl (tL w) (xs:=w.fN) (b:=w.dX.all (o6 w.fT)) (Mi hu h) (fun n i k hx=>?_) w.fN 0 rfl]
 have hi:=(List.getElem?_eq_some_iff.1 hx).1
 have hdd:w.fD[i]?=some (w.fD[i]'(by omega)):=List.getElem?_eq_getElem _
 have hoo:w.f6[i]?=some (w.f6[i]'(by omega)):=List.getElem?_eq_getElem _
 generalize w.fD[i]'(by omega)=d at hdd
 generalize w.f6[i]'(by omega)=o at hoo
 have nn:=h.nodes n (List.mem_of_getElem? hx)
 have dk:=h.disks d (List.mem_of_getElem? hdd)
 unfold BQ d3 tL
 simp only [br,hx,hdd,hoo,Option.bind_some,RH hu up i nn.1 nn.2.1 nn.2.2,Bo hu dk,pW hu nn.1]
 cases hok:em d with
 | false=>cases mS w.fT i n <;> simp
 | true =>
  have dsk:iG u w (i:Int)=some (if i=0 then tK n d o else tJ w.jj o.fB n d):=by
   by_cases h0:i=0
   ·subst h0
    rw [if_pos rfl]
    exact Ka hu hx hdd hoo dk
   ·rw [if_neg h0]
    exact OR hu h0 hx hdd hoo dk hok
  simp only [dsk,Option.bind_some]
  generalize (if i=0 then tK n d o else tJ w.jj o.fB n d)=z
  rw [show (n.aJ != 0)=!(n.aJ == 0) from rfl]
  cases mS w.fT i n <;> cases (n.aJ == 0) <;> cases er n.av (un w) <;> cases z <;> rfl
theorem EN {u:Nat} (hu:1099511627776≤u) {w:World} (h:M.WIn w):vG u w=some (vk w):=by
 unfold vG vk
 simp only [RJ,FE hu (show w.fT.cx.length≤1073741824 by have:=h.up; omega),wZ,OQ hu h.nd.old,Option.bind_some]
 rw [show ((w.fN.length:Int) != (w.fT.cx.length:Int))=!((w.fN.length:Int) == (w.fT.cx.length:Int)) from rfl,show ((w.fD.length:Int) != (w.fT.cx.length:Int))=!((w.fD.length:Int) == (w.fT.cx.length:Int)) from rfl]
 have f:d5 u w true=some false:=rfl
 rw [f]
 cases BA w.fC with
 | false=>rfl
 | true =>
  cases o0 w.fT with
  | false=>rfl
  | true =>
   cases fV w.fC.aS w.jj.length with
   | false=>rfl
   | true =>
    cases ho:xj w.f6 w.fT.cx.length with
    | false=>rfl
    | true =>
     cases hn:((w.fN.length:Int) == (w.fT.cx.length:Int)) with
     | false=>rfl
     | true =>
      cases hd:((w.fD.length:Int) == (w.fT.cx.length:Int)) with
      | false=>rfl
      | true =>
       cases decide ((w.dX.length:Int) > 400) with
       | true=>rfl
       | false =>
        cases decide ((w.p5.length:Int) > 3000) with
        | true=>rfl
        | false =>
         cases decide (w.qO < 0) with
         | true=>rfl
         | false =>
          unfold xj at ho
          simp only [Bool.and_eq_true,beq_iff_eq] at ho hn hd
          have l6:=H2 hu h (by omega) (by omega) (by omega)
          simp only [Bool.not_true,Bool.not_false,cond_false,cond_true,Bool.true_and,d5,Sy hu h.nd,Option.bind_some,l6]
def sH (w:World) (n:aA) (i:Nat):Bool:=match w.fD[i]?,w.f6[i]? with
 | some d,some o=>mS w.fT i n && em d && ((n.aJ == 0) || er n.av (un w)) && (if i=0 then true else tJ w.jj o.fB n d)
 | _,_=>false
theorem RL {α:Type} {f g:α→Nat→Bool} (h:∀ x j,1≤j→f x j=g x j):∀ (l:List α) (i:Nat),1≤i→iR f l i=iR g l i
 | [],_,_=>rfl
 | x :: l,i,hi=>by simp only [iR,h x i hi,RL h l (i+1) (by omega)]
theorem Wo (w:World) (n:aA) (j:Nat) (h:1≤j):tL w n j=sH w n j:=by
 have h0:¬ j=0:=by omega
 unfold tL sH
 simp only [h0,if_false]
 all_goals (cases w.fD[j]? <;> cases w.f6[j]? <;> rfl)
theorem Mj {u:Nat} (hu:1099511627776≤u) {w:World} (h:M.WIn w):bQ u w.dX w=some (w.dX.any fun p=>!o6 w.fT p):=by
 have hl:=h.net
 unfold bQ ck
 rw [iv u w.dX w () u (by omega) (by omega),lP (fun p=>!o6 w.fT p) rfl (fun x i k hx=>by
  unfold dB rf o6
  simp only [o3 u h.up,Option.bind_some]
  cases aq x.du 0 ((w.fT.cx.length:Int) - 1) <;> cases aq x.G2 0 ((w.fT.cx.length:Int) - 1) <;> rfl)]
 simp only [Option.bind_some,rB]
theorem Wq {t:co} {k:Int} {n:aA} (h:mS t k n=true) (ho:n.fM=false):n.aJ=0:=by
 unfold mS J5 at h
 rw [ho] at h
 simp only [Bool.and_eq_true,Bool.false_eq_true,if_false,beq_iff_eq] at h
 exact h.2.1.1.2
def RM (w:World) (r:Bool):Bool:=r && !decide ((w.dX.length:Int) > 400) && w.dX.all (o6 w.fT) && !decide ((w.p5.length:Int) > 3000) && !decide (w.qO < 0)
theorem ZV (a b:Int):decide (a≤b)=!decide (a > b):=by
 by_cases h:a≤b
 ·have:¬ a > b:=by omega
  simp [h,this]
 ·have:a > b:=by omega
  simp [h,this]
theorem ZW (a b:Int):decide (a≥b)=!decide (a < b):=by
 by_cases h:a < b
 ·have:¬ a≥b:=by omega
  simp [h,this]
 ·have:a≥b:=by omega
  simp [h,this]
theorem Kb {u:Nat} (hu:1099511627776≤u) {w:World} (h:M.WIn w) {n:aA} {d:aG} {o:ba} (hn:w.fN[0]?=some n) (hd:w.fD[0]?=some d) (ho:w.f6[0]?=some o):np u w=some (RM w (tK n d o)):=by
 have i1:ci w.fN (0:Int)=some n:=(br w.fN 0).trans hn
 have i2:ci w.fD (0:Int)=some d:=(br w.fD 0).trans hd
 have i3:ci w.f6 (0:Int)=some o:=(br w.f6 0).trans ho
 have dk:=h.disks d (List.mem_of_getElem? hd)
 unfold np RM tK
 simp only [i1,i2,i3,Option.bind_some,GS hu dk,Mj hu h,Fy,ZV,ZW]
 cases n.fM <;> cases M.holds d 0 o.fB <;> cases ((d.fP.length:Int) == 0) <;> cases decide ((w.dX.length:Int) > 400) <;> cases w.dX.all (o6 w.fT) <;> cases decide ((w.p5.length:Int) > 3000) <;> rfl
theorem H3 {u:Nat} (hu:1099511627776≤u) {w:World} (h:M.WIn w) (hd:w.fD.length=w.fN.length) (ho:w.f6.length=w.fN.length) {r:Bool} (hr:np u w=some r) :
  d7 u u w 0 (un w)=some (iR (sH w) w.fN 0 && r):=by
 have hn:=h.n
 rw [IC u w (un w) () u (by omega) (by omega),mQ (sH w) (xs:=w.fN) (b:=r) hr 0 (fun n i k _ hx=>?_) w.fN 0 (Nat.le_refl _) rfl]
 have hi:=(List.getElem?_eq_some_iff.1 hx).1
 have hdd:w.fD[i]?=some (w.fD[i]'(by omega)):=List.getElem?_eq_getElem _
 have hoo:w.f6[i]?=some (w.f6[i]'(by omega)):=List.getElem?_eq_getElem _
 generalize w.fD[i]'(by omega)=d at hdd
 generalize w.f6[i]'(by omega)=o at hoo
 have nn:=h.nodes n (List.mem_of_getElem? hx)
 have dk:=h.disks d (List.mem_of_getElem? hdd)
 unfold BW fw ue sH
 simp only [br,hdd,hoo,Option.bind_some,RI hu h.up i nn.1 nn.2.1 nn.2.2,Bn hu dk,zM hu nn.1]
 cases hno:mS w.fT i n with
 | false=>rfl
 | true =>
  cases hok:em d with
  | false=>rfl
  | true =>
   have mir:=Mh hu hx hdd hoo dk hok (Wq hno)
   simp only [mir,Option.bind_some]
   rw [show (n.aJ != 0)=!(n.aJ == 0) from rfl]
   by_cases h0:i=0
   ·have e:decide ((i:Int) > 0)=false:=by simp; omega
    simp only [e,h0,if_true]
    cases (n.aJ == 0) <;> cases er n.av (un w) <;> rfl
   ·have e:decide ((i:Int) > 0)=true:=by simp; omega
    simp only [e,h0,if_false]
    cases (n.aJ == 0) <;> cases er n.av (un w) <;> cases tJ w.jj o.fB n d <;> rfl
theorem OS {u:Nat} (hu:1099511627776≤u) {w:World} (h:M.WIn w):wg u w=some (vk w):=by
 unfold wg vk
 simp only [RK,FD hu (show w.fT.cx.length≤1073741824 by have:=h.up; omega),wY,J9 hu h.nd.old,Option.bind_some]
 rw [show ((w.fN.length:Int) != (w.fT.cx.length:Int))=!((w.fN.length:Int) == (w.fT.cx.length:Int)) from rfl,show ((w.fD.length:Int) != (w.fT.cx.length:Int))=!((w.fD.length:Int) == (w.fT.cx.length:Int)) from rfl]
 have f:gR u true w=some false:=rfl
 rw [f]
 cases BA w.fC with
 | false=>rfl
 | true =>
  cases ht:o0 w.fT with
  | false=>rfl
  | true =>
   cases fV w.fC.aS w.jj.length with
   | false=>rfl
   | true =>
    cases ho:xj w.f6 w.fT.cx.length with
    | false=>rfl
    | true =>
     cases hn:((w.fN.length:Int) == (w.fT.cx.length:Int)) with
     | false=>rfl
     | true =>
      cases hd:((w.fD.length:Int) == (w.fT.cx.length:Int)) with
      | false=>rfl
      | true =>
       unfold xj at ho
       unfold o0 at ht
       simp only [Bool.and_eq_true,beq_iff_eq] at ho hn hd ht
       have up:=ce ht.2
       have hnn:w.fN[0]?=some (w.fN[0]'(by omega)):=List.getElem?_eq_getElem _
       have hdd:w.fD[0]?=some (w.fD[0]'(by omega)):=List.getElem?_eq_getElem _
       have hoo:w.f6[0]?=some (w.f6[0]'(by omega)):=List.getElem?_eq_getElem _
       generalize w.fN[0]'(by omega)=n at hnn
       generalize w.fD[0]'(by omega)=d at hdd
       generalize w.f6[0]'(by omega)=o at hoo
       have l3:=H3 hu h (by omega) (by omega) (Kb hu h hnn hdd hoo)
       simp only [Bool.not_true,cond_false,Bool.true_and,gR,Sw hu h.nd,Option.bind_some,l3]
       have e:iR (tL w) w.fN 0=(iR (sH w) w.fN 0 && tK n d o):=by
        cases hf:w.fN with
        | nil=>rw [hf] at hnn; simp at hnn
        | cons x l =>
         rw [hf] at hnn
         simp only [List.getElem?_cons_zero,Option.some.injEq] at hnn
         subst hnn
         simp only [iR]
         rw [RL (Wo w) l (0+1) (by omega)]
         generalize iR (sH w) l (0+1)=y
         unfold tL sH
         simp only [hdd,hoo,if_true]
         generalize (mS w.fT ((0:Nat):Int) x && em d && ((x.aJ == 0) || er x.av (un w)))=z
         cases z <;> cases tK x d o <;> cases y <;> rfl
       rw [e]
       unfold RM
       generalize iR (sH w) w.fN 0=a
       generalize tK n d o=b
       generalize w.dX.all (o6 w.fT)=c
       cases a <;> cases b <;> cases c <;> cases decide ((w.dX.length:Int) > 400) <;> cases decide ((w.p5.length:Int) > 3000) <;> cases decide (w.qO < 0) <;> rfl
structure M.WBytes (w:World):Prop where
 n:∀ n∈w.fN,yf n.av
 d:∀ d∈w.fD,M.DB d
 p:∀ p∈w.dX,HY p
theorem XM {t:co} {j:Nat} {n:aA} (h:mS t j n=true) (hs:n.av.aD.length≤1048576) (hb:M.BldWf n.a7) (hk:n.aO.length≤1048576) (hw:yf n.av):M.NodeIn t j n:=by
 unfold mS at h
 simp only [Bool.and_eq_true] at h
 have hj:=ce h.1.2
 have nw:M.NodWf n:=⟨hs,hb,by omega,hw⟩
 cases hon:n.fM with
 | false =>
  have g:=h.2
  rw [hon] at g
  simp only [Bool.false_eq_true,if_false] at g
  unfold J5 at g
  simp only [Bool.and_eq_true,beq_iff_eq] at g
  have e:n.aO=[]:=List.eq_nil_of_length_eq_zero (by have:=g.1.2; omega)
  refine ⟨nw,?_,?_,fun _=>?_⟩
  ·unfold qK; rw [e]; exact ⟨by simp [fv],by simp [fv]⟩
  ·rw [e]; simp [fv]
  ·rw [g.1.1.1.1.1]
   unfold pZ; simp [aq]; omega
 | true =>
  have g:=h.2
  rw [hon] at g
  simp only [if_true] at g
  unfold Ui at g
  simp only [Bool.and_eq_true] at g
  obtain ⟨⟨⟨⟨⟨g1,_⟩,_⟩,_⟩,g2⟩,g3,_⟩:=g
  have ks:=J2 g2
  refine ⟨nw,ks,fun z hz=>?_,fun h0=>?_⟩
  ·have r:=ks.r z hz
   unfold fv at hz
   rw [List.mem_map] at hz
   obtain ⟨x,hx,rfl⟩:=hz
   have f:=List.all_eq_true.1 g3 x hx
   unfold qA at f
   simp only [Bool.and_eq_true,Bool.not_eq_true',decide_eq_false_iff_not] at f
   unfold pZ
   simp only [aq,Bool.and_eq_true,decide_eq_true_eq]
   omega
  ·rw [if_neg (by omega)] at g1
   exact ZR g1
theorem Vf {w:World} (h:M.WIn w) (b:M.WBytes w) (hw:vk w=true):M.WWf w:=by
 unfold vk at hw
 simp only [Bool.and_eq_true,Bool.not_eq_true',decide_eq_false_iff_not,beq_iff_eq] at hw
 obtain ⟨⟨⟨⟨⟨⟨⟨⟨⟨_,ht⟩,_⟩,ho⟩,hn⟩,hd⟩,hnet⟩,_⟩,_⟩,hall,hends⟩:=hw
 have at_:∀ (j:Nat) (n:aA),w.fN[j]?=some n→tL w n j=true:=fun j n hj=>by
  have:=RF hall j n hj
  rwa [Nat.zero_add] at this
 have parts:∀ (j:Nat) (n:aA) (d:aG),w.fN[j]?=some n→w.fD[j]?=some d→mS w.fT j n=true∧em d=true:=fun j n d hj hdj=>by
  have a:=at_ j n hj
  unfold tL at a
  rw [hdj] at a
  cases ho:w.f6[j]? with
  | none=>rw [ho] at a; cases a
  | some o =>
   rw [ho] at a
   simp only [Bool.and_eq_true] at a
   exact ⟨a.1.1.1,a.1.1.2⟩
 refine ⟨ht,by omega,by omega,fun j n hj=>?_,fun j d hj=>?_,fun p hp=>?_,by omega⟩
 ·have lt:=(List.getElem?_eq_some_iff.1 hj).1
  have hdd:w.fD[j]?=some (w.fD[j]'(by omega)):=List.getElem?_eq_getElem _
  have nn:=h.nodes n (List.mem_of_getElem? hj)
  exact XM (parts j n _ hj hdd).1 nn.1 nn.2.1 nn.2.2 (b.n n (List.mem_of_getElem? hj))
 ·have lt:=(List.getElem?_eq_some_iff.1 hj).1
  have hnn:w.fN[j]?=some (w.fN[j]'(by omega)):=List.getElem?_eq_getElem _
  exact ⟨h.disks d (List.mem_of_getElem? hj),b.d d (List.mem_of_getElem? hj),YB (parts j _ d hnn hj).2⟩
 ·have f:=List.all_eq_true.1 hends p hp
  unfold o6 at f
  simp only [Bool.and_eq_true] at f
  exact ⟨b.p p hp,f.1,f.2⟩
theorem ZX {m:af} (h:af.wf m):yf m:=fun s hs=>by
 have g:=(h.2.2.2.1.2 s hs).2.1
 exact (show -9223372036854775808≤s.fS∧s.fS≤9223372036854775807 from g).2
theorem ZY {w:World} (hw:World.wf w) (hb:eU w≤1048576):M.WBytes w:=by
 obtain ⟨_,_,_,_,h5,h6,h7,_⟩:=hw
 refine ⟨fun n hn=>ZX (h5.2 n hn).2.2.2.1,fun d hd=>?_,fun p hp=>⟨Bk (h7.2 p hp).2.2.1,?_⟩⟩
 ·have g:=h6.2 d hd
  exact ⟨Bk g.1,Bk g.2.1,fun x hx=>Bk (g.2.2.2.1.2 x hx).2.2.1⟩
 ·have h0:=hb
  unfold eU at h0
  have h8:=gE (f:=cU) hp
  have h9:cU p=p.fB.length:=rfl
  omega
theorem win {w:World} (hw:World.wf w) (hb:eU w≤1048576):M.WIn w:=by
 have k:=worldOk hw hb
 obtain ⟨_,_,_,_,h5,_⟩:=id hw
 refine ⟨qaF hw hb,k.up,k.n,k.d,k.net,fun n hn=>⟨(k.nodes n hn).1,⟨Bk (h5.2 n hn).2.2.2.2.1.2.1,?_⟩,(k.nodes n hn).2⟩,(qaE hb).ok⟩
 have h0:=hb
 unfold eU at h0
 have h8:=gE (f:=dx) hn
 have h7:dx n=n.av.aD.length+(n.a7.bg.length+n.aO.length):=rfl
 omega
def Mk (t:co) (me:Int) (n:aA) (d:aG) (p:au):Bool:=(((M.take t me n d p).sW.length:Int) == 0) && uG ⟨(M.take t me n d p).fN.fM,(M.take t me n d p).fN.bf,(M.take t me n d p).fN.be,(M.take t me n d p).fN.av,(M.take t me n d p).fN.a7,(M.take t me n d p).fN.aJ,(M.take t me n d p).fN.aO,n.a8⟩ n
def DI (w:World) (p:au):Bool:=match w.fN[p.G2.toNat]?,w.fD[p.G2.toNat]? with
 | some n,some d=>Mk w.fT p.G2 n d p
 | _,_=>false
theorem Vg {u:Nat} (hu:1099511627776≤u) {w:World} (h:M.WWf w) {k:Nat} {p:au} (hp:w.dX[k]?=some p):pN u w (k:Int)=some (DI w p)∧iU u w (k:Int)=some (DI w p):=by
 have up:=ZU h
 have pin:=h.net p (List.mem_of_getElem? hp)
 obtain ⟨j,e,hj⟩:=Wm pin.t
 have hn:w.fN[j]?=some (w.fN[j]'(by rw [h.nl]; exact hj)):=List.getElem?_eq_getElem _
 have hd:w.fD[j]?=some (w.fD[j]'(by rw [h.dl]; exact hj)):=List.getElem?_eq_getElem _
 generalize w.fN[j]'(by rw [h.nl]; exact hj)=n at hn
 generalize w.fD[j]'(by rw [h.dl]; exact hj)=d at hd
 have a:=h.nodes j n hn
 have b:=h.disks j d hd
 have g:=(Zm hj a b pin).1
 have hs:∀ q:Int,(aA.mk (M.take w.fT j n d p).fN.fM (M.take w.fT j n d p).fN.bf (M.take w.fT j n d p).fN.be (M.take w.fT j n d p).fN.av (M.take w.fT j n d p).fN.a7 (M.take w.fT j n d p).fN.aJ (M.take w.fT j n d p).fN.aO q).av.aD.length≤1048576:=fun _=>g.w.s
 have hk:=Cj g
 have s1:∀ a':aA,a'.av.aD.length≤1048576→a'.aO.length≤1048576→qk u a' n=some (uG a' n)∧qp u a' n=some (uG a' n):=fun a' h1 h2=>⟨LR hu h1 h2,LQ hu h1 h2⟩
 have s2:=s1 _ (hs n.a8) hk
 constructor
 ·unfold pN Ai DI Mk
  simp only [br,hp,e,Int.toNat_natCast,hn,hd,Option.bind_some,T8 hu (show w.fT.cx.length≤1048576 by omega) (j:Int) a.w (Cj a) b.o b.b pin.w.1 pin.w.2,s2.1]
  cases ((M.take w.fT j n d p).sW.length:Int) == 0 <;> rfl
 ·unfold iU An DI Mk
  simp only [br,hp,e,Int.toNat_natCast,hn,hd,Option.bind_some,T9 hu (show w.fT.cx.length≤1048576 by omega) (j:Int) a.w (Cj a) b.o b.b pin.w.1 pin.w.2,s2.2]
  cases ((M.take w.fT j n d p).sW.length:Int) == 0 <;> rfl
theorem Ws {u:Nat} (hu:1099511627776≤u) {w:World} (hwf:M.WWf w) (hin:M.WIn w) (ho:vk w=true):∀ (m k:Nat) (c:Int) (q:Nat),w.dX.length=k+m→m < q→∃ v,eB u q c (k:Int) w=some v∧eE u q c w (k:Int)=some v:=by
 intro m
 have hl:=hwf.len
 induction m with
 | zero =>
  intro k c q h1 h2
  obtain ⟨q,rfl⟩:∃ q',q=q'+1:=⟨q - 1,by omega⟩
  refine ⟨c,?_,?_⟩
  ·rw [eB,show decide ((k:Int) < (w.dX.length:Int))=false by simp; omega]; rfl
  ·rw [eE,show decide ((k:Int) < (w.dX.length:Int))=false by simp; omega]; rfl
 | succ m ih =>
  intro k c q h1 h2
  obtain ⟨q,rfl⟩:∃ q',q=q'+1:=⟨q - 1,by omega⟩
  have hk:w.dX[k]?=some (w.dX[k]'(by omega)):=List.getElem?_eq_getElem _
  obtain ⟨e1,e2⟩:=Vg hu hwf hk
  have hb:aW .i64 (k:Int) 1=((k+1:Nat):Int):=rA (a:=k) (b:=1) (by omega)
  rw [eB,eE,show decide ((k:Int) < (w.dX.length:Int))=true by simp; omega]
  simp only [cond_true,EN hu hin,ho,Option.bind_some,e1,e2]
  unfold t9 nr
  simp only [cond_true,e1,Option.bind_some]
  unfold t8
  simp only [hb]
  cases DI w w.dX[k] with
  | true=>exact ih (k+1) _ q (by omega) (by omega)
  | false=>exact ih (k+1) _ q (by omega) (by omega)
theorem Uj {u:Nat} (hu:1099511627776≤u) {w:World} (hw:World.wf w) (hb:eU w≤1048576):∃ v,vW u w=some v∧ww u w=some v:=by
 have hin:=win hw hb
 have hnet:=hin.net
 obtain ⟨q,rfl⟩:∃ q,u=q+1:=⟨u - 1,by omega⟩
 unfold vW ww
 simp only [OS hu hin,Option.bind_some]
 cases ho:vk w with
 | false =>
  refine ⟨0,?_,rfl⟩
  rw [eB]
  cases decide ((0:Int) < (w.dX.length:Int)) with
  | false=>rfl
  | true=>simp only [cond_true,EN hu hin,ho,Option.bind_some]; rfl
 | true =>
  have hwf:=Vf hin (ZY hw hb) ho
  obtain ⟨v,e1,e2⟩:=Ws hu hwf hin ho w.dX.length 0 0 (q+1) (by omega) (by omega)
  exact ⟨v,e1,e2⟩
theorem Vh (p0:World) (h:World.wf p0∧True):lw 1099511627776 p0=some true:=by
 obtain ⟨w0,_⟩:=h
 have hu:1099511627776≤1099511627776:=Nat.le_refl _
 unfold lw
 rw [Od hu (x:=p0) (n:=1048576) (by omega) (by omega) w0]
 simp only [Option.bind_some]
 by_cases b0:((eU p0:Nat):Int)≤1048576
 ·have c0:¬ (1048576 - ((eU p0:Nat):Int) < 0):=by omega
  rw [F6 b0]
  simp only [c0,decide_false,cond_false]
  obtain ⟨v,e1,e2⟩:=Uj hu w0 (show _≤1048576 by omega)
  simp only [Oe hu (x:=p0) (by omega),Of hu (x:=p0) (by omega),e1,e2,Option.bind_some,bne_self_eq_false,beq_self_eq_true,Bool.not_true,cond_false]
 ·rw [Li b0]; rfl
end Go.Tm.Pu
