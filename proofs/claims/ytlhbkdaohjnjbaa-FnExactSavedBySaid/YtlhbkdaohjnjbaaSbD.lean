/- Go functions as pure functions (printed). -/
import Derived.Test.YtlhbkdaohjnjbaaTm34
import Derived.Test.YtlhbkdaohjnjbaaPu1
set_option maxRecDepth 100000
set_option linter.unusedVariables false
set_option linter.unusedSimpArgs false
namespace Go.Tm
structure Sum where
  fW : Int
  fS : Int
  deriving DecidableEq
def Sum.enc (x : Sum) : List T := [.int .i64 x.fW, .int .i64 x.fS]
def Sum.wf (x : Sum) : Prop := (wInt .i64) x.fW ∧ (wInt .i64) x.fS ∧ True
structure Manifest where
  fGen : Int
  fSize : Int
  fLen : Int
  fSums : List Sum
  deriving DecidableEq
def Manifest.enc (x : Manifest) : List T := [.int .i64 x.fGen, .int .i64 x.fSize, .int .i64 x.fLen, .sl 2 (x.fSums.map Sum.enc)]
def Manifest.wf (x : Manifest) : Prop := (wInt .i64) x.fGen ∧ (wInt .i64) x.fSize ∧ (wInt .i64) x.fLen ∧ (wSl Sum.wf) x.fSums ∧ True
def laws_toByteS_j1 (u : Nat) (x2003 : List Int) : Option ((List Int)) :=
  some x2003
def laws_toByteS_l2 (u : Nat) (k_laws_toByteS_l2 : Nat) (p0 : List Int) (x5 : List Int) (x6 : Int) : Option ((List Int)) := match k_laws_toByteS_l2 with
  | 0 => none
  | k_laws_toByteS_l2 + 1 => bif decide (x6 < ((p0.length : Int))) then ((idx p0 x6).bind fun y9 => (idx x5 x6).bind fun y10 => (fun z0 z1 z2 => laws_toByteS_l2 u k_laws_toByteS_l2 z0 z1 z2) p0 (x5.set (Int.toNat x6) y9) (bAdd .i64 x6 1)) else (laws_toByteS_j1 u x5)
def laws_toByteS (u : Nat) (p0 : List Int) : Option ((List Int)) :=
  (chk (decide (0 ≤ ((p0.length : Int))) && (((p0.length : Int)) == 0 || ((p0.length : Int)) == ((p0.length : Int))))).bind fun _ => (chk (decide (Int.toNat ((p0.length : Int)) * 1 ≤ 140737488355328))).bind fun _ => laws_toByteS_l2 u u p0 (List.replicate (Int.toNat ((p0.length : Int))) (0 : Int)) 0
def laws_toByteS_l2_f (u : Nat) (p0 : List Int) (s : (List Int)) : Option ((List Int)) := (laws_toByteS_j1 u s)
def laws_toByteS_l2_b (u : Nat) (p0 : List Int) (y9 : Int) (i_ : Nat) (s : (List Int)) (k_ : ((List Int)) → Option ((List Int))) : Option ((List Int)) := (idx s (i_ : Int)).bind fun y10 => (fun z0 z1 z2 => k_ z1) p0 (s.set (Int.toNat (i_ : Int)) y9) (bAdd .i64 (i_ : Int) 1)
theorem laws_toByteS_l2_w (u : Nat) (p0 : List Int) (s : (List Int)) (k : Nat) (hn : p0.length ≤ 9223372036854775807) (hk : p0.length < k) : laws_toByteS_l2 u k p0 s 0 = Pu.wlist (laws_toByteS_l2_f u p0) (laws_toByteS_l2_b u p0) p0 0 s := Pu.wlist_0 (fun (k : Nat) (s : (List Int)) (i : Int) => laws_toByteS_l2 u k p0 s i) hn (fun _ _ _ => rfl) s hk
def spec_l1In (u : Nat) (p0 : Int) (p1 : Int) (p2 : Int) : Option Bool :=
  bif decide (p0 ≥ p1) then (some (decide (p0 ≤ p2))) else (some false)
def spec_SizeOk (u : Nat) (p0 : Int) (p1 : Int) : Option Bool :=
  (spec_l1In u p0 2 6).bind fun r1 => bif r1 then ((spec_l1In u p1 0 (bMul .i64 p0 40)).bind fun r2 => some r2) else (some false)
def spec_CeilDiv_j1 (u : Nat) (p0 : Int) (p1 : Int) (x2001 : Bool) : Option Int :=
  bif x2001 then (some 0) else ((chk (!(p1 == 0))).bind fun _ => some (bQuo .i64 (bSub .i64 (bAdd .i64 p0 p1) 1) p1))
def spec_CeilDiv (u : Nat) (p0 : Int) (p1 : Int) : Option Int :=
  (spec_l1In u p0 0 1000000000000).bind fun r1 => bif !r1 then (spec_CeilDiv_j1 u p0 p1 true) else ((spec_l1In u p1 1 1000000000000).bind fun r2 => spec_CeilDiv_j1 u p0 p1 (!r2))
def spec_Blocks (u : Nat) (p0 : Int) (p1 : Int) : Option Int :=
  (spec_SizeOk u p0 p1).bind fun r1 => bif !r1 then (some 0) else ((spec_CeilDiv u p1 p0).bind fun r2 => some r2)
def spec_Least (u : Nat) (p0 : Int) (p1 : Int) : Option Int :=
  bif decide (p1 < p0) then (some p1) else (some p0)
def spec_SpanOf (u : Nat) (p0 : Int) (p1 : Int) (p2 : Int) : Option (Int × Int) :=
  (spec_Blocks u p0 p1).bind fun r1 => (spec_l1In u p2 0 (bSub .i64 r1 1)).bind fun r2 => bif !r2 then (some ((0, 0))) else ((spec_Least u p0 (bSub .i64 p1 (bMul .i64 p2 p0))).bind fun r3 => some ((bMul .i64 p2 p0, r3)))
def spec_BlockAt (u : Nat) (p0 : List Int) (p1 : Int) (p2 : Int) : Option ((List Int) × Bool) :=
  (spec_SpanOf u p1 ((p0.length : Int)) p2).bind fun r1 => bif r1.2 == 0 then (some ((([] : List Int), false))) else ((chk (sliceOK r1.1 (bAdd .i64 r1.1 r1.2) p0.length)).bind fun _ => (chk (decide (((([] : List Int)).length + ((p0.take (Int.toNat (bAdd .i64 r1.1 r1.2))).drop (Int.toNat r1.1)).length) * 1 ≤ 140737488355328))).bind fun _ => some (((([] : List Int)) ++ ((p0.take (Int.toNat (bAdd .i64 r1.1 r1.2))).drop (Int.toNat r1.1)), true)))
def spec_WeakOf_j1 (u : Nat) (x2001 : Int) (x2002 : Int) : Option Int :=
  some (bAdd .i64 x2001 (bMul .i64 251 x2002))
def spec_WeakOf_l2 (u : Nat) (k_spec_WeakOf_l2 : Nat) (p0 : List Int) (x4 : Int) (x5 : Int) (x6 : Int) : Option Int := match k_spec_WeakOf_l2 with
  | 0 => none
  | k_spec_WeakOf_l2 + 1 => bif decide (x6 < ((p0.length : Int))) then ((idx p0 x6).bind fun y10 => (fun z0 z1 z2 z3 => spec_WeakOf_l2 u k_spec_WeakOf_l2 z0 z1 z2 z3) p0 (bRem .i64 (bAdd .i64 x4 (IntKind.wrap .i64 y10)) 251) (bRem .i64 (bAdd .i64 x5 (bRem .i64 (bAdd .i64 x4 (IntKind.wrap .i64 y10)) 251)) 251) (bAdd .i64 x6 1)) else (spec_WeakOf_j1 u x4 x5)
def spec_WeakOf (u : Nat) (p0 : List Int) : Option Int :=
  spec_WeakOf_l2 u u p0 0 0 0
def spec_WeakOf_l2_f (u : Nat) (p0 : List Int) (s : Int × Int) : Option Int := (spec_WeakOf_j1 u s.1 s.2)
def spec_WeakOf_l2_b (u : Nat) (p0 : List Int) (y10 : Int) (i_ : Nat) (s : Int × Int) (k_ : (Int × Int) → Option Int) : Option Int := (fun z0 z1 z2 z3 => k_ (z1, z2)) p0 (bRem .i64 (bAdd .i64 s.1 (IntKind.wrap .i64 y10)) 251) (bRem .i64 (bAdd .i64 s.2 (bRem .i64 (bAdd .i64 s.1 (IntKind.wrap .i64 y10)) 251)) 251) (bAdd .i64 (i_ : Int) 1)
theorem spec_WeakOf_l2_w (u : Nat) (p0 : List Int) (s : Int × Int) (k : Nat) (hn : p0.length ≤ 9223372036854775807) (hk : p0.length < k) : spec_WeakOf_l2 u k p0 s.1 s.2 0 = Pu.wlist (spec_WeakOf_l2_f u p0) (spec_WeakOf_l2_b u p0) p0 0 s := Pu.wlist_0 (fun (k : Nat) (s : Int × Int) (i : Int) => spec_WeakOf_l2 u k p0 s.1 s.2 i) hn (fun _ _ _ => rfl) s hk
def spec_SumOf_j1 (u : Nat) (p0 : List Int) (x2001 : Int) : Option Sum :=
  (spec_WeakOf u p0).bind fun r2002 => some ((Sum.mk r2002 x2001))
def spec_SumOf_l2 (u : Nat) (k_spec_SumOf_l2 : Nat) (p0 : List Int) (x3 : Int) (x4 : Int) : Option Sum := match k_spec_SumOf_l2 with
  | 0 => none
  | k_spec_SumOf_l2 + 1 => bif decide (x4 < ((p0.length : Int))) then ((idx p0 x4).bind fun y7 => (fun z0 z1 z2 => spec_SumOf_l2 u k_spec_SumOf_l2 z0 z1 z2) p0 (bAdd .i64 (bMul .i64 256 x3) (IntKind.wrap .i64 y7)) (bAdd .i64 x4 1)) else (spec_SumOf_j1 u p0 x3)
def spec_SumOf (u : Nat) (p0 : List Int) : Option Sum :=
  bif decide (((p0.length : Int)) > 6) then (some ((Sum.mk 0 0))) else (spec_SumOf_l2 u u p0 1 0)
def spec_SumOf_l2_f (u : Nat) (p0 : List Int) (s : Int) : Option Sum := (spec_SumOf_j1 u p0 s)
def spec_SumOf_l2_b (u : Nat) (p0 : List Int) (y7 : Int) (i_ : Nat) (s : Int) (k_ : Int → Option Sum) : Option Sum := (fun z0 z1 z2 => k_ z1) p0 (bAdd .i64 (bMul .i64 256 s) (IntKind.wrap .i64 y7)) (bAdd .i64 (i_ : Int) 1)
theorem spec_SumOf_l2_w (u : Nat) (p0 : List Int) (s : Int) (k : Nat) (hn : p0.length ≤ 9223372036854775807) (hk : p0.length < k) : spec_SumOf_l2 u k p0 s 0 = Pu.wlist (spec_SumOf_l2_f u p0) (spec_SumOf_l2_b u p0) p0 0 s := Pu.wlist_0 (fun (k : Nat) (s : Int) (i : Int) => spec_SumOf_l2 u k p0 s i) hn (fun _ _ _ => rfl) s hk
def spec_SumsOf_j1 (u : Nat) (x2001 : List Sum) : Option ((List Sum)) :=
  some x2001
def spec_SumsOf_l2 (u : Nat) (k_spec_SumsOf_l2 : Nat) (p0 : List Int) (p1 : Int) (x3 : List Sum) (x4 : Int) : Option ((List Sum)) := match k_spec_SumsOf_l2 with
  | 0 => none
  | k_spec_SumsOf_l2 + 1 => (spec_Blocks u p1 ((p0.length : Int))).bind fun r7 => bif decide (x4 < r7) then ((spec_BlockAt u p0 p1 x4).bind fun r8 => (spec_SumOf u r8.1).bind fun r9 => (chk (decide ((x3.length + ([r9]).length) * 16 ≤ 140737488355328))).bind fun _ => (fun z0 z1 z2 z3 => spec_SumsOf_l2 u k_spec_SumsOf_l2 z0 z1 z2 z3) p0 p1 (x3 ++ ([r9])) (bAdd .i64 x4 1)) else (spec_SumsOf_j1 u x3)
def spec_SumsOf (u : Nat) (p0 : List Int) (p1 : Int) : Option ((List Sum)) :=
  spec_SumsOf_l2 u u p0 p1 (([] : List Sum)) 0
def spec_ManOf_j1 (u : Nat) (p0 : Int) (p1 : List Int) (p2 : Int) (x2001 : Bool) : Option Manifest :=
  bif x2001 then (some ((Manifest.mk 0 0 0 ([])))) else ((spec_SumsOf u p1 p2).bind fun r2002 => some ((Manifest.mk p0 p2 ((p1.length : Int)) r2002)))
def spec_ManOf (u : Nat) (p0 : Int) (p1 : List Int) (p2 : Int) : Option Manifest :=
  (spec_l1In u p0 1 1000000).bind fun r1 => bif !r1 then (spec_ManOf_j1 u p0 p1 p2 true) else ((spec_SizeOk u p2 ((p1.length : Int))).bind fun r2 => spec_ManOf_j1 u p0 p1 p2 (!r2))
def spec_FullSet (u : Nat) (p0 : Int) : Option Int :=
  (spec_l1In u p0 0 40).bind fun r1 => bif !r1 then (some 0) else ((chk (decide (0 ≤ p0))).bind fun _ => some (bSub .i64 (bShl .i64 1 p0) 1))
def spec_l3Ok (u : Nat) (p0 : Int) : Option Bool :=
  (spec_l1In u p0 0 63000).bind fun r1 => some r1
def spec_WeakHalves (u : Nat) (p0 : Int) : Option (Int × Int) :=
  (spec_l3Ok u p0).bind fun r1 => bif !r1 then (some ((0, 0))) else (some ((bRem .i64 p0 251, bQuo .i64 p0 251)))
def spec_Wrap (u : Nat) (p0 : Int) (p1 : Int) : Option Int :=
  (spec_l1In u p1 1 1000000000000).bind fun r1 => bif !r1 then (some 0) else ((chk (!(p1 == 0))).bind fun _ => (chk (!(p1 == 0))).bind fun _ => some (bRem .i64 (bAdd .i64 (bRem .i64 p0 p1) p1) p1))
def spec_Roll_j1 (u : Nat) (p0 : Int) (p1 : Int) (p2 : Int) (p3 : Int) (x2001 : Bool) : Option Int :=
  bif x2001 then (some p0) else ((spec_WeakHalves u p0).bind fun r2002 => (spec_Wrap u (bSub .i64 r2002.2 (bMul .i64 (bRem .i64 p1 251) p2)) 251).bind fun r2003 => (spec_Wrap u (bAdd .i64 (bSub .i64 r2002.1 p2) p3) 251).bind fun r2004 => (spec_Wrap u (bAdd .i64 r2003 r2004) 251).bind fun r2005 => some (bAdd .i64 r2004 (bMul .i64 251 r2005)))
def spec_Roll (u : Nat) (p0 : Int) (p1 : Int) (p2 : Int) (p3 : Int) : Option Int :=
  (spec_l3Ok u p0).bind fun r1 => bif !r1 then (spec_Roll_j1 u p0 p1 p2 p3 true) else ((spec_l1In u p1 1 1000000000000).bind fun r2 => bif !r2 then (spec_Roll_j1 u p0 p1 p2 p3 true) else ((spec_l1In u p2 0 255).bind fun r3 => bif !r3 then (spec_Roll_j1 u p0 p1 p2 p3 true) else ((spec_l1In u p3 0 255).bind fun r4 => spec_Roll_j1 u p0 p1 p2 p3 (!r4))))
def spec_Windows_j2 (u : Nat) (x4005 : List Int) : Option ((List Int)) :=
  some x4005
def spec_Windows_l3 (u : Nat) (k_spec_Windows_l3 : Nat) (p0 : List Int) (p1 : Int) (x2008 : List Int) (x2009 : Int) (x2010 : Int) : Option ((List Int)) := match k_spec_Windows_l3 with
  | 0 => none
  | k_spec_Windows_l3 + 1 => bif decide (x2010 < ((p0.length : Int))) then ((idx p0 (bSub .i64 x2010 p1)).bind fun y2014 => (idx p0 x2010).bind fun y2015 => (spec_Roll u x2009 p1 (IntKind.wrap .i64 y2014) (IntKind.wrap .i64 y2015)).bind fun r2016 => (chk (decide ((x2008.length + ([r2016]).length) * 8 ≤ 140737488355328))).bind fun _ => (fun z0 z1 z2 z3 z4 => spec_Windows_l3 u k_spec_Windows_l3 z0 z1 z2 z3 z4) p0 p1 (x2008 ++ ([r2016])) r2016 (bAdd .i64 x2010 1)) else (spec_Windows_j2 u x2008)
def spec_Windows_j1 (u : Nat) (p0 : List Int) (p1 : Int) (x2001 : Bool) : Option ((List Int)) :=
  bif x2001 then (some (([] : List Int))) else ((chk (sliceOK 0 p1 p0.length)).bind fun _ => (spec_WeakOf u ((p0.take (Int.toNat p1)).drop (Int.toNat 0))).bind fun r2003 => (chk (decide (((([] : List Int)).length + ([r2003]).length) * 8 ≤ 140737488355328))).bind fun _ => spec_Windows_l3 u u p0 p1 ((([] : List Int)) ++ ([r2003])) r2003 p1)
def spec_Windows (u : Nat) (p0 : List Int) (p1 : Int) : Option ((List Int)) :=
  bif decide (p1 < 1) then (spec_Windows_j1 u p0 p1 true) else (spec_Windows_j1 u p0 p1 (decide (p1 > ((p0.length : Int)))))
def spec_Windows_l3_f (u : Nat) (p0 : List Int) (p1 : Int) (s : (List Int) × Int) : Option ((List Int)) := (spec_Windows_j2 u s.1)
def spec_Windows_l3_b (u : Nat) (p0 : List Int) (p1 : Int) (i_ : Nat) (s : (List Int) × Int) (k_ : ((List Int) × Int) → Option ((List Int))) : Option ((List Int)) := (idx p0 (bSub .i64 (i_ : Int) p1)).bind fun y2014 => (idx p0 (i_ : Int)).bind fun y2015 => (spec_Roll u s.2 p1 (IntKind.wrap .i64 y2014) (IntKind.wrap .i64 y2015)).bind fun r2016 => (chk (decide ((s.1.length + ([r2016]).length) * 8 ≤ 140737488355328))).bind fun _ => (fun z0 z1 z2 z3 z4 => k_ (z2, z3)) p0 p1 (s.1 ++ ([r2016])) r2016 (bAdd .i64 (i_ : Int) 1)
theorem spec_Windows_l3_w (u : Nat) (p0 : List Int) (p1 : Int) (s : (List Int) × Int) (k : Nat) (hn : (((p0.length : Int)) : Int) ≤ 9223372036854775807) (hk : Int.toNat (((p0.length : Int))) < k) : spec_Windows_l3 u k p0 p1 s.1 s.2 0 = Pu.walk (spec_Windows_l3_f u p0 p1) (spec_Windows_l3_b u p0 p1) (Int.toNat (((p0.length : Int)))) 0 s := Pu.walk_0 (fun (k : Nat) (s : (List Int) × Int) (i : Int) => spec_Windows_l3 u k p0 p1 s.1 s.2 i) hn (fun _ _ _ => rfl) s hk
def spec_FindSum_j1 (u : Nat)  : Option Int :=
  some (-1)
def spec_FindSum_j3 (u : Nat) (c_spec_FindSum_l2 : (List Int) → Int → ((List Int)) → Int → Sum → Option Int) (p0 : List Int) (p2 : Int) (r2 : (List Int)) (x4 : Int) (y6 : Int) (p1 : Sum) (x2006 : Bool) (x2007 : Bool) : Option Int :=
  bif x2007 then (some x4) else (c_spec_FindSum_l2 p0 p2 r2 (bAdd .i64 x4 1) p1)
def spec_FindSum_l2 (u : Nat) (k_spec_FindSum_l2 : Nat) (p0 : List Int) (p2 : Int) (r2 : (List Int)) (x4 : Int) (p1 : Sum) : Option Int := match k_spec_FindSum_l2 with
  | 0 => none
  | k_spec_FindSum_l2 + 1 => bif decide (x4 < ((r2.length : Int))) then ((idx r2 x4).bind fun y6 => bif y6 == p1.fW then ((chk (sliceOK x4 (bAdd .i64 x4 p2) p0.length)).bind fun _ => (spec_SumOf u ((p0.take (Int.toNat (bAdd .i64 x4 p2))).drop (Int.toNat x4))).bind fun r8 => spec_FindSum_j3 u (fun z0 z1 z2 z3 z4 => spec_FindSum_l2 u k_spec_FindSum_l2 z0 z1 z2 z3 z4) p0 p2 r2 x4 y6 p1 true ([r8.fW, r8.fS] == [p1.fW, p1.fS])) else (spec_FindSum_j3 u (fun z0 z1 z2 z3 z4 => spec_FindSum_l2 u k_spec_FindSum_l2 z0 z1 z2 z3 z4) p0 p2 r2 x4 y6 p1 false false)) else (spec_FindSum_j1 u)
def spec_FindSum (u : Nat) (p0 : List Int) (p1 : Sum) (p2 : Int) : Option Int :=
  (spec_l1In u p2 1 6).bind fun r1 => bif !r1 then (some (-1)) else ((spec_Windows u p0 p2).bind fun r2 => spec_FindSum_l2 u u p0 p2 r2 0 p1)
def spec_FindSum_l2_f (u : Nat) (p0 : List Int) (p2 : Int) (r2 : (List Int)) (p1 : Sum) (s : Unit) : Option Int := (spec_FindSum_j1 u)
def spec_FindSum_l2_b (u : Nat) (p0 : List Int) (p2 : Int) (r2 : (List Int)) (p1 : Sum) (y6 : Int) (i_ : Nat) (s : Unit) (k_ : Unit → Option Int) : Option Int := bif y6 == p1.fW then ((chk (sliceOK (i_ : Int) (bAdd .i64 (i_ : Int) p2) p0.length)).bind fun _ => (spec_SumOf u ((p0.take (Int.toNat (bAdd .i64 (i_ : Int) p2))).drop (Int.toNat (i_ : Int)))).bind fun r8 => spec_FindSum_j3 u (fun z0 z1 z2 z3 z4 => k_ ()) p0 p2 r2 (i_ : Int) y6 p1 true ([r8.fW, r8.fS] == [p1.fW, p1.fS])) else (spec_FindSum_j3 u (fun z0 z1 z2 z3 z4 => k_ ()) p0 p2 r2 (i_ : Int) y6 p1 false false)
theorem spec_FindSum_l2_w (u : Nat) (p0 : List Int) (p2 : Int) (r2 : (List Int)) (p1 : Sum) (s : Unit) (k : Nat) (hn : r2.length ≤ 9223372036854775807) (hk : r2.length < k) : spec_FindSum_l2 u k p0 p2 r2 0 p1 = Pu.wlist (spec_FindSum_l2_f u p0 p2 r2 p1) (spec_FindSum_l2_b u p0 p2 r2 p1) r2 0 s := Pu.wlist_0 (fun (k : Nat) (s : Unit) (i : Int) => spec_FindSum_l2 u k p0 p2 r2 i p1) hn (fun _ _ _ => rfl) s hk
def spec_PlaceOf_j1 (u : Nat) (p0 : List Int) (p2 : Int) (r1 : Int × Int) (x2002 : Bool) (p1 : Manifest) : Option Int :=
  bif x2002 then (some (-1)) else ((idx p1.fSums p2).bind fun y2003 => (spec_FindSum u p0 y2003 r1.2).bind fun r2004 => some r2004)
def spec_PlaceOf (u : Nat) (p0 : List Int) (p1 : Manifest) (p2 : Int) : Option Int :=
  (spec_SpanOf u p1.fSize p1.fLen p2).bind fun r1 => bif r1.2 == 0 then (spec_PlaceOf_j1 u p0 p2 r1 true p1) else (spec_PlaceOf_j1 u p0 p2 r1 (decide (p2 ≥ ((p1.fSums.length : Int)))) p1)
def spec_SetOk (u : Nat) (p0 : Int) : Option Bool :=
  (spec_l1In u p0 0 1099511627775).bind fun r1 => some r1
def spec_WithPart_j1 (u : Nat) (p0 : Int) (p1 : Int) (x2001 : Bool) : Option Int :=
  bif x2001 then (some p0) else ((chk (decide (0 ≤ p1))).bind fun _ => some (bOr .i64 p0 (bShl .i64 1 p1)))
def spec_WithPart (u : Nat) (p0 : Int) (p1 : Int) : Option Int :=
  (spec_SetOk u p0).bind fun r1 => bif !r1 then (spec_WithPart_j1 u p0 p1 true) else ((spec_l1In u p1 0 39).bind fun r2 => spec_WithPart_j1 u p0 p1 (!r2))
def spec_Found_j1 (u : Nat) (x2001 : Int) : Option Int :=
  some x2001
def spec_Found_j4 (u : Nat) (c_spec_Found_l2 : (List Int) → Int → Int → Manifest → Option Int) (p0 : List Int) (x4009 : Int) (x4 : Int) (p1 : Manifest) (x2007 : Bool) (x2008 : Bool) (r2009 : Int) : Option Int :=
  c_spec_Found_l2 p0 x4009 (bAdd .i64 x4 1) p1
def spec_Found_j3 (u : Nat) (c_spec_Found_l2 : (List Int) → Int → Int → Manifest → Option Int) (p0 : List Int) (x3 : Int) (x4 : Int) (p1 : Manifest) (x2007 : Bool) (x2008 : Bool) : Option Int :=
  bif x2008 then ((spec_PlaceOf u p0 p1 x4).bind fun r2009 => bif decide (r2009 ≥ 0) then ((spec_WithPart u x3 x4).bind fun r2010 => spec_Found_j4 u c_spec_Found_l2 p0 r2010 x4 p1 x2007 x2008 r2009) else (spec_Found_j4 u c_spec_Found_l2 p0 x3 x4 p1 x2007 x2008 r2009)) else (spec_Found_j1 u x3)
def spec_Found_l2 (u : Nat) (k_spec_Found_l2 : Nat) (p0 : List Int) (x3 : Int) (x4 : Int) (p1 : Manifest) : Option Int := match k_spec_Found_l2 with
  | 0 => none
  | k_spec_Found_l2 + 1 => bif decide (x4 < ((p1.fSums.length : Int))) then (spec_Found_j3 u (fun z0 z1 z2 z3 => spec_Found_l2 u k_spec_Found_l2 z0 z1 z2 z3) p0 x3 x4 p1 true (decide (x4 < 40))) else (spec_Found_j3 u (fun z0 z1 z2 z3 => spec_Found_l2 u k_spec_Found_l2 z0 z1 z2 z3) p0 x3 x4 p1 false false)
def spec_Found (u : Nat) (p0 : List Int) (p1 : Manifest) : Option Int :=
  spec_Found_l2 u u p0 0 0 p1
def spec_Without_j1 (u : Nat) (p0 : Int) (p1 : Int) (x2001 : Bool) : Option Int :=
  bif x2001 then (some 0) else (some (bAndNot .i64 p0 p1))
def spec_Without (u : Nat) (p0 : Int) (p1 : Int) : Option Int :=
  (spec_SetOk u p0).bind fun r1 => bif !r1 then (spec_Without_j1 u p0 p1 true) else ((spec_SetOk u p1).bind fun r2 => spec_Without_j1 u p0 p1 (!r2))
def spec_Lacking (u : Nat) (p0 : List Int) (p1 : Manifest) : Option Int :=
  (spec_Least u ((p1.fSums.length : Int)) 40).bind fun r1 => (spec_FullSet u r1).bind fun r2 => (spec_Found u p0 p1).bind fun r3 => (spec_Without u r2 r3).bind fun r4 => some r4
def spec_InSet (u : Nat) (p0 : Int) (p1 : Int) : Option Bool :=
  (spec_SetOk u p0).bind fun r1 => bif r1 then ((spec_l1In u p1 0 39).bind fun r2 => bif r2 then ((chk (decide (0 ≤ p1))).bind fun _ => some ((bAnd .i64 (bShr .i64 p0 p1) 1) == 1)) else (some false)) else (some false)
def spec_PartsIn_j1 (u : Nat) (x2001 : List Int) : Option ((List Int)) :=
  some x2001
def spec_PartsIn_j3 (u : Nat) (c_spec_PartsIn_l2 : Int → (List Int) → Int → Option ((List Int))) (p0 : Int) (x2007 : List Int) (x4 : Int) (r7 : Bool) : Option ((List Int)) :=
  c_spec_PartsIn_l2 p0 x2007 (bAdd .i64 x4 1)
def spec_PartsIn_l2 (u : Nat) (k_spec_PartsIn_l2 : Nat) (p0 : Int) (x3 : List Int) (x4 : Int) : Option ((List Int)) := match k_spec_PartsIn_l2 with
  | 0 => none
  | k_spec_PartsIn_l2 + 1 => bif decide (x4 < 40) then ((spec_InSet u p0 x4).bind fun r7 => bif r7 then ((chk (decide ((x3.length + ([x4]).length) * 8 ≤ 140737488355328))).bind fun _ => spec_PartsIn_j3 u (fun z0 z1 z2 => spec_PartsIn_l2 u k_spec_PartsIn_l2 z0 z1 z2) p0 (x3 ++ ([x4])) x4 r7) else (spec_PartsIn_j3 u (fun z0 z1 z2 => spec_PartsIn_l2 u k_spec_PartsIn_l2 z0 z1 z2) p0 x3 x4 r7)) else (spec_PartsIn_j1 u x3)
def spec_PartsIn (u : Nat) (p0 : Int) : Option ((List Int)) :=
  spec_PartsIn_l2 u u p0 (([] : List Int)) 0
def spec_PartsIn_l2_f (u : Nat) (p0 : Int) (s : (List Int)) : Option ((List Int)) := (spec_PartsIn_j1 u s)
def spec_PartsIn_l2_b (u : Nat) (p0 : Int) (i_ : Nat) (s : (List Int)) (k_ : ((List Int)) → Option ((List Int))) : Option ((List Int)) := (spec_InSet u p0 (i_ : Int)).bind fun r7 => bif r7 then ((chk (decide ((s.length + ([(i_ : Int)]).length) * 8 ≤ 140737488355328))).bind fun _ => spec_PartsIn_j3 u (fun z0 z1 z2 => k_ z1) p0 (s ++ ([(i_ : Int)])) (i_ : Int) r7) else (spec_PartsIn_j3 u (fun z0 z1 z2 => k_ z1) p0 s (i_ : Int) r7)
theorem spec_PartsIn_l2_w (u : Nat) (p0 : Int) (s : (List Int)) (k : Nat) (hn : (40 : Int) ≤ 9223372036854775807) (hk : Int.toNat (40) < k) : spec_PartsIn_l2 u k p0 s 0 = Pu.walk (spec_PartsIn_l2_f u p0) (spec_PartsIn_l2_b u p0) (Int.toNat (40)) 0 s := Pu.walk_0 (fun (k : Nat) (s : (List Int)) (i : Int) => spec_PartsIn_l2 u k p0 s i) hn (fun _ _ _ => rfl) s hk
def spec_BytesLacking_j1 (u : Nat) (x2003 : Int) : Option Int :=
  some x2003
def spec_BytesLacking_l2 (u : Nat) (k_spec_BytesLacking_l2 : Nat) (x5 : Int) (r2 : (List Int)) (x6 : Int) (p1 : Manifest) : Option Int := match k_spec_BytesLacking_l2 with
  | 0 => none
  | k_spec_BytesLacking_l2 + 1 => bif decide (x6 < ((r2.length : Int))) then ((idx r2 x6).bind fun y9 => (spec_SpanOf u p1.fSize p1.fLen y9).bind fun r10 => (fun z0 z1 z2 z3 => spec_BytesLacking_l2 u k_spec_BytesLacking_l2 z0 z1 z2 z3) (bAdd .i64 x5 r10.2) r2 (bAdd .i64 x6 1) p1) else (spec_BytesLacking_j1 u x5)
def spec_BytesLacking (u : Nat) (p0 : List Int) (p1 : Manifest) : Option Int :=
  (spec_Lacking u p0 p1).bind fun r1 => (spec_PartsIn u r1).bind fun r2 => spec_BytesLacking_l2 u u 0 r2 0 p1
def spec_BytesLacking_l2_f (u : Nat) (r2 : (List Int)) (p1 : Manifest) (s : Int) : Option Int := (spec_BytesLacking_j1 u s)
def spec_BytesLacking_l2_b (u : Nat) (r2 : (List Int)) (p1 : Manifest) (y9 : Int) (i_ : Nat) (s : Int) (k_ : Int → Option Int) : Option Int := (spec_SpanOf u p1.fSize p1.fLen y9).bind fun r10 => (fun z0 z1 z2 z3 => k_ z0) (bAdd .i64 s r10.2) r2 (bAdd .i64 (i_ : Int) 1) p1
theorem spec_BytesLacking_l2_w (u : Nat) (r2 : (List Int)) (p1 : Manifest) (s : Int) (k : Nat) (hn : r2.length ≤ 9223372036854775807) (hk : r2.length < k) : spec_BytesLacking_l2 u k s r2 0 p1 = Pu.wlist (spec_BytesLacking_l2_f u r2 p1) (spec_BytesLacking_l2_b u r2 p1) r2 0 s := Pu.wlist_0 (fun (k : Nat) (s : Int) (i : Int) => spec_BytesLacking_l2 u k s r2 i p1) hn (fun _ _ _ => rfl) s hk
def spec_SavedBy (u : Nat) (p0 : List Int) (p1 : List Int) (p2 : Int) : Option Int :=
  (spec_SizeOk u p2 ((p0.length : Int))).bind fun r1 => bif !r1 then (some 0) else ((spec_ManOf u 1 p0 p2).bind fun r2 => (spec_BytesLacking u p1 r2).bind fun r3 => some (bSub .i64 ((p0.length : Int)) r3))
def impl_within (u : Nat) (p0 : Int) (p1 : Int) (p2 : Int) : Option Bool :=
  bif decide (p0 ≥ p1) then (some (decide (p0 ≤ p2))) else (some false)
def impl_SizeOk (u : Nat) (p0 : Int) (p1 : Int) : Option Bool :=
  (impl_within u p0 2 6).bind fun r1 => bif r1 then ((impl_within u p1 0 (bMul .i64 40 p0)).bind fun r2 => some r2) else (some false)
def impl_CeilDiv_j1 (u : Nat) (p0 : Int) (p1 : Int) (x2001 : Bool) : Option Int :=
  bif x2001 then (some 0) else ((chk (!(p1 == 0))).bind fun _ => some (bQuo .i64 (bSub .i64 (bAdd .i64 p0 p1) 1) p1))
def impl_CeilDiv (u : Nat) (p0 : Int) (p1 : Int) : Option Int :=
  (impl_within u p0 0 1000000000000).bind fun r1 => bif !r1 then (impl_CeilDiv_j1 u p0 p1 true) else ((impl_within u p1 1 1000000000000).bind fun r2 => impl_CeilDiv_j1 u p0 p1 (!r2))
def impl_Blocks (u : Nat) (p0 : Int) (p1 : Int) : Option Int :=
  (impl_SizeOk u p0 p1).bind fun r1 => bif !r1 then (some 0) else ((impl_CeilDiv u p1 p0).bind fun r2 => some r2)
def impl_SpanOf (u : Nat) (p0 : Int) (p1 : Int) (p2 : Int) : Option (Int × Int) :=
  (impl_Blocks u p0 p1).bind fun r1 => (impl_within u p2 0 (bSub .i64 r1 1)).bind fun r2 => bif !r2 then (some ((0, 0))) else (some ((bMul .i64 p2 p0, if (bSub .i64 p1 (bMul .i64 p2 p0)) < p0 then (bSub .i64 p1 (bMul .i64 p2 p0)) else p0)))
def impl_cloned (u : Nat) (p0 : List Int) : Option ((List Int)) :=
  (chk (decide (0 ≤ ((p0.length : Int))) && (0 == 0 || 0 == ((p0.length : Int))))).bind fun _ => (chk (decide (Int.toNat ((p0.length : Int)) * 1 ≤ 140737488355328))).bind fun _ => (chk (decide (((List.replicate (Int.toNat 0) (0 : Int)).length + p0.length) * 1 ≤ 140737488355328))).bind fun _ => some ((List.replicate (Int.toNat 0) (0 : Int)) ++ p0)
def impl_Slice_j1 (u : Nat) (p0 : List Int) (p1 : Int) (p2 : Int) (x2001 : Bool) : Option ((List Int) × Bool) :=
  bif x2001 then (some (([], false))) else ((chk (sliceOK p1 (bAdd .i64 p1 p2) p0.length)).bind fun _ => (impl_cloned u ((p0.take (Int.toNat (bAdd .i64 p1 p2))).drop (Int.toNat p1))).bind fun r2003 => some ((r2003, true)))
def impl_Slice (u : Nat) (p0 : List Int) (p1 : Int) (p2 : Int) : Option ((List Int) × Bool) :=
  (impl_within u p1 0 ((p0.length : Int))).bind fun r1 => bif !r1 then (impl_Slice_j1 u p0 p1 p2 true) else ((impl_within u p2 0 (bSub .i64 ((p0.length : Int)) p1)).bind fun r2 => impl_Slice_j1 u p0 p1 p2 (!r2))
def impl_BlockAt (u : Nat) (p0 : List Int) (p1 : Int) (p2 : Int) : Option ((List Int) × Bool) :=
  (impl_SpanOf u p1 ((p0.length : Int)) p2).bind fun r1 => bif r1.2 == 0 then (some (([], false))) else ((impl_Slice u p0 r1.1 r1.2).bind fun r2 => some ((r2.1, r2.2)))
def impl_Wrap (u : Nat) (p0 : Int) (p1 : Int) : Option Int :=
  (impl_within u p1 1 1000000000000).bind fun r1 => bif !r1 then (some 0) else ((chk (!(p1 == 0))).bind fun _ => (chk (!(p1 == 0))).bind fun _ => some (bRem .i64 (bAdd .i64 (bRem .i64 p0 p1) p1) p1))
def impl_weak (u : Nat) (p0 : Int) (p1 : Int) : Option Int :=
  (impl_Wrap u p0 251).bind fun r1 => (impl_Wrap u p1 251).bind fun r2 => some (bAdd .i64 r1 (bMul .i64 251 r2))
def impl_WeakOf_j1 (u : Nat) (x2001 : Int) (x2002 : Int) : Option Int :=
  (impl_weak u x2001 x2002).bind fun r2003 => some r2003
def impl_WeakOf_l2 (u : Nat) (k_impl_WeakOf_l2 : Nat) (x4 : Int) (x5 : Int) (p0 : List Int) (x6 : Int) : Option Int := match k_impl_WeakOf_l2 with
  | 0 => none
  | k_impl_WeakOf_l2 + 1 => bif decide (x6 < ((p0.length : Int))) then ((idx p0 x6).bind fun y10 => (fun z0 z1 z2 z3 => impl_WeakOf_l2 u k_impl_WeakOf_l2 z0 z1 z2 z3) (bRem .i64 (bAdd .i64 x4 (IntKind.wrap .i64 y10)) 251) (bRem .i64 (bAdd .i64 x5 (bRem .i64 (bAdd .i64 x4 (IntKind.wrap .i64 y10)) 251)) 251) p0 (bAdd .i64 x6 1)) else (impl_WeakOf_j1 u x4 x5)
def impl_WeakOf (u : Nat) (p0 : List Int) : Option Int :=
  impl_WeakOf_l2 u u 0 0 p0 0
def impl_WeakOf_l2_f (u : Nat) (p0 : List Int) (s : Int × Int) : Option Int := (impl_WeakOf_j1 u s.1 s.2)
def impl_WeakOf_l2_b (u : Nat) (p0 : List Int) (y10 : Int) (i_ : Nat) (s : Int × Int) (k_ : (Int × Int) → Option Int) : Option Int := (fun z0 z1 z2 z3 => k_ (z0, z1)) (bRem .i64 (bAdd .i64 s.1 (IntKind.wrap .i64 y10)) 251) (bRem .i64 (bAdd .i64 s.2 (bRem .i64 (bAdd .i64 s.1 (IntKind.wrap .i64 y10)) 251)) 251) p0 (bAdd .i64 (i_ : Int) 1)
theorem impl_WeakOf_l2_w (u : Nat) (p0 : List Int) (s : Int × Int) (k : Nat) (hn : p0.length ≤ 9223372036854775807) (hk : p0.length < k) : impl_WeakOf_l2 u k s.1 s.2 p0 0 = Pu.wlist (impl_WeakOf_l2_f u p0) (impl_WeakOf_l2_b u p0) p0 0 s := Pu.wlist_0 (fun (k : Nat) (s : Int × Int) (i : Int) => impl_WeakOf_l2 u k s.1 s.2 p0 i) hn (fun _ _ _ => rfl) s hk
def impl_SumOf_j1 (u : Nat) (p0 : List Int) (x2001 : Int) : Option Sum :=
  (impl_WeakOf u p0).bind fun r2002 => some ((Sum.mk r2002 x2001))
def impl_SumOf_l2 (u : Nat) (k_impl_SumOf_l2 : Nat) (p0 : List Int) (x3 : Int) (x4 : Int) : Option Sum := match k_impl_SumOf_l2 with
  | 0 => none
  | k_impl_SumOf_l2 + 1 => bif decide (x4 < ((p0.length : Int))) then ((idx p0 x4).bind fun y7 => (fun z0 z1 z2 => impl_SumOf_l2 u k_impl_SumOf_l2 z0 z1 z2) p0 (bOr .i64 (bShl .i64 x3 8) (IntKind.wrap .i64 y7)) (bAdd .i64 x4 1)) else (impl_SumOf_j1 u p0 x3)
def impl_SumOf (u : Nat) (p0 : List Int) : Option Sum :=
  bif decide (((p0.length : Int)) > 6) then (some ((Sum.mk 0 0))) else (impl_SumOf_l2 u u p0 1 0)
def impl_SumOf_l2_f (u : Nat) (p0 : List Int) (s : Int) : Option Sum := (impl_SumOf_j1 u p0 s)
def impl_SumOf_l2_b (u : Nat) (p0 : List Int) (y7 : Int) (i_ : Nat) (s : Int) (k_ : Int → Option Sum) : Option Sum := (fun z0 z1 z2 => k_ z1) p0 (bOr .i64 (bShl .i64 s 8) (IntKind.wrap .i64 y7)) (bAdd .i64 (i_ : Int) 1)
theorem impl_SumOf_l2_w (u : Nat) (p0 : List Int) (s : Int) (k : Nat) (hn : p0.length ≤ 9223372036854775807) (hk : p0.length < k) : impl_SumOf_l2 u k p0 s 0 = Pu.wlist (impl_SumOf_l2_f u p0) (impl_SumOf_l2_b u p0) p0 0 s := Pu.wlist_0 (fun (k : Nat) (s : Int) (i : Int) => impl_SumOf_l2 u k p0 s i) hn (fun _ _ _ => rfl) s hk
def impl_SumsOf_j1 (u : Nat) (x2001 : List Sum) : Option ((List Sum)) :=
  some x2001
def impl_SumsOf_l2 (u : Nat) (k_impl_SumsOf_l2 : Nat) (p0 : List Int) (p1 : Int) (x4 : List Sum) (r1 : Int) (x5 : Int) : Option ((List Sum)) := match k_impl_SumsOf_l2 with
  | 0 => none
  | k_impl_SumsOf_l2 + 1 => bif decide (x5 < r1) then ((impl_BlockAt u p0 p1 x5).bind fun r8 => (impl_SumOf u r8.1).bind fun r9 => (chk (decide ((x4.length + ([r9]).length) * 16 ≤ 140737488355328))).bind fun _ => (fun z0 z1 z2 z3 z4 => impl_SumsOf_l2 u k_impl_SumsOf_l2 z0 z1 z2 z3 z4) p0 p1 (x4 ++ ([r9])) r1 (bAdd .i64 x5 1)) else (impl_SumsOf_j1 u x4)
def impl_SumsOf (u : Nat) (p0 : List Int) (p1 : Int) : Option ((List Sum)) :=
  (impl_Blocks u p1 ((p0.length : Int))).bind fun r1 => impl_SumsOf_l2 u u p0 p1 (([] : List Sum)) r1 0
def impl_SumsOf_l2_f (u : Nat) (p0 : List Int) (p1 : Int) (r1 : Int) (s : (List Sum)) : Option ((List Sum)) := (impl_SumsOf_j1 u s)
def impl_SumsOf_l2_b (u : Nat) (p0 : List Int) (p1 : Int) (r1 : Int) (i_ : Nat) (s : (List Sum)) (k_ : ((List Sum)) → Option ((List Sum))) : Option ((List Sum)) := (impl_BlockAt u p0 p1 (i_ : Int)).bind fun r8 => (impl_SumOf u r8.1).bind fun r9 => (chk (decide ((s.length + ([r9]).length) * 16 ≤ 140737488355328))).bind fun _ => (fun z0 z1 z2 z3 z4 => k_ z2) p0 p1 (s ++ ([r9])) r1 (bAdd .i64 (i_ : Int) 1)
theorem impl_SumsOf_l2_w (u : Nat) (p0 : List Int) (p1 : Int) (r1 : Int) (s : (List Sum)) (k : Nat) (hn : (r1 : Int) ≤ 9223372036854775807) (hk : Int.toNat (r1) < k) : impl_SumsOf_l2 u k p0 p1 s r1 0 = Pu.walk (impl_SumsOf_l2_f u p0 p1 r1) (impl_SumsOf_l2_b u p0 p1 r1) (Int.toNat (r1)) 0 s := Pu.walk_0 (fun (k : Nat) (s : (List Sum)) (i : Int) => impl_SumsOf_l2 u k p0 p1 s r1 i) hn (fun _ _ _ => rfl) s hk
def impl_ManOf_j1 (u : Nat) (p0 : Int) (p1 : List Int) (p2 : Int) (x2001 : Bool) : Option Manifest :=
  bif x2001 then (some ((Manifest.mk 0 0 0 ([])))) else ((impl_SumsOf u p1 p2).bind fun r2002 => some ((Manifest.mk p0 p2 ((p1.length : Int)) r2002)))
def impl_ManOf (u : Nat) (p0 : Int) (p1 : List Int) (p2 : Int) : Option Manifest :=
  (impl_within u p0 1 1000000).bind fun r1 => bif !r1 then (impl_ManOf_j1 u p0 p1 p2 true) else ((impl_SizeOk u p2 ((p1.length : Int))).bind fun r2 => impl_ManOf_j1 u p0 p1 p2 (!r2))
def impl_FindSum_j1 (u : Nat)  : Option Int :=
  some (-1)
def impl_FindSum_l2 (u : Nat) (k_impl_FindSum_l2 : Nat) (p0 : List Int) (p2 : Int) (x3 : Int) (p1 : Sum) : Option Int := match k_impl_FindSum_l2 with
  | 0 => none
  | k_impl_FindSum_l2 + 1 => bif decide ((bAdd .i64 x3 p2) ≤ ((p0.length : Int))) then ((chk (sliceOK x3 (bAdd .i64 x3 p2) p0.length)).bind fun _ => (impl_SumOf u ((p0.take (Int.toNat (bAdd .i64 x3 p2))).drop (Int.toNat x3))).bind fun r6 => bif [r6.fW, r6.fS] == [p1.fW, p1.fS] then (some x3) else ((fun z0 z1 z2 z3 => impl_FindSum_l2 u k_impl_FindSum_l2 z0 z1 z2 z3) p0 p2 (bAdd .i64 x3 1) p1)) else (impl_FindSum_j1 u)
def impl_FindSum (u : Nat) (p0 : List Int) (p1 : Sum) (p2 : Int) : Option Int :=
  (impl_within u p2 1 6).bind fun r1 => bif !r1 then (some (-1)) else (impl_FindSum_l2 u u p0 p2 0 p1)
def impl_PlaceOf (u : Nat) (p0 : List Int) (p1 : Manifest) (p2 : Int) : Option Int :=
  (impl_SpanOf u p1.fSize p1.fLen p2).bind fun r1 => (impl_within u p2 0 (bSub .i64 ((p1.fSums.length : Int)) 1)).bind fun r2 => bif !r2 then (some (-1)) else ((idx p1.fSums p2).bind fun y3 => (impl_FindSum u p0 y3 r1.2).bind fun r4 => some r4)
def impl_placed_j1 (u : Nat) (x2001 : Int) : Option Int :=
  some x2001
def impl_placed_j3 (u : Nat) (c_impl_placed_l2 : (List Int) → Bool → Int → Manifest → Int → Option Int) (p0 : List Int) (p2 : Bool) (x2007 : Int) (x4 : Int) (p1 : Manifest) (r7 : Int) : Option Int :=
  c_impl_placed_l2 p0 p2 x2007 p1 (bAdd .i64 x4 1)
def impl_placed_l2 (u : Nat) (k_impl_placed_l2 : Nat) (p0 : List Int) (p2 : Bool) (x3 : Int) (p1 : Manifest) (x4 : Int) : Option Int := match k_impl_placed_l2 with
  | 0 => none
  | k_impl_placed_l2 + 1 => bif decide (x4 < (if ((p1.fSums.length : Int)) < 40 then ((p1.fSums.length : Int)) else 40)) then ((impl_PlaceOf u p0 p1 x4).bind fun r7 => bif (decide (r7 ≥ 0)) == p2 then ((chk (decide (0 ≤ x4))).bind fun _ => impl_placed_j3 u (fun z0 z1 z2 z3 z4 => impl_placed_l2 u k_impl_placed_l2 z0 z1 z2 z3 z4) p0 p2 (bOr .i64 x3 (bShl .i64 1 x4)) x4 p1 r7) else (impl_placed_j3 u (fun z0 z1 z2 z3 z4 => impl_placed_l2 u k_impl_placed_l2 z0 z1 z2 z3 z4) p0 p2 x3 x4 p1 r7)) else (impl_placed_j1 u x3)
def impl_placed (u : Nat) (p0 : List Int) (p1 : Manifest) (p2 : Bool) : Option Int :=
  impl_placed_l2 u u p0 p2 0 p1 0
def impl_placed_l2_f (u : Nat) (p0 : List Int) (p2 : Bool) (p1 : Manifest) (s : Int) : Option Int := (impl_placed_j1 u s)
def impl_placed_l2_b (u : Nat) (p0 : List Int) (p2 : Bool) (p1 : Manifest) (i_ : Nat) (s : Int) (k_ : Int → Option Int) : Option Int := (impl_PlaceOf u p0 p1 (i_ : Int)).bind fun r7 => bif (decide (r7 ≥ 0)) == p2 then ((chk (decide (0 ≤ (i_ : Int)))).bind fun _ => impl_placed_j3 u (fun z0 z1 z2 z3 z4 => k_ z2) p0 p2 (bOr .i64 s (bShl .i64 1 (i_ : Int))) (i_ : Int) p1 r7) else (impl_placed_j3 u (fun z0 z1 z2 z3 z4 => k_ z2) p0 p2 s (i_ : Int) p1 r7)
theorem impl_placed_l2_w (u : Nat) (p0 : List Int) (p2 : Bool) (p1 : Manifest) (s : Int) (k : Nat) (hn : ((if ((p1.fSums.length : Int)) < 40 then ((p1.fSums.length : Int)) else 40) : Int) ≤ 9223372036854775807) (hk : Int.toNat ((if ((p1.fSums.length : Int)) < 40 then ((p1.fSums.length : Int)) else 40)) < k) : impl_placed_l2 u k p0 p2 s p1 0 = Pu.walk (impl_placed_l2_f u p0 p2 p1) (impl_placed_l2_b u p0 p2 p1) (Int.toNat ((if ((p1.fSums.length : Int)) < 40 then ((p1.fSums.length : Int)) else 40))) 0 s := Pu.walk_0 (fun (k : Nat) (s : Int) (i : Int) => impl_placed_l2 u k p0 p2 s p1 i) hn (fun _ _ _ => rfl) s hk
def impl_Lacking (u : Nat) (p0 : List Int) (p1 : Manifest) : Option Int :=
  (impl_placed u p0 p1 false).bind fun r1 => some r1
def impl_SetOk (u : Nat) (p0 : Int) : Option Bool :=
  (impl_within u p0 0 1099511627775).bind fun r1 => some r1
def impl_isPlace (u : Nat) (p0 : Int) : Option Bool :=
  (impl_within u p0 0 39).bind fun r1 => some r1
def impl_InSet (u : Nat) (p0 : Int) (p1 : Int) : Option Bool :=
  (impl_SetOk u p0).bind fun r1 => bif r1 then ((impl_isPlace u p1).bind fun r2 => bif r2 then ((chk (decide (0 ≤ p1))).bind fun _ => some ((bAnd .i64 (bShr .i64 p0 p1) 1) == 1)) else (some false)) else (some false)
def impl_PartsIn_j1 (u : Nat) (x2001 : List Int) : Option ((List Int)) :=
  some x2001
def impl_PartsIn_j3 (u : Nat) (c_impl_PartsIn_l2 : Int → (List Int) → Int → Option ((List Int))) (p0 : Int) (x2007 : List Int) (x4 : Int) (r7 : Bool) : Option ((List Int)) :=
  c_impl_PartsIn_l2 p0 x2007 (bAdd .i64 x4 1)
def impl_PartsIn_l2 (u : Nat) (k_impl_PartsIn_l2 : Nat) (p0 : Int) (x3 : List Int) (x4 : Int) : Option ((List Int)) := match k_impl_PartsIn_l2 with
  | 0 => none
  | k_impl_PartsIn_l2 + 1 => bif decide (x4 < 40) then ((impl_InSet u p0 x4).bind fun r7 => bif r7 then ((chk (decide ((x3.length + ([x4]).length) * 8 ≤ 140737488355328))).bind fun _ => impl_PartsIn_j3 u (fun z0 z1 z2 => impl_PartsIn_l2 u k_impl_PartsIn_l2 z0 z1 z2) p0 (x3 ++ ([x4])) x4 r7) else (impl_PartsIn_j3 u (fun z0 z1 z2 => impl_PartsIn_l2 u k_impl_PartsIn_l2 z0 z1 z2) p0 x3 x4 r7)) else (impl_PartsIn_j1 u x3)
def impl_PartsIn (u : Nat) (p0 : Int) : Option ((List Int)) :=
  impl_PartsIn_l2 u u p0 (([] : List Int)) 0
def impl_PartsIn_l2_f (u : Nat) (p0 : Int) (s : (List Int)) : Option ((List Int)) := (impl_PartsIn_j1 u s)
def impl_PartsIn_l2_b (u : Nat) (p0 : Int) (i_ : Nat) (s : (List Int)) (k_ : ((List Int)) → Option ((List Int))) : Option ((List Int)) := (impl_InSet u p0 (i_ : Int)).bind fun r7 => bif r7 then ((chk (decide ((s.length + ([(i_ : Int)]).length) * 8 ≤ 140737488355328))).bind fun _ => impl_PartsIn_j3 u (fun z0 z1 z2 => k_ z1) p0 (s ++ ([(i_ : Int)])) (i_ : Int) r7) else (impl_PartsIn_j3 u (fun z0 z1 z2 => k_ z1) p0 s (i_ : Int) r7)
theorem impl_PartsIn_l2_w (u : Nat) (p0 : Int) (s : (List Int)) (k : Nat) (hn : (40 : Int) ≤ 9223372036854775807) (hk : Int.toNat (40) < k) : impl_PartsIn_l2 u k p0 s 0 = Pu.walk (impl_PartsIn_l2_f u p0) (impl_PartsIn_l2_b u p0) (Int.toNat (40)) 0 s := Pu.walk_0 (fun (k : Nat) (s : (List Int)) (i : Int) => impl_PartsIn_l2 u k p0 s i) hn (fun _ _ _ => rfl) s hk
def impl_BytesLacking_j1 (u : Nat) (x2001 : Int) : Option Int :=
  some x2001
def impl_BytesLacking_l2 (u : Nat) (k_impl_BytesLacking_l2 : Nat) (x5 : Int) (r2 : (List Int)) (x6 : Int) (p1 : Manifest) : Option Int := match k_impl_BytesLacking_l2 with
  | 0 => none
  | k_impl_BytesLacking_l2 + 1 => bif decide (x6 < ((r2.length : Int))) then ((idx r2 x6).bind fun y9 => (impl_SpanOf u p1.fSize p1.fLen y9).bind fun r10 => (fun z0 z1 z2 z3 => impl_BytesLacking_l2 u k_impl_BytesLacking_l2 z0 z1 z2 z3) (bAdd .i64 x5 r10.2) r2 (bAdd .i64 x6 1) p1) else (impl_BytesLacking_j1 u x5)
def impl_BytesLacking (u : Nat) (p0 : List Int) (p1 : Manifest) : Option Int :=
  (impl_Lacking u p0 p1).bind fun r1 => (impl_PartsIn u r1).bind fun r2 => impl_BytesLacking_l2 u u 0 r2 0 p1
def impl_BytesLacking_l2_f (u : Nat) (r2 : (List Int)) (p1 : Manifest) (s : Int) : Option Int := (impl_BytesLacking_j1 u s)
def impl_BytesLacking_l2_b (u : Nat) (r2 : (List Int)) (p1 : Manifest) (y9 : Int) (i_ : Nat) (s : Int) (k_ : Int → Option Int) : Option Int := (impl_SpanOf u p1.fSize p1.fLen y9).bind fun r10 => (fun z0 z1 z2 z3 => k_ z0) (bAdd .i64 s r10.2) r2 (bAdd .i64 (i_ : Int) 1) p1
theorem impl_BytesLacking_l2_w (u : Nat) (r2 : (List Int)) (p1 : Manifest) (s : Int) (k : Nat) (hn : r2.length ≤ 9223372036854775807) (hk : r2.length < k) : impl_BytesLacking_l2 u k s r2 0 p1 = Pu.wlist (impl_BytesLacking_l2_f u r2 p1) (impl_BytesLacking_l2_b u r2 p1) r2 0 s := Pu.wlist_0 (fun (k : Nat) (s : Int) (i : Int) => impl_BytesLacking_l2 u k s r2 i p1) hn (fun _ _ _ => rfl) s hk
def impl_SavedBy (u : Nat) (p0 : List Int) (p1 : List Int) (p2 : Int) : Option Int :=
  (impl_SizeOk u p2 ((p0.length : Int))).bind fun r1 => bif !r1 then (some 0) else ((impl_ManOf u 1 p0 p2).bind fun r2 => (impl_BytesLacking u p1 r2).bind fun r3 => some (bSub .i64 ((p0.length : Int)) r3))
def laws_eqByteS_j1 (u : Nat)  : Option Bool :=
  some true
def laws_eqByteS_l2 (u : Nat) (k_laws_eqByteS_l2 : Nat) (p0 : List Int) (p1 : List Int) (x2 : Int) : Option Bool := match k_laws_eqByteS_l2 with
  | 0 => none
  | k_laws_eqByteS_l2 + 1 => bif decide (x2 < ((p0.length : Int))) then ((idx p0 x2).bind fun y4 => (idx p1 x2).bind fun y5 => bif y4 != y5 then (some false) else ((fun z0 z1 z2 => laws_eqByteS_l2 u k_laws_eqByteS_l2 z0 z1 z2) p0 p1 (bAdd .i64 x2 1))) else (laws_eqByteS_j1 u)
def laws_eqByteS (u : Nat) (p0 : List Int) (p1 : List Int) : Option Bool :=
  bif ((p0.length : Int)) != ((p1.length : Int)) then (some false) else (laws_eqByteS_l2 u u p0 p1 0)
def laws_eqByteS_l2_f (u : Nat) (p0 : List Int) (p1 : List Int) (s : Unit) : Option Bool := (laws_eqByteS_j1 u)
def laws_eqByteS_l2_b (u : Nat) (p0 : List Int) (p1 : List Int) (y4 : Int) (i_ : Nat) (s : Unit) (k_ : Unit → Option Bool) : Option Bool := (idx p1 (i_ : Int)).bind fun y5 => bif y4 != y5 then (some false) else ((fun z0 z1 z2 => k_ ()) p0 p1 (bAdd .i64 (i_ : Int) 1))
theorem laws_eqByteS_l2_w (u : Nat) (p0 : List Int) (p1 : List Int) (s : Unit) (k : Nat) (hn : p0.length ≤ 9223372036854775807) (hk : p0.length < k) : laws_eqByteS_l2 u k p0 p1 0 = Pu.wlist (laws_eqByteS_l2_f u p0 p1) (laws_eqByteS_l2_b u p0 p1) p0 0 s := Pu.wlist_0 (fun (k : Nat) (s : Unit) (i : Int) => laws_eqByteS_l2 u k p0 p1 i) hn (fun _ _ _ => rfl) s hk
def laws_FnExactSavedBy (u : Nat) (p0 : List Int) (p1 : List Int) (p2 : Int) : Option Bool :=
  bif decide (((p0.length : Int)) > 1048576) then (some true) else (bif decide (((p1.length : Int)) > 1048576) then (some true) else ((laws_toByteS u p0).bind fun r1 => (laws_toByteS u p1).bind fun r2 => (spec_SavedBy u r1 r2 p2).bind fun r3 => (laws_toByteS u p0).bind fun r4 => (laws_toByteS u p1).bind fun r5 => (impl_SavedBy u r4 r5 p2).bind fun r6 => bif r6 != r3 then (some false) else ((laws_toByteS u p0).bind fun r7 => (laws_eqByteS u r4 r7).bind fun r8 => bif !r8 then (some false) else ((laws_toByteS u p1).bind fun r9 => (laws_eqByteS u r5 r9).bind fun r10 => bif !r10 then (some false) else (some true)))))
end Go.Tm
