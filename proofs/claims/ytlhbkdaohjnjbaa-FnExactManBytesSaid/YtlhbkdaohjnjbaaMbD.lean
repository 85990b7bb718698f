/- Go functions as pure functions (printed). -/
import Derived.Test.YtlhbkdaohjnjbaaTm34
import Derived.Test.YtlhbkdaohjnjbaaPu1
set_option maxRecDepth 100000
set_option linter.unusedVariables false
set_option linter.unusedSimpArgs false
namespace Go.Tm
structure Sum where
  fW : Int
  fS : Int
def Sum.enc (x : Sum) : List T := [.int .i64 x.fW, .int .i64 x.fS]
def Sum.wf (x : Sum) : Prop := (wInt .i64) x.fW ∧ (wInt .i64) x.fS ∧ True
structure Manifest where
  fGen : Int
  fSize : Int
  fLen : Int
  fSums : List Sum
def Manifest.enc (x : Manifest) : List T := [.int .i64 x.fGen, .int .i64 x.fSize, .int .i64 x.fLen, .sl 2 (x.fSums.map Sum.enc)]
def Manifest.wf (x : Manifest) : Prop := (wInt .i64) x.fGen ∧ (wInt .i64) x.fSize ∧ (wInt .i64) x.fLen ∧ (wSl Sum.wf) x.fSums ∧ True
def laws_szSumS (u : Nat) (p0 : List Sum) (p1 : Int) : Option Int :=
  bif decide ((bSub .i64 p1 ((p0.length : Int))) < 0) then (some (-1)) else (some (bSub .i64 p1 ((p0.length : Int))))
def laws_szManifest (u : Nat) (p0 : Manifest) (p1 : Int) : Option Int :=
  (laws_szSumS u p0.fSums p1).bind fun r1 => bif decide (r1 < 0) then (some (-1)) else (some r1)
def laws_toSum (u : Nat) (p0 : Sum) : Option Sum :=
  some p0
def laws_toSumS_j1 (u : Nat) (x2003 : List Sum) : Option ((List Sum)) :=
  some x2003
def laws_toSumS_l2 (u : Nat) (k_laws_toSumS_l2 : Nat) (p0 : List Sum) (x5 : List Sum) (x6 : Int) : Option ((List Sum)) := match k_laws_toSumS_l2 with
  | 0 => none
  | k_laws_toSumS_l2 + 1 => bif decide (x6 < ((p0.length : Int))) then ((idx p0 x6).bind fun y9 => (laws_toSum u y9).bind fun r10 => (idx x5 x6).bind fun y11 => (fun z0 z1 z2 => laws_toSumS_l2 u k_laws_toSumS_l2 z0 z1 z2) p0 (x5.set (Int.toNat x6) r10) (bAdd .i64 x6 1)) else (laws_toSumS_j1 u x5)
def laws_toSumS (u : Nat) (p0 : List Sum) : Option ((List Sum)) :=
  (chk (decide (0 ≤ ((p0.length : Int))) && (((p0.length : Int)) == 0 || ((p0.length : Int)) == ((p0.length : Int))))).bind fun _ => (chk (decide (Int.toNat ((p0.length : Int)) * 16 ≤ 140737488355328))).bind fun _ => laws_toSumS_l2 u u p0 (List.replicate (Int.toNat ((p0.length : Int))) ((Sum.mk 0 0) : Sum)) 0
def laws_toSumS_l2_f (u : Nat) (p0 : List Sum) (s : (List Sum)) : Option ((List Sum)) := (laws_toSumS_j1 u s)
def laws_toSumS_l2_b (u : Nat) (p0 : List Sum) (y9 : Sum) (i_ : Nat) (s : (List Sum)) (k_ : ((List Sum)) → Option ((List Sum))) : Option ((List Sum)) := (laws_toSum u y9).bind fun r10 => (idx s (i_ : Int)).bind fun y11 => (fun z0 z1 z2 => k_ z1) p0 (s.set (Int.toNat (i_ : Int)) r10) (bAdd .i64 (i_ : Int) 1)
theorem laws_toSumS_l2_w (u : Nat) (p0 : List Sum) (s : (List Sum)) (k : Nat) (hn : p0.length ≤ 9223372036854775807) (hk : p0.length < k) : laws_toSumS_l2 u k p0 s 0 = Pu.wlist (laws_toSumS_l2_f u p0) (laws_toSumS_l2_b u p0) p0 0 s := Pu.wlist_0 (fun (k : Nat) (s : (List Sum)) (i : Int) => laws_toSumS_l2 u k p0 s i) hn (fun _ _ _ => rfl) s hk
def laws_toManifest (u : Nat) (p0 : Manifest) : Option Manifest :=
  (laws_toSumS u p0.fSums).bind fun r1 => some ((Manifest.mk p0.fGen p0.fSize p0.fLen r1))
def spec_l1In (u : Nat) (p0 : Int) (p1 : Int) (p2 : Int) : Option Bool :=
  bif decide (p0 ≥ p1) then (some (decide (p0 ≤ p2))) else (some false)
def spec_SizeOk (u : Nat) (p0 : Int) (p1 : Int) : Option Bool :=
  (spec_l1In u p0 2 6).bind fun r1 => bif r1 then ((spec_l1In u p1 0 (bMul .i64 p0 40)).bind fun r2 => some r2) else (some false)
def spec_CeilDiv_j1 (u : Nat) (p0 : Int) (p1 : Int) (x2001 : Bool) : Option Int :=
  bif x2001 then (some 0) else ((chk (!(p1 == 0))).bind fun _ => some (bQuo .i64 (bSub .i64 (bAdd .i64 p0 p1) 1) p1))
def spec_CeilDiv (u : Nat) (p0 : Int) (p1 : Int) : Option Int :=
  (spec_l1In u p0 0 1000000000000).bind fun r1 => bif !r1 then (spec_CeilDiv_j1 u p0 p1 true) else ((spec_l1In u p1 1 1000000000000).bind fun r2 => spec_CeilDiv_j1 u p0 p1 (!r2))
def spec_Blocks (u : Nat) (p0 : Int) (p1 : Int) : Option Int :=
  (spec_SizeOk u p0 p1).bind fun r1 => bif !r1 then (some 0) else ((spec_CeilDiv u p1 p0).bind fun r2 => some r2)
def spec_BytesOf_j1 (u : Nat) (x2002 : List Int) : Option ((List Int) × Bool) :=
  some ((x2002, true))
def spec_BytesOf_l2 (u : Nat) (k_spec_BytesOf_l2 : Nat) (x4 : Int) (x5 : List Int) : Option ((List Int) × Bool) := match k_spec_BytesOf_l2 with
  | 0 => none
  | k_spec_BytesOf_l2 + 1 => bif decide (x4 > 1) then (bif decide (x4 < 256) then (some ((([] : List Int), false))) else ((chk (decide ((([IntKind.wrap .u8 (bAnd .i64 x4 255)]).length + x5.length) * 1 ≤ 140737488355328))).bind fun _ => (fun z0 z1 => spec_BytesOf_l2 u k_spec_BytesOf_l2 z0 z1) (bShr .i64 x4 8) (([IntKind.wrap .u8 (bAnd .i64 x4 255)]) ++ x5))) else (spec_BytesOf_j1 u x5)
def spec_BytesOf (u : Nat) (p0 : Int) : Option ((List Int) × Bool) :=
  (spec_l1In u p0 1 562949953421311).bind fun r1 => bif !r1 then (some ((([] : List Int), false))) else (spec_BytesOf_l2 u u p0 (([] : List Int)))
def spec_Least (u : Nat) (p0 : Int) (p1 : Int) : Option Int :=
  bif decide (p1 < p0) then (some p1) else (some p0)
def spec_SpanOf (u : Nat) (p0 : Int) (p1 : Int) (p2 : Int) : Option (Int × Int) :=
  (spec_Blocks u p0 p1).bind fun r1 => (spec_l1In u p2 0 (bSub .i64 r1 1)).bind fun r2 => bif !r2 then (some ((0, 0))) else ((spec_Least u p0 (bSub .i64 p1 (bMul .i64 p2 p0))).bind fun r3 => some ((bMul .i64 p2 p0, r3)))
def spec_WeakOf_j1 (u : Nat) (x2001 : Int) (x2002 : Int) : Option Int :=
  some (bAdd .i64 x2001 (bMul .i64 251 x2002))
def spec_WeakOf_l2 (u : Nat) (k_spec_WeakOf_l2 : Nat) (p0 : List Int) (x4 : Int) (x5 : Int) (x6 : Int) : Option Int := match k_spec_WeakOf_l2 with
  | 0 => none
  | k_spec_WeakOf_l2 + 1 => bif decide (x6 < ((p0.length : Int))) then ((idx p0 x6).bind fun y10 => (fun z0 z1 z2 z3 => spec_WeakOf_l2 u k_spec_WeakOf_l2 z0 z1 z2 z3) p0 (bRem .i64 (bAdd .i64 x4 (IntKind.wrap .i64 y10)) 251) (bRem .i64 (bAdd .i64 x5 (bRem .i64 (bAdd .i64 x4 (IntKind.wrap .i64 y10)) 251)) 251) (bAdd .i64 x6 1)) else (spec_WeakOf_j1 u x4 x5)
def spec_WeakOf (u : Nat) (p0 : List Int) : Option Int :=
  spec_WeakOf_l2 u u p0 0 0 0
def spec_WeakOf_l2_f (u : Nat) (p0 : List Int) (s : Int × Int) : Option Int := (spec_WeakOf_j1 u s.1 s.2)
def spec_WeakOf_l2_b (u : Nat) (p0 : List Int) (y10 : Int) (i_ : Nat) (s : Int × Int) (k_ : (Int × Int) → Option Int) : Option Int := (fun z0 z1 z2 z3 => k_ (z1, z2)) p0 (bRem .i64 (bAdd .i64 s.1 (IntKind.wrap .i64 y10)) 251) (bRem .i64 (bAdd .i64 s.2 (bRem .i64 (bAdd .i64 s.1 (IntKind.wrap .i64 y10)) 251)) 251) (bAdd .i64 (i_ : Int) 1)
theorem spec_WeakOf_l2_w (u : Nat) (p0 : List Int) (s : Int × Int) (k : Nat) (hn : p0.length ≤ 9223372036854775807) (hk : p0.length < k) : spec_WeakOf_l2 u k p0 s.1 s.2 0 = Pu.wlist (spec_WeakOf_l2_f u p0) (spec_WeakOf_l2_b u p0) p0 0 s := Pu.wlist_0 (fun (k : Nat) (s : Int × Int) (i : Int) => spec_WeakOf_l2 u k p0 s.1 s.2 i) hn (fun _ _ _ => rfl) s hk
def spec_SumOf_j1 (u : Nat) (p0 : List Int) (x2001 : Int) : Option Sum :=
  (spec_WeakOf u p0).bind fun r2002 => some ((Sum.mk r2002 x2001))
def spec_SumOf_l2 (u : Nat) (k_spec_SumOf_l2 : Nat) (p0 : List Int) (x3 : Int) (x4 : Int) : Option Sum := match k_spec_SumOf_l2 with
  | 0 => none
  | k_spec_SumOf_l2 + 1 => bif decide (x4 < ((p0.length : Int))) then ((idx p0 x4).bind fun y7 => (fun z0 z1 z2 => spec_SumOf_l2 u k_spec_SumOf_l2 z0 z1 z2) p0 (bAdd .i64 (bMul .i64 256 x3) (IntKind.wrap .i64 y7)) (bAdd .i64 x4 1)) else (spec_SumOf_j1 u p0 x3)
def spec_SumOf (u : Nat) (p0 : List Int) : Option Sum :=
  bif decide (((p0.length : Int)) > 6) then (some ((Sum.mk 0 0))) else (spec_SumOf_l2 u u p0 1 0)
def spec_SumOf_l2_f (u : Nat) (p0 : List Int) (s : Int) : Option Sum := (spec_SumOf_j1 u p0 s)
def spec_SumOf_l2_b (u : Nat) (p0 : List Int) (y7 : Int) (i_ : Nat) (s : Int) (k_ : Int → Option Sum) : Option Sum := (fun z0 z1 z2 => k_ z1) p0 (bAdd .i64 (bMul .i64 256 s) (IntKind.wrap .i64 y7)) (bAdd .i64 (i_ : Int) 1)
theorem spec_SumOf_l2_w (u : Nat) (p0 : List Int) (s : Int) (k : Nat) (hn : p0.length ≤ 9223372036854775807) (hk : p0.length < k) : spec_SumOf_l2 u k p0 s 0 = Pu.wlist (spec_SumOf_l2_f u p0) (spec_SumOf_l2_b u p0) p0 0 s := Pu.wlist_0 (fun (k : Nat) (s : Int) (i : Int) => spec_SumOf_l2 u k p0 s i) hn (fun _ _ _ => rfl) s hk
def spec_ManOk_j2 (u : Nat)  : Option Bool :=
  some true
def spec_ManOk_j4 (u : Nat) (c_spec_ManOk_l3 : Int → Manifest → Option Bool) (x2003 : Int) (r2006 : (List Int) × Bool) (r2007 : Int × Int) (p0 : Manifest) (y2005 : Sum) (x4008 : Bool) (x4009 : Bool) (x4010 : Bool) (x4011 : Bool) : Option Bool :=
  bif x4011 then (some false) else (c_spec_ManOk_l3 (bAdd .i64 x2003 1) p0)
def spec_ManOk_l3 (u : Nat) (k_spec_ManOk_l3 : Nat) (x2003 : Int) (p0 : Manifest) : Option Bool := match k_spec_ManOk_l3 with
  | 0 => none
  | k_spec_ManOk_l3 + 1 => bif decide (x2003 < ((p0.fSums.length : Int))) then ((idx p0.fSums x2003).bind fun y2005 => (spec_BytesOf u y2005.fS).bind fun r2006 => (spec_SpanOf u p0.fSize p0.fLen x2003).bind fun r2007 => bif !r2006.2 then (spec_ManOk_j4 u (fun z0 z1 => spec_ManOk_l3 u k_spec_ManOk_l3 z0 z1) x2003 r2006 r2007 p0 y2005 true true true true) else (bif ((r2006.1.length : Int)) != r2007.2 then (spec_ManOk_j4 u (fun z0 z1 => spec_ManOk_l3 u k_spec_ManOk_l3 z0 z1) x2003 r2006 r2007 p0 y2005 false (((r2006.1.length : Int)) != r2007.2) true true) else ((spec_SumOf u r2006.1).bind fun r2008 => (idx p0.fSums x2003).bind fun y2009 => spec_ManOk_j4 u (fun z0 z1 => spec_ManOk_l3 u k_spec_ManOk_l3 z0 z1) x2003 r2006 r2007 p0 y2005 false (((r2006.1.length : Int)) != r2007.2) false (!([r2008.fW, r2008.fS] == [y2009.fW, y2009.fS]))))) else (spec_ManOk_j2 u)
def spec_ManOk_j1 (u : Nat) (x2001 : Bool) (p0 : Manifest) : Option Bool :=
  bif x2001 then (some false) else (spec_ManOk_l3 u u 0 p0)
def spec_ManOk (u : Nat) (p0 : Manifest) : Option Bool :=
  bif p0.fGen == 0 then (bif p0.fSize == 0 then (bif p0.fLen == 0 then (some (((p0.fSums.length : Int)) == 0)) else (some false)) else (some false)) else ((spec_l1In u p0.fGen 1 1000000).bind fun r1 => bif !r1 then (spec_ManOk_j1 u true p0) else ((spec_SizeOk u p0.fSize p0.fLen).bind fun r2 => bif !r2 then (spec_ManOk_j1 u true p0) else ((spec_Blocks u p0.fSize p0.fLen).bind fun r3 => spec_ManOk_j1 u (((p0.fSums.length : Int)) != r3) p0)))
def spec_ManOk_l3_f (u : Nat) (p0 : Manifest) (s : Unit) : Option Bool := (spec_ManOk_j2 u)
def spec_ManOk_l3_b (u : Nat) (p0 : Manifest) (y2005 : Sum) (i_ : Nat) (s : Unit) (k_ : Unit → Option Bool) : Option Bool := (spec_BytesOf u y2005.fS).bind fun r2006 => (spec_SpanOf u p0.fSize p0.fLen (i_ : Int)).bind fun r2007 => bif !r2006.2 then (spec_ManOk_j4 u (fun z0 z1 => k_ ()) (i_ : Int) r2006 r2007 p0 y2005 true true true true) else (bif ((r2006.1.length : Int)) != r2007.2 then (spec_ManOk_j4 u (fun z0 z1 => k_ ()) (i_ : Int) r2006 r2007 p0 y2005 false (((r2006.1.length : Int)) != r2007.2) true true) else ((spec_SumOf u r2006.1).bind fun r2008 => (idx p0.fSums (i_ : Int)).bind fun y2009 => spec_ManOk_j4 u (fun z0 z1 => k_ ()) (i_ : Int) r2006 r2007 p0 y2005 false (((r2006.1.length : Int)) != r2007.2) false (!([r2008.fW, r2008.fS] == [y2009.fW, y2009.fS]))))
theorem spec_ManOk_l3_w (u : Nat) (p0 : Manifest) (s : Unit) (k : Nat) (hn : p0.fSums.length ≤ 9223372036854775807) (hk : p0.fSums.length < k) : spec_ManOk_l3 u k 0 p0 = Pu.wlist (spec_ManOk_l3_f u p0) (spec_ManOk_l3_b u p0) p0.fSums 0 s := Pu.wlist_0 (fun (k : Nat) (s : Unit) (i : Int) => spec_ManOk_l3 u k i p0) hn (fun _ _ _ => rfl) s hk
def spec_PutVar_j1 (u : Nat) (x2003 : Int) (x2004 : List Int) : Option ((List Int)) :=
  (chk (decide ((x2004.length + ([IntKind.wrap .u8 x2003]).length) * 1 ≤ 140737488355328))).bind fun _ => some (x2004 ++ ([IntKind.wrap .u8 x2003]))
def spec_PutVar_l2 (u : Nat) (k_spec_PutVar_l2 : Nat) (x5 : Int) (x6 : List Int) : Option ((List Int)) := match k_spec_PutVar_l2 with
  | 0 => none
  | k_spec_PutVar_l2 + 1 => bif decide (x5 > 127) then ((chk (decide ((x6.length + ([IntKind.wrap .u8 (bOr .i64 (bAnd .i64 x5 127) 128)]).length) * 1 ≤ 140737488355328))).bind fun _ => (fun z0 z1 => spec_PutVar_l2 u k_spec_PutVar_l2 z0 z1) (bShr .i64 x5 7) (x6 ++ ([IntKind.wrap .u8 (bOr .i64 (bAnd .i64 x5 127) 128)]))) else (spec_PutVar_j1 u x5 x6)
def spec_PutVar (u : Nat) (p0 : List Int) (p1 : Int) : Option ((List Int)) :=
  (chk (decide (((([] : List Int)).length + p0.length) * 1 ≤ 140737488355328))).bind fun _ => (spec_l1In u p1 0 1000000000000).bind fun r2 => bif !r2 then (some ((([] : List Int)) ++ p0)) else (spec_PutVar_l2 u u p1 ((([] : List Int)) ++ p0))
def spec_l6PutSum_j1 (u : Nat) (x2001 : List Int) (x2002 : Int) : Option ((List Int)) :=
  (chk (decide ((x2001.length + ([IntKind.wrap .u8 x2002]).length) * 1 ≤ 140737488355328))).bind fun _ => some (x2001 ++ ([IntKind.wrap .u8 x2002]))
def spec_l6PutSum_l2 (u : Nat) (k_spec_l6PutSum_l2 : Nat) (x3 : List Int) (x4 : Int) : Option ((List Int)) := match k_spec_l6PutSum_l2 with
  | 0 => none
  | k_spec_l6PutSum_l2 + 1 => bif decide (x4 > 127) then ((chk (decide ((x3.length + ([IntKind.wrap .u8 (bOr .i64 (bAnd .i64 x4 127) 128)]).length) * 1 ≤ 140737488355328))).bind fun _ => (fun z0 z1 => spec_l6PutSum_l2 u k_spec_l6PutSum_l2 z0 z1) (x3 ++ ([IntKind.wrap .u8 (bOr .i64 (bAnd .i64 x4 127) 128)])) (bShr .i64 x4 7)) else (spec_l6PutSum_j1 u x3 x4)
def spec_l6PutSum (u : Nat) (p0 : List Int) (p1 : Int) : Option ((List Int)) :=
  spec_l6PutSum_l2 u u p0 p1
def spec_PutMan_j1 (u : Nat) (x2006 : List Int) : Option ((List Int)) :=
  some x2006
def spec_PutMan_l2 (u : Nat) (k_spec_PutMan_l2 : Nat) (x8 : List Int) (x9 : Int) (p1 : Manifest) : Option ((List Int)) := match k_spec_PutMan_l2 with
  | 0 => none
  | k_spec_PutMan_l2 + 1 => bif decide (x9 < ((p1.fSums.length : Int))) then ((idx p1.fSums x9).bind fun y12 => (spec_l6PutSum u x8 y12.fS).bind fun r13 => (fun z0 z1 z2 => spec_PutMan_l2 u k_spec_PutMan_l2 z0 z1 z2) r13 (bAdd .i64 x9 1) p1) else (spec_PutMan_j1 u x8)
def spec_PutMan (u : Nat) (p0 : List Int) (p1 : Manifest) : Option ((List Int)) :=
  (chk (decide (((([] : List Int)).length + p0.length) * 1 ≤ 140737488355328))).bind fun _ => (spec_ManOk u p1).bind fun r2 => bif !r2 then (some ((([] : List Int)) ++ p0)) else ((spec_PutVar u ((([] : List Int)) ++ p0) p1.fGen).bind fun r3 => (spec_PutVar u r3 p1.fSize).bind fun r4 => (spec_PutVar u r4 p1.fLen).bind fun r5 => spec_PutMan_l2 u u r5 0 p1)
def spec_PutMan_l2_f (u : Nat) (p1 : Manifest) (s : (List Int)) : Option ((List Int)) := (spec_PutMan_j1 u s)
def spec_PutMan_l2_b (u : Nat) (p1 : Manifest) (y12 : Sum) (i_ : Nat) (s : (List Int)) (k_ : ((List Int)) → Option ((List Int))) : Option ((List Int)) := (spec_l6PutSum u s y12.fS).bind fun r13 => (fun z0 z1 z2 => k_ z0) r13 (bAdd .i64 (i_ : Int) 1) p1
theorem spec_PutMan_l2_w (u : Nat) (p1 : Manifest) (s : (List Int)) (k : Nat) (hn : p1.fSums.length ≤ 9223372036854775807) (hk : p1.fSums.length < k) : spec_PutMan_l2 u k s 0 p1 = Pu.wlist (spec_PutMan_l2_f u p1) (spec_PutMan_l2_b u p1) p1.fSums 0 s := Pu.wlist_0 (fun (k : Nat) (s : (List Int)) (i : Int) => spec_PutMan_l2 u k s i p1) hn (fun _ _ _ => rfl) s hk
def spec_ManBytes (u : Nat) (p0 : Manifest) : Option Int :=
  (spec_PutMan u (([] : List Int)) p0).bind fun r1 => some ((r1.length : Int))
def impl_isZeroMan (u : Nat) (p0 : Manifest) : Option Bool :=
  bif p0.fGen == 0 then (bif p0.fSize == 0 then (bif p0.fLen == 0 then (some (((p0.fSums.length : Int)) == 0)) else (some false)) else (some false)) else (some false)
def impl_within (u : Nat) (p0 : Int) (p1 : Int) (p2 : Int) : Option Bool :=
  bif decide (p0 ≥ p1) then (some (decide (p0 ≤ p2))) else (some false)
def impl_SizeOk (u : Nat) (p0 : Int) (p1 : Int) : Option Bool :=
  (impl_within u p0 2 6).bind fun r1 => bif r1 then ((impl_within u p1 0 (bMul .i64 40 p0)).bind fun r2 => some r2) else (some false)
def impl_CeilDiv_j1 (u : Nat) (p0 : Int) (p1 : Int) (x2001 : Bool) : Option Int :=
  bif x2001 then (some 0) else ((chk (!(p1 == 0))).bind fun _ => some (bQuo .i64 (bSub .i64 (bAdd .i64 p0 p1) 1) p1))
def impl_CeilDiv (u : Nat) (p0 : Int) (p1 : Int) : Option Int :=
  (impl_within u p0 0 1000000000000).bind fun r1 => bif !r1 then (impl_CeilDiv_j1 u p0 p1 true) else ((impl_within u p1 1 1000000000000).bind fun r2 => impl_CeilDiv_j1 u p0 p1 (!r2))
def impl_Blocks (u : Nat) (p0 : Int) (p1 : Int) : Option Int :=
  (impl_SizeOk u p0 p1).bind fun r1 => bif !r1 then (some 0) else ((impl_CeilDiv u p1 p0).bind fun r2 => some r2)
def impl_BytesOf_j3 (u : Nat) (x6005 : List Int) : Option ((List Int) × Bool) :=
  some ((x6005, true))
def impl_BytesOf_l4 (u : Nat) (k_impl_BytesOf_l4 : Nat) (p0 : Int) (x2001 : Int) (x4007 : List Int) (x4008 : Int) : Option ((List Int) × Bool) := match k_impl_BytesOf_l4 with
  | 0 => none
  | k_impl_BytesOf_l4 + 1 => bif decide (x4008 < (((List.replicate (Int.toNat x2001) (0 : Int)).length : Int))) then ((chk (decide (0 ≤ (bMul .i64 8 (bSub .i64 (bSub .i64 x2001 1) x4008))))).bind fun _ => (idx x4007 x4008).bind fun y4012 => (fun z0 z1 z2 z3 => impl_BytesOf_l4 u k_impl_BytesOf_l4 z0 z1 z2 z3) p0 x2001 (x4007.set (Int.toNat x4008) (IntKind.wrap .u8 (bShr .i64 p0 (bMul .i64 8 (bSub .i64 (bSub .i64 x2001 1) x4008))))) (bAdd .i64 x4008 1)) else (impl_BytesOf_j3 u x4007)
def impl_BytesOf_j2 (u : Nat) (p0 : Int) (x2001 : Int) (x4002 : Bool) : Option ((List Int) × Bool) :=
  bif x4002 then (some (([], false))) else ((chk (decide (0 ≤ x2001) && (x2001 == 0 || x2001 == x2001))).bind fun _ => (chk (decide (Int.toNat x2001 * 1 ≤ 140737488355328))).bind fun _ => impl_BytesOf_l4 u u p0 x2001 (List.replicate (Int.toNat x2001) (0 : Int)) 0)
def impl_BytesOf_j1 (u : Nat) (p0 : Int) (x2001 : Int) : Option ((List Int) × Bool) :=
  bif decide (p0 < 1) then (impl_BytesOf_j2 u p0 x2001 true) else ((chk (decide (0 ≤ (bMul .i64 8 x2001)))).bind fun _ => impl_BytesOf_j2 u p0 x2001 ((bShr .i64 p0 (bMul .i64 8 x2001)) != 1))
def impl_BytesOf_j6 (u : Nat) (c_impl_BytesOf_l5 : Int → Int → Option ((List Int) × Bool)) (p0 : Int) (x2 : Int) (x2004 : Bool) (x2005 : Bool) : Option ((List Int) × Bool) :=
  bif x2005 then (c_impl_BytesOf_l5 p0 (bAdd .i64 x2 1)) else (impl_BytesOf_j1 u p0 x2)
def impl_BytesOf_l5 (u : Nat) (k_impl_BytesOf_l5 : Nat) (p0 : Int) (x2 : Int) : Option ((List Int) × Bool) := match k_impl_BytesOf_l5 with
  | 0 => none
  | k_impl_BytesOf_l5 + 1 => bif decide (x2 < 6) then ((chk (decide (0 ≤ (bMul .i64 8 x2)))).bind fun _ => impl_BytesOf_j6 u (fun z0 z1 => impl_BytesOf_l5 u k_impl_BytesOf_l5 z0 z1) p0 x2 true (decide ((bShr .i64 p0 (bMul .i64 8 x2)) > 1))) else (impl_BytesOf_j6 u (fun z0 z1 => impl_BytesOf_l5 u k_impl_BytesOf_l5 z0 z1) p0 x2 false false)
def impl_BytesOf (u : Nat) (p0 : Int) : Option ((List Int) × Bool) :=
  impl_BytesOf_l5 u u p0 0
def impl_BytesOf_l4_f (u : Nat) (p0 : Int) (x2001 : Int) (s : (List Int)) : Option ((List Int) × Bool) := (impl_BytesOf_j3 u s)
def impl_BytesOf_l4_b (u : Nat) (p0 : Int) (x2001 : Int) (i_ : Nat) (s : (List Int)) (k_ : ((List Int)) → Option ((List Int) × Bool)) : Option ((List Int) × Bool) := (chk (decide (0 ≤ (bMul .i64 8 (bSub .i64 (bSub .i64 x2001 1) (i_ : Int)))))).bind fun _ => (idx s (i_ : Int)).bind fun y4012 => (fun z0 z1 z2 z3 => k_ z2) p0 x2001 (s.set (Int.toNat (i_ : Int)) (IntKind.wrap .u8 (bShr .i64 p0 (bMul .i64 8 (bSub .i64 (bSub .i64 x2001 1) (i_ : Int)))))) (bAdd .i64 (i_ : Int) 1)
theorem impl_BytesOf_l4_w (u : Nat) (p0 : Int) (x2001 : Int) (s : (List Int)) (k : Nat) (hn : (((List.replicate (Int.toNat x2001) (0 : Int)).length : Int)) ≤ 9223372036854775807) (hk : ((((List.replicate (Int.toNat x2001) (0 : Int)).length : Int))).toNat < k) : impl_BytesOf_l4 u k p0 x2001 s 0 = Pu.walk (impl_BytesOf_l4_f u p0 x2001) (impl_BytesOf_l4_b u p0 x2001) ((((List.replicate (Int.toNat x2001) (0 : Int)).length : Int))).toNat 0 s := Pu.walk_0 (fun (k : Nat) (s : (List Int)) (i : Int) => impl_BytesOf_l4 u k p0 x2001 s i) hn (fun _ _ _ => rfl) s hk
def impl_SpanOf (u : Nat) (p0 : Int) (p1 : Int) (p2 : Int) : Option (Int × Int) :=
  (impl_Blocks u p0 p1).bind fun r1 => (impl_within u p2 0 (bSub .i64 r1 1)).bind fun r2 => bif !r2 then (some ((0, 0))) else (some ((bMul .i64 p2 p0, if (bSub .i64 p1 (bMul .i64 p2 p0)) < p0 then (bSub .i64 p1 (bMul .i64 p2 p0)) else p0)))
def impl_Wrap (u : Nat) (p0 : Int) (p1 : Int) : Option Int :=
  (impl_within u p1 1 1000000000000).bind fun r1 => bif !r1 then (some 0) else ((chk (!(p1 == 0))).bind fun _ => (chk (!(p1 == 0))).bind fun _ => some (bRem .i64 (bAdd .i64 (bRem .i64 p0 p1) p1) p1))
def impl_weak (u : Nat) (p0 : Int) (p1 : Int) : Option Int :=
  (impl_Wrap u p0 251).bind fun r1 => (impl_Wrap u p1 251).bind fun r2 => some (bAdd .i64 r1 (bMul .i64 251 r2))
def impl_WeakOf_j1 (u : Nat) (x2001 : Int) (x2002 : Int) : Option Int :=
  (impl_weak u x2001 x2002).bind fun r2003 => some r2003
def impl_WeakOf_l2 (u : Nat) (k_impl_WeakOf_l2 : Nat) (x4 : Int) (x5 : Int) (p0 : List Int) (x6 : Int) : Option Int := match k_impl_WeakOf_l2 with
  | 0 => none
  | k_impl_WeakOf_l2 + 1 => bif decide (x6 < ((p0.length : Int))) then ((idx p0 x6).bind fun y10 => (fun z0 z1 z2 z3 => impl_WeakOf_l2 u k_impl_WeakOf_l2 z0 z1 z2 z3) (bRem .i64 (bAdd .i64 x4 (IntKind.wrap .i64 y10)) 251) (bRem .i64 (bAdd .i64 x5 (bRem .i64 (bAdd .i64 x4 (IntKind.wrap .i64 y10)) 251)) 251) p0 (bAdd .i64 x6 1)) else (impl_WeakOf_j1 u x4 x5)
def impl_WeakOf (u : Nat) (p0 : List Int) : Option Int :=
  impl_WeakOf_l2 u u 0 0 p0 0
def impl_WeakOf_l2_f (u : Nat) (p0 : List Int) (s : Int × Int) : Option Int := (impl_WeakOf_j1 u s.1 s.2)
def impl_WeakOf_l2_b (u : Nat) (p0 : List Int) (y10 : Int) (i_ : Nat) (s : Int × Int) (k_ : (Int × Int) → Option Int) : Option Int := (fun z0 z1 z2 z3 => k_ (z0, z1)) (bRem .i64 (bAdd .i64 s.1 (IntKind.wrap .i64 y10)) 251) (bRem .i64 (bAdd .i64 s.2 (bRem .i64 (bAdd .i64 s.1 (IntKind.wrap .i64 y10)) 251)) 251) p0 (bAdd .i64 (i_ : Int) 1)
theorem impl_WeakOf_l2_w (u : Nat) (p0 : List Int) (s : Int × Int) (k : Nat) (hn : p0.length ≤ 9223372036854775807) (hk : p0.length < k) : impl_WeakOf_l2 u k s.1 s.2 p0 0 = Pu.wlist (impl_WeakOf_l2_f u p0) (impl_WeakOf_l2_b u p0) p0 0 s := Pu.wlist_0 (fun (k : Nat) (s : Int × Int) (i : Int) => impl_WeakOf_l2 u k s.1 s.2 p0 i) hn (fun _ _ _ => rfl) s hk
def impl_ManOk_j2 (u : Nat)  : Option Bool :=
  some true
def impl_ManOk_j4 (u : Nat) (c_impl_ManOk_l3 : Manifest → Int → Option Bool) (x2004 : Int) (r2007 : (List Int) × Bool) (r2008 : Int × Int) (p0 : Manifest) (y2006 : Sum) (x4009 : Bool) (x4010 : Bool) (x4011 : Bool) (x4012 : Bool) : Option Bool :=
  bif x4012 then (some false) else (c_impl_ManOk_l3 p0 (bAdd .i64 x2004 1))
def impl_ManOk_l3 (u : Nat) (k_impl_ManOk_l3 : Nat) (p0 : Manifest) (x2004 : Int) : Option Bool := match k_impl_ManOk_l3 with
  | 0 => none
  | k_impl_ManOk_l3 + 1 => bif decide (x2004 < ((p0.fSums.length : Int))) then ((idx p0.fSums x2004).bind fun y2006 => (impl_BytesOf u y2006.fS).bind fun r2007 => (impl_SpanOf u p0.fSize p0.fLen x2004).bind fun r2008 => bif !r2007.2 then (impl_ManOk_j4 u (fun z0 z1 => impl_ManOk_l3 u k_impl_ManOk_l3 z0 z1) x2004 r2007 r2008 p0 y2006 true true true true) else (bif ((r2007.1.length : Int)) != r2008.2 then (impl_ManOk_j4 u (fun z0 z1 => impl_ManOk_l3 u k_impl_ManOk_l3 z0 z1) x2004 r2007 r2008 p0 y2006 false (((r2007.1.length : Int)) != r2008.2) true true) else ((impl_WeakOf u r2007.1).bind fun r2009 => impl_ManOk_j4 u (fun z0 z1 => impl_ManOk_l3 u k_impl_ManOk_l3 z0 z1) x2004 r2007 r2008 p0 y2006 false (((r2007.1.length : Int)) != r2008.2) false (r2009 != y2006.fW)))) else (impl_ManOk_j2 u)
def impl_ManOk_j1 (u : Nat) (x2002 : Bool) (p0 : Manifest) : Option Bool :=
  bif x2002 then (some false) else (impl_ManOk_l3 u u p0 0)
def impl_ManOk (u : Nat) (p0 : Manifest) : Option Bool :=
  (impl_isZeroMan u p0).bind fun r1 => bif r1 then (some true) else ((impl_within u p0.fGen 1 1000000).bind fun r2 => bif !r2 then (impl_ManOk_j1 u true p0) else ((impl_SizeOk u p0.fSize p0.fLen).bind fun r3 => bif !r3 then (impl_ManOk_j1 u true p0) else ((impl_Blocks u p0.fSize p0.fLen).bind fun r4 => impl_ManOk_j1 u (((p0.fSums.length : Int)) != r4) p0)))
def impl_ManOk_l3_f (u : Nat) (p0 : Manifest) (s : Unit) : Option Bool := (impl_ManOk_j2 u)
def impl_ManOk_l3_b (u : Nat) (p0 : Manifest) (y2006 : Sum) (i_ : Nat) (s : Unit) (k_ : Unit → Option Bool) : Option Bool := (impl_BytesOf u y2006.fS).bind fun r2007 => (impl_SpanOf u p0.fSize p0.fLen (i_ : Int)).bind fun r2008 => bif !r2007.2 then (impl_ManOk_j4 u (fun z0 z1 => k_ ()) (i_ : Int) r2007 r2008 p0 y2006 true true true true) else (bif ((r2007.1.length : Int)) != r2008.2 then (impl_ManOk_j4 u (fun z0 z1 => k_ ()) (i_ : Int) r2007 r2008 p0 y2006 false (((r2007.1.length : Int)) != r2008.2) true true) else ((impl_WeakOf u r2007.1).bind fun r2009 => impl_ManOk_j4 u (fun z0 z1 => k_ ()) (i_ : Int) r2007 r2008 p0 y2006 false (((r2007.1.length : Int)) != r2008.2) false (r2009 != y2006.fW)))
theorem impl_ManOk_l3_w (u : Nat) (p0 : Manifest) (s : Unit) (k : Nat) (hn : p0.fSums.length ≤ 9223372036854775807) (hk : p0.fSums.length < k) : impl_ManOk_l3 u k p0 0 = Pu.wlist (impl_ManOk_l3_f u p0) (impl_ManOk_l3_b u p0) p0.fSums 0 s := Pu.wlist_0 (fun (k : Nat) (s : Unit) (i : Int) => impl_ManOk_l3 u k p0 i) hn (fun _ _ _ => rfl) s hk
def impl_cloned (u : Nat) (p0 : List Int) : Option ((List Int)) :=
  (chk (decide (0 ≤ ((p0.length : Int))) && (0 == 0 || 0 == ((p0.length : Int))))).bind fun _ => (chk (decide (Int.toNat ((p0.length : Int)) * 1 ≤ 140737488355328))).bind fun _ => (chk (decide (((List.replicate (Int.toNat 0) (0 : Int)).length + p0.length) * 1 ≤ 140737488355328))).bind fun _ => some ((List.replicate (Int.toNat 0) (0 : Int)) ++ p0)
def impl_appendVar_j1 (u : Nat) (x2001 : List Int) (x2002 : Int) : Option ((List Int)) :=
  (chk (decide ((x2001.length + ([IntKind.wrap .u8 x2002]).length) * 1 ≤ 140737488355328))).bind fun _ => some (x2001 ++ ([IntKind.wrap .u8 x2002]))
def impl_appendVar_l2 (u : Nat) (k_impl_appendVar_l2 : Nat) (x3 : List Int) (x4 : Int) : Option ((List Int)) := match k_impl_appendVar_l2 with
  | 0 => none
  | k_impl_appendVar_l2 + 1 => bif decide (x4 ≥ 128) then ((chk (decide ((x3.length + ([bOr .u8 (IntKind.wrap .u8 x4) 128]).length) * 1 ≤ 140737488355328))).bind fun _ => (fun z0 z1 => impl_appendVar_l2 u k_impl_appendVar_l2 z0 z1) (x3 ++ ([bOr .u8 (IntKind.wrap .u8 x4) 128])) (bShr .i64 x4 7)) else (impl_appendVar_j1 u x3 x4)
def impl_appendVar (u : Nat) (p0 : List Int) (p1 : Int) : Option ((List Int)) :=
  impl_appendVar_l2 u u p0 p1
def impl_PutVar (u : Nat) (p0 : List Int) (p1 : Int) : Option ((List Int)) :=
  (impl_cloned u p0).bind fun r1 => (impl_within u p1 0 1000000000000).bind fun r2 => bif !r2 then (some r1) else ((impl_appendVar u r1 p1).bind fun r3 => some r3)
def impl_PutMan_j1 (u : Nat) (x2006 : List Int) : Option ((List Int)) :=
  some x2006
def impl_PutMan_l2 (u : Nat) (k_impl_PutMan_l2 : Nat) (x8 : List Int) (p1 : Manifest) (x9 : Int) : Option ((List Int)) := match k_impl_PutMan_l2 with
  | 0 => none
  | k_impl_PutMan_l2 + 1 => bif decide (x9 < ((p1.fSums.length : Int))) then ((idx p1.fSums x9).bind fun y12 => (impl_appendVar u x8 y12.fS).bind fun r13 => (fun z0 z1 z2 => impl_PutMan_l2 u k_impl_PutMan_l2 z0 z1 z2) r13 p1 (bAdd .i64 x9 1)) else (impl_PutMan_j1 u x8)
def impl_PutMan (u : Nat) (p0 : List Int) (p1 : Manifest) : Option ((List Int)) :=
  (impl_ManOk u p1).bind fun r1 => bif !r1 then ((impl_cloned u p0).bind fun r2 => some r2) else ((impl_PutVar u p0 p1.fGen).bind fun r3 => (impl_PutVar u r3 p1.fSize).bind fun r4 => (impl_PutVar u r4 p1.fLen).bind fun r5 => impl_PutMan_l2 u u r5 p1 0)
def impl_PutMan_l2_f (u : Nat) (p1 : Manifest) (s : (List Int)) : Option ((List Int)) := (impl_PutMan_j1 u s)
def impl_PutMan_l2_b (u : Nat) (p1 : Manifest) (y12 : Sum) (i_ : Nat) (s : (List Int)) (k_ : ((List Int)) → Option ((List Int))) : Option ((List Int)) := (impl_appendVar u s y12.fS).bind fun r13 => (fun z0 z1 z2 => k_ z0) r13 p1 (bAdd .i64 (i_ : Int) 1)
theorem impl_PutMan_l2_w (u : Nat) (p1 : Manifest) (s : (List Int)) (k : Nat) (hn : p1.fSums.length ≤ 9223372036854775807) (hk : p1.fSums.length < k) : impl_PutMan_l2 u k s p1 0 = Pu.wlist (impl_PutMan_l2_f u p1) (impl_PutMan_l2_b u p1) p1.fSums 0 s := Pu.wlist_0 (fun (k : Nat) (s : (List Int)) (i : Int) => impl_PutMan_l2 u k s p1 i) hn (fun _ _ _ => rfl) s hk
def impl_ManBytes (u : Nat) (p0 : Manifest) : Option Int :=
  (impl_PutMan u ([]) p0).bind fun r1 => some ((r1.length : Int))
def laws_eqSum (u : Nat) (p0 : Sum) (p1 : Sum) : Option Bool :=
  bif p0.fW != p1.fW then (some false) else (bif p0.fS != p1.fS then (some false) else (some true))
def laws_eqSumS_j1 (u : Nat)  : Option Bool :=
  some true
def laws_eqSumS_l2 (u : Nat) (k_laws_eqSumS_l2 : Nat) (p0 : List Sum) (p1 : List Sum) (x2 : Int) : Option Bool := match k_laws_eqSumS_l2 with
  | 0 => none
  | k_laws_eqSumS_l2 + 1 => bif decide (x2 < ((p0.length : Int))) then ((idx p0 x2).bind fun y4 => (idx p1 x2).bind fun y5 => (laws_eqSum u y4 y5).bind fun r6 => bif !r6 then (some false) else ((fun z0 z1 z2 => laws_eqSumS_l2 u k_laws_eqSumS_l2 z0 z1 z2) p0 p1 (bAdd .i64 x2 1))) else (laws_eqSumS_j1 u)
def laws_eqSumS (u : Nat) (p0 : List Sum) (p1 : List Sum) : Option Bool :=
  bif ((p0.length : Int)) != ((p1.length : Int)) then (some false) else (laws_eqSumS_l2 u u p0 p1 0)
def laws_eqSumS_l2_f (u : Nat) (p0 : List Sum) (p1 : List Sum) (s : Unit) : Option Bool := (laws_eqSumS_j1 u)
def laws_eqSumS_l2_b (u : Nat) (p0 : List Sum) (p1 : List Sum) (y4 : Sum) (i_ : Nat) (s : Unit) (k_ : Unit → Option Bool) : Option Bool := (idx p1 (i_ : Int)).bind fun y5 => (laws_eqSum u y4 y5).bind fun r6 => bif !r6 then (some false) else ((fun z0 z1 z2 => k_ ()) p0 p1 (bAdd .i64 (i_ : Int) 1))
theorem laws_eqSumS_l2_w (u : Nat) (p0 : List Sum) (p1 : List Sum) (s : Unit) (k : Nat) (hn : p0.length ≤ 9223372036854775807) (hk : p0.length < k) : laws_eqSumS_l2 u k p0 p1 0 = Pu.wlist (laws_eqSumS_l2_f u p0 p1) (laws_eqSumS_l2_b u p0 p1) p0 0 s := Pu.wlist_0 (fun (k : Nat) (s : Unit) (i : Int) => laws_eqSumS_l2 u k p0 p1 i) hn (fun _ _ _ => rfl) s hk
def laws_eqManifest (u : Nat) (p0 : Manifest) (p1 : Manifest) : Option Bool :=
  bif p0.fGen != p1.fGen then (some false) else (bif p0.fSize != p1.fSize then (some false) else (bif p0.fLen != p1.fLen then (some false) else ((laws_eqSumS u p0.fSums p1.fSums).bind fun r1 => bif !r1 then (some false) else (some true))))
def laws_FnExactManBytes (u : Nat) (p0 : Manifest) : Option Bool :=
  (laws_szManifest u p0 1048576).bind fun r1 => bif decide (r1 < 0) then (some true) else ((laws_toManifest u p0).bind fun r2 => (spec_ManBytes u r2).bind fun r3 => (laws_toManifest u p0).bind fun r4 => (impl_ManBytes u r4).bind fun r5 => bif r5 != r3 then (some false) else ((laws_toManifest u p0).bind fun r6 => (laws_eqManifest u r4 r6).bind fun r7 => bif !r7 then (some false) else (some true)))
end Go.Tm
