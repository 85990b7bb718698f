/- Go functions as pure functions (printed). -/
import Derived.Test.YtlhbkdaohjnjbaaDoorTm39
import Derived.Test.YtlhbkdaohjnjbaaDoorPu1
import Derived.Lib.ItoaLen
set_option maxRecDepth 100000
set_option maxHeartbeats 20000000
set_option linter.unusedVariables false
set_option linter.unusedSimpArgs false
namespace Go.Tm
structure Packet where
  fFrom : Int
  fTo : Int
  fB : List Int
  deriving DecidableEq
def Packet.enc (x : Packet) : List T := [.int .i64 x.fFrom, .int .i64 x.fTo, .sl 1 (x.fB.map (eInt .u8))]
def Packet.wf (x : Packet) : Prop := (wInt .i64) x.fFrom ∧ (wInt .i64) x.fTo ∧ (wSl (wInt .u8)) x.fB ∧ True
structure Event where
  fKind : Int
  fN : Int
  fS : Int
  fP : Packet
  deriving DecidableEq
def Event.enc (x : Event) : List T := [.int .i64 x.fKind, .int .i64 x.fN, .int .i64 x.fS, .int .i64 x.fP.fFrom, .int .i64 x.fP.fTo, .sl 1 (x.fP.fB.map (eInt .u8))]
def Event.wf (x : Event) : Prop := (wInt .i64) x.fKind ∧ (wInt .i64) x.fN ∧ (wInt .i64) x.fS ∧ Packet.wf x.fP ∧ True
def laws_szByteS (u : Nat) (p0 : List Int) (p1 : Int) : Option Int :=
  bif decide ((bSub .i64 p1 ((p0.length : Int))) < 0) then (some (-1)) else (some (bSub .i64 p1 ((p0.length : Int))))
def laws_szPacket (u : Nat) (p0 : Packet) (p1 : Int) : Option Int :=
  (laws_szByteS u p0.fB p1).bind fun r1 => bif decide (r1 < 0) then (some (-1)) else (some r1)
def laws_szEvent (u : Nat) (p0 : Event) (p1 : Int) : Option Int :=
  (laws_szPacket u p0.fP p1).bind fun r1 => bif decide (r1 < 0) then (some (-1)) else (some r1)
def laws_toByteS_j1 (u : Nat) (x11 : List Int) : Option ((List Int)) :=
  some x11
def laws_toByteS_l2 (u : Nat) (k_laws_toByteS_l2 : Nat) (p0 : List Int) (x5 : List Int) (x6 : Int) : Option ((List Int)) := match k_laws_toByteS_l2 with
  | 0 => none
  | k_laws_toByteS_l2 + 1 => bif decide (x6 < ((p0.length : Int))) then ((idx p0 x6).bind fun y9 => (idx x5 x6).bind fun y10 => (fun z0 z1 z2 => laws_toByteS_l2 u k_laws_toByteS_l2 z0 z1 z2) p0 (x5.set (Int.toNat x6) y9) (bAdd .i64 x6 1)) else (laws_toByteS_j1 u x5)
def laws_toByteS (u : Nat) (p0 : List Int) : Option ((List Int)) :=
  (chk (decide (0 ≤ ((p0.length : Int))) && (((p0.length : Int)) == 0 || ((p0.length : Int)) == ((p0.length : Int))))).bind fun _ => (chk (decide (Int.toNat ((p0.length : Int)) * 1 ≤ 140737488355328))).bind fun _ => laws_toByteS_l2 u u p0 (List.replicate (Int.toNat ((p0.length : Int))) (0 : Int)) 0
def laws_toByteS_l2_f (u : Nat) (p0 : List Int) (s : (List Int)) : Option ((List Int)) := (laws_toByteS_j1 u s)
def laws_toByteS_l2_b (u : Nat) (p0 : List Int) (y9 : Int) (i_ : Nat) (s : (List Int)) (k_ : ((List Int)) → Option ((List Int))) : Option ((List Int)) := (idx s (i_ : Int)).bind fun y10 => (fun z0 z1 z2 => k_ z1) p0 (s.set (Int.toNat (i_ : Int)) y9) (bAdd .i64 (i_ : Int) 1)
theorem laws_toByteS_l2_w (u : Nat) (p0 : List Int) (s : (List Int)) (k : Nat) (hn : p0.length ≤ 9223372036854775807) (hk : p0.length < k) : laws_toByteS_l2 u k p0 s 0 = Pu.wlist (laws_toByteS_l2_f u p0) (laws_toByteS_l2_b u p0) p0 0 s := Pu.wlist_0 (fun (k : Nat) (s : (List Int)) (i : Int) => laws_toByteS_l2 u k p0 s i) hn (fun _ _ _ => rfl) s hk
def laws_toPacket (u : Nat) (p0 : Packet) : Option Packet :=
  (laws_toByteS u p0.fB).bind fun r1 => some ((Packet.mk p0.fFrom p0.fTo r1))
def laws_toEvent (u : Nat) (p0 : Event) : Option Event :=
  (laws_toPacket u p0.fP).bind fun r1 => some ((Event.mk p0.fKind p0.fN p0.fS r1))
def spec_l1In (u : Nat) (p0 : Int) (p1 : Int) (p2 : Int) : Option Bool :=
  bif decide (p0 ≥ p1) then (some (decide (p0 ≤ p2))) else (some false)
def spec_NumText_j1 (u : Nat) (p0 : Int) (x8 : ByteArray) : Option ByteArray :=
  bif decide (p0 < 0) then ((chk (decide (((ByteArray.mk #[45])).size + x8.size ≤ 9223372036854775807))).bind fun _ => some (((ByteArray.mk #[45])) ++ x8)) else (some x8)
def spec_NumText_j3 (u : Nat) (c_spec_NumText_l2 : Int → ByteArray → Int → Option ByteArray) (p0 : Int) (x3 : ByteArray) (x4 : Int) (x7 : Int) : Option ByteArray :=
  (chk (decide ((strOfNums ([IntKind.wrap .u8 (bAdd .i64 48 x7)])).size + x3.size ≤ 9223372036854775807))).bind fun _ => c_spec_NumText_l2 p0 ((strOfNums ([IntKind.wrap .u8 (bAdd .i64 48 x7)])) ++ x3) (bQuo .i64 x4 10)
def spec_NumText_l2 (u : Nat) (k_spec_NumText_l2 : Nat) (p0 : Int) (x3 : ByteArray) (x4 : Int) : Option ByteArray := match k_spec_NumText_l2 with
  | 0 => none
  | k_spec_NumText_l2 + 1 => bif x4 != 0 then (bif decide ((bRem .i64 x4 10) < 0) then (spec_NumText_j3 u (fun z0 z1 z2 => spec_NumText_l2 u k_spec_NumText_l2 z0 z1 z2) p0 x3 x4 (bSub .i64 0 (bRem .i64 x4 10))) else (spec_NumText_j3 u (fun z0 z1 z2 => spec_NumText_l2 u k_spec_NumText_l2 z0 z1 z2) p0 x3 x4 (bRem .i64 x4 10))) else (spec_NumText_j1 u p0 x3)
def spec_NumText (u : Nat) (p0 : Int) : Option ByteArray :=
  bif p0 == 0 then (some ((ByteArray.mk #[48]))) else (spec_NumText_l2 u u p0 ((ByteArray.mk #[])) p0)
def spec_EventText (u : Nat) (p0 : Event) : Option ByteArray :=
  (spec_l1In u p0.fKind 1 (bSub .i64 ((([(ByteArray.mk #[]), (ByteArray.mk #[116, 105, 99, 107]), (ByteArray.mk #[116, 97, 107, 101]), (ByteArray.mk #[108, 111, 115, 101]), (ByteArray.mk #[100, 111, 117, 98, 108, 101]), (ByteArray.mk #[102, 97, 108, 108]), (ByteArray.mk #[114, 105, 115, 101]), (ByteArray.mk #[102, 111, 114, 103, 101])]).length : Int)) 1)).bind fun r1 => bif !r1 then (some ((ByteArray.mk #[]))) else ((idx ([(ByteArray.mk #[]), (ByteArray.mk #[116, 105, 99, 107]), (ByteArray.mk #[116, 97, 107, 101]), (ByteArray.mk #[108, 111, 115, 101]), (ByteArray.mk #[100, 111, 117, 98, 108, 101]), (ByteArray.mk #[102, 97, 108, 108]), (ByteArray.mk #[114, 105, 115, 101]), (ByteArray.mk #[102, 111, 114, 103, 101])]) p0.fKind).bind fun y2 => (chk (decide (y2.size + ((ByteArray.mk #[32])).size ≤ 9223372036854775807))).bind fun _ => (spec_NumText u p0.fN).bind fun r4 => (chk (decide ((y2 ++ ((ByteArray.mk #[32]))).size + r4.size ≤ 9223372036854775807))).bind fun _ => bif p0.fKind == 5 then ((chk (decide (((y2 ++ ((ByteArray.mk #[32]))) ++ r4).size + ((ByteArray.mk #[32])).size ≤ 9223372036854775807))).bind fun _ => (spec_NumText u p0.fS).bind fun r7 => (chk (decide ((((y2 ++ ((ByteArray.mk #[32]))) ++ r4) ++ ((ByteArray.mk #[32]))).size + r7.size ≤ 9223372036854775807))).bind fun _ => some ((((y2 ++ ((ByteArray.mk #[32]))) ++ r4) ++ ((ByteArray.mk #[32]))) ++ r7)) else (some ((y2 ++ ((ByteArray.mk #[32]))) ++ r4)))
def impl_within (u : Nat) (p0 : Int) (p1 : Int) (p2 : Int) : Option Bool :=
  bif decide (p0 ≥ p1) then (some (decide (p0 ≤ p2))) else (some false)
def impl_eventWords (u : Nat)  : Option ((List ByteArray)) :=
  some ([(ByteArray.mk #[]), (ByteArray.mk #[116, 105, 99, 107]), (ByteArray.mk #[116, 97, 107, 101]), (ByteArray.mk #[108, 111, 115, 101]), (ByteArray.mk #[100, 111, 117, 98, 108, 101]), (ByteArray.mk #[102, 97, 108, 108]), (ByteArray.mk #[114, 105, 115, 101]), (ByteArray.mk #[102, 111, 114, 103, 101])])
def strconv_Itoa (u : Nat) (p0 : Int) : Option ByteArray :=
  bif decide (-9223372036854775808 ≤ p0) && decide (p0 ≤ 9223372036854775807) then some (⟨(Lib.itoa p0).toArray⟩ : ByteArray) else none
def impl_NumText (u : Nat) (p0 : Int) : Option ByteArray :=
  (strconv_Itoa u p0).bind fun r1 => some r1
def impl_EventText_j1 (u : Nat) (x8 : ByteArray) : Option ByteArray :=
  some x8
def impl_EventText (u : Nat) (p0 : Event) : Option ByteArray :=
  (impl_within u p0.fKind 1 7).bind fun r1 => bif !r1 then (some ((ByteArray.mk #[]))) else ((impl_eventWords u).bind fun r2 => (idx r2 p0.fKind).bind fun y3 => (chk (decide (y3.size + ((ByteArray.mk #[32])).size ≤ 9223372036854775807))).bind fun _ => (impl_NumText u p0.fN).bind fun r5 => (chk (decide ((y3 ++ ((ByteArray.mk #[32]))).size + r5.size ≤ 9223372036854775807))).bind fun _ => bif p0.fKind == 5 then ((impl_NumText u p0.fS).bind fun r7 => (chk (decide (((ByteArray.mk #[32])).size + r7.size ≤ 9223372036854775807))).bind fun _ => (chk (decide (((y3 ++ ((ByteArray.mk #[32]))) ++ r5).size + (((ByteArray.mk #[32])) ++ r7).size ≤ 9223372036854775807))).bind fun _ => impl_EventText_j1 u (((y3 ++ ((ByteArray.mk #[32]))) ++ r5) ++ (((ByteArray.mk #[32])) ++ r7))) else (impl_EventText_j1 u ((y3 ++ ((ByteArray.mk #[32]))) ++ r5)))
def laws_eqByteS_j1 (u : Nat)  : Option Bool :=
  some true
def laws_eqByteS_l2 (u : Nat) (k_laws_eqByteS_l2 : Nat) (p0 : List Int) (p1 : List Int) (x2 : Int) : Option Bool := match k_laws_eqByteS_l2 with
  | 0 => none
  | k_laws_eqByteS_l2 + 1 => bif decide (x2 < ((p0.length : Int))) then ((idx p0 x2).bind fun y4 => (idx p1 x2).bind fun y5 => bif y4 != y5 then (some false) else ((fun z0 z1 z2 => laws_eqByteS_l2 u k_laws_eqByteS_l2 z0 z1 z2) p0 p1 (bAdd .i64 x2 1))) else (laws_eqByteS_j1 u)
def laws_eqByteS (u : Nat) (p0 : List Int) (p1 : List Int) : Option Bool :=
  bif ((p0.length : Int)) != ((p1.length : Int)) then (some false) else (laws_eqByteS_l2 u u p0 p1 0)
def laws_eqByteS_l2_f (u : Nat) (p0 : List Int) (p1 : List Int) (s : Unit) : Option Bool := (laws_eqByteS_j1 u)
def laws_eqByteS_l2_b (u : Nat) (p0 : List Int) (p1 : List Int) (y4 : Int) (i_ : Nat) (s : Unit) (k_ : Unit → Option Bool) : Option Bool := (idx p1 (i_ : Int)).bind fun y5 => bif y4 != y5 then (some false) else ((fun z0 z1 z2 => k_ ()) p0 p1 (bAdd .i64 (i_ : Int) 1))
theorem laws_eqByteS_l2_w (u : Nat) (p0 : List Int) (p1 : List Int) (s : Unit) (k : Nat) (hn : p0.length ≤ 9223372036854775807) (hk : p0.length < k) : laws_eqByteS_l2 u k p0 p1 0 = Pu.wlist (laws_eqByteS_l2_f u p0 p1) (laws_eqByteS_l2_b u p0 p1) p0 0 s := Pu.wlist_0 (fun (k : Nat) (s : Unit) (i : Int) => laws_eqByteS_l2 u k p0 p1 i) hn (fun _ _ _ => rfl) s hk
def laws_eqPacket (u : Nat) (p0 : Packet) (p1 : Packet) : Option Bool :=
  bif p0.fFrom != p1.fFrom then (some false) else (bif p0.fTo != p1.fTo then (some false) else ((laws_eqByteS u p0.fB p1.fB).bind fun r1 => bif !r1 then (some false) else (some true)))
def laws_eqEvent (u : Nat) (p0 : Event) (p1 : Event) : Option Bool :=
  bif p0.fKind != p1.fKind then (some false) else (bif p0.fN != p1.fN then (some false) else (bif p0.fS != p1.fS then (some false) else ((laws_eqPacket u p0.fP p1.fP).bind fun r1 => bif !r1 then (some false) else (some true))))
def laws_FnExactEventText (u : Nat) (p0 : Event) : Option Bool :=
  (laws_szEvent u p0 1048576).bind fun r1 => bif decide (r1 < 0) then (some true) else ((laws_toEvent u p0).bind fun r2 => (spec_EventText u r2).bind fun r3 => (laws_toEvent u p0).bind fun r4 => (impl_EventText u r4).bind fun r5 => bif !(r5.toList == r3.toList) then (some false) else ((laws_toEvent u p0).bind fun r6 => (laws_eqEvent u r4 r6).bind fun r7 => bif !r7 then (some false) else (some true)))
end Go.Tm
