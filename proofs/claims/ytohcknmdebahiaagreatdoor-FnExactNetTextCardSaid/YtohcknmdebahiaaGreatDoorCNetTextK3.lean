/- The functions as they are translated do what the pure functions say (printed). -/
import Derived.Test.YtohcknmdebahiaaGreatDoorCNetTextK2
import Derived.Test.YtohcknmdebahiaaGreatDoorTm45
import Derived.Shelf.Strings.OnBuilder
import Derived.Test.YtohcknmdebahiaaGreatDoorProg
set_option maxRecDepth 100000
set_option maxHeartbeats 20000000
set_option linter.unusedVariables false
set_option linter.unusedSimpArgs false
namespace Go.Tm
open Go.Proofs
theorem impl_GetMsg_ok (u : Nat) (p0 : List Int) (r : Msg × Bool) (h : impl_GetMsg u p0 = some r) : CallOK Tryz.prog 92 [.one (.s p0)] (.tup [.agg [.i r.1.fKind, .i r.1.fGen, .i r.1.fMan.fGen, .i r.1.fMan.fSize, .i r.1.fMan.fLen, .t (.sl 2 (r.1.fMan.fSums.map Sum.enc)), .i r.1.fWant, .i r.1.fDone, .i r.1.fI, .s r.1.fB], .one (.b r.2)]) [] := by
 unfold impl_GetMsg at h
 refine CallOK.of_bodyK (fn := Tryz.f92) (m := false) [.s p0] kr rfl kr kr kr kr kr ?_
 refine Wp.sag ⟨[(0, .s p0), (2, .obj 2 0), (3, .b false)], [(2, [.i 0, .i 0, .i 0, .i 0, .i 0, .nil, .i 0, .i 0, .i 0, .nil])], []⟩ ?_
 refine Wp.sb 1 ?_
 obtain ⟨r1, e_r1, h⟩ := bind_some h
 refine Runs.ck 10 [.s p0, .i 0] (impl_GetVar_ok u p0 0 r1 e_r1) ?_
 refine Runs.allf ⟨[(0, .s p0), (2, .obj 2 0), (3, .b false), (4, .i r1.1), (5, .i r1.2.1), (6, .b r1.2.2)], [(2, [.i 0, .i 0, .i 0, .i 0, .i 0, .nil, .i 0, .i 0, .i 0, .nil])], []⟩ ?_
 refine Wp.seq ?_
 refine Wp.seqJ (α := (List Int) × (Int × Int × Bool) × Bool) (fun a => ⟨[(0, .s a.1), (2, .obj 2 0), (3, .b false), (4, .i a.2.1.1), (5, .i a.2.1.2.1), (20, .b a.2.2)], [(2, [.i 0, .i 0, .i 0, .i 0, .i 0, .nil, .i 0, .i 0, .i 0, .nil])], []⟩) (fun a => impl_GetMsg_j1 u a.1 a.2.1 a.2.2 = some r) ?_ ?_
 ·rintro ⟨p0, r1, x2⟩ h
  change impl_GetMsg_j1 u p0 r1 x2 = some r at h
  unfold impl_GetMsg_j1 at h
  refine Wp.c2 h (fun h => ?_) (fun h => ?_)
  ·refine Wp.sag ⟨[(0, .s p0), (2, .obj 2 0), (3, .b false), (4, .i r1.1), (5, .i r1.2.1)], [(2, [.i 0, .i 0, .i 0, .i 0, .i 0, .nil, .i 0, .i 0, .i 0, .nil])], []⟩ ?_
   refine Wp.ret ?_
   refine thenR ?_
   obtain rfl := oi h
   exact RetK [.agg [.i 0, .i 0, .i 0, .i 0, .i 0, .nil, .i 0, .i 0, .i 0, .nil], .b false] (.tup [.agg [.i 0, .i 0, .i 0, .i 0, .i 0, .t (.sl 0 []), .i 0, .i 0, .i 0, .t (.sl 0 [])], .one (.b false)]) [] kr kr (.tup (.cons (.agg (.cons (.refl _) (.cons (.refl _) (.cons (.refl _) (.cons (.refl _) (.cons (.refl _) (.cons (.sz _ _) (.cons (.refl _) (.cons (.refl _) (.cons (.refl _) (.cons (.sz _ _) .nil))))))))))) (.cons (.refl _) .nil))) .nil
  refine Wp.sk ?_
  refine Wp.sb 3 ?_
  obtain ⟨r3, e_r3, h⟩ := bind_some h
  refine Runs.ck 26 [.s p0, .i r1.1, .i r1.2.1] (impl_readMsg_ok u p0 r1.1 r1.2.1 r3 e_r3) ?_
  refine Runs.allf ⟨[(0, .s p0), (2, .obj 2 0), (3, .b false), (6, .b r3.2), (7, .obj 7 0)], [(2, [.i 0, .i 0, .i 0, .i 0, .i 0, .nil, .i 0, .i 0, .i 0, .nil]), (7, [.i r3.1.fKind, .i r3.1.fGen, .i r3.1.fMan.fGen, .i r3.1.fMan.fSize, .i r3.1.fMan.fLen, .own 1703941, .i r3.1.fWant, .i r3.1.fDone, .i r3.1.fI, .own 1703945])], [(1703941, .live 189 2 (r3.1.fMan.fSums.map Sum.enc)), (1703945, .live 5 1 (r3.1.fB.map (eInt .u8)))]⟩ ?_
  refine Wp.seq ?_
  refine Wp.seqJ (α := Bool × (Msg × Bool)) (fun a => ⟨[(2, .obj 2 0), (3, .b false), (7, .obj 7 0), (42, .b a.1)], [(2, [.i 0, .i 0, .i 0, .i 0, .i 0, .nil, .i 0, .i 0, .i 0, .nil]), (7, ((Msg.enc a.2.1).map .t))], []⟩) (fun a => impl_GetMsg_j2 u a.1 a.2 = some r) ?_ ?_
  ·rintro ⟨x7, r3⟩ h
   change impl_GetMsg_j2 u x7 r3 = some r at h
   unfold impl_GetMsg_j2 at h
   refine Wp.c2 h (fun h => ?_) (fun h => ?_)
   ·refine Wp.sag ⟨[(2, .obj 2 0), (3, .b false), (7, .obj 7 0)], [(2, [.i 0, .i 0, .i 0, .i 0, .i 0, .nil, .i 0, .i 0, .i 0, .nil]), (7, ((Msg.enc r3.1).map .t))], []⟩ ?_
    refine Wp.ret ?_
    refine thenR ?_
    obtain rfl := oi h
    exact RetK [.agg [.i 0, .i 0, .i 0, .i 0, .i 0, .nil, .i 0, .i 0, .i 0, .nil], .b false] (.tup [.agg [.i 0, .i 0, .i 0, .i 0, .i 0, .t (.sl 0 []), .i 0, .i 0, .i 0, .t (.sl 0 [])], .one (.b false)]) [] kr kr (.tup (.cons (.agg (.cons (.refl _) (.cons (.refl _) (.cons (.refl _) (.cons (.refl _) (.cons (.refl _) (.cons (.sz _ _) (.cons (.refl _) (.cons (.refl _) (.cons (.refl _) (.cons (.sz _ _) .nil))))))))))) (.cons (.refl _) .nil))) .nil
   refine Wp.sk ?_
   refine Wp.sag ⟨[(2, .obj 2 0), (3, .b true)], [(2, ((Msg.enc r3.1).map .t))], []⟩ ?_
   refine Wp.ret ?_
   obtain rfl := oi h
   exact RetK [.agg ((Msg.enc r3.1).map .t), .b true] _ [] kr kr (.refl _) .nil
  ·refine Wp.rg [] [] ?_
   refine Runs.batch 3 kr ?_
   rcases tf (!r3.2) with hc | hc
   ·have h := cond_t h hc
    refine Runs.known 31 (v := true) kr hc ?_
    refine Runs.alln ?_
    exact ⟨(true, r3), h, Le.trans (Le.frzO 7 5 1703941 189 2 [.i r3.1.fKind, .i r3.1.fGen, .i r3.1.fMan.fGen, .i r3.1.fMan.fSize, .i r3.1.fMan.fLen, .own 1703941, .i r3.1.fWant, .i r3.1.fDone, .i r3.1.fI, .own 1703945] (r3.1.fMan.fSums.map Sum.enc) kr kr kr) (Le.trans (Le.frzO 7 9 1703945 5 1 [.i r3.1.fKind, .i r3.1.fGen, .i r3.1.fMan.fGen, .i r3.1.fMan.fSize, .i r3.1.fMan.fLen, .t (.sl 2 (r3.1.fMan.fSums.map Sum.enc)), .i r3.1.fWant, .i r3.1.fDone, .i r3.1.fI, .own 1703945] (r3.1.fB.map (eInt .u8)) kr kr kr) (Le.of (mo := []) (mr := []) kr kr kr kr))⟩
   have h := cond_f h hc
   refine Runs.known 31 (v := false) kr hc ?_
   refine Runs.batch 1 kr ?_
   obtain ⟨r4, e_r4, h⟩ := bind_some h
   refine Runs.callBK 33 135 [] [.agg [.i r3.1.fKind, .i r3.1.fGen, .i r3.1.fMan.fGen, .i r3.1.fMan.fSize, .i r3.1.fMan.fLen, .own 1703941, .i r3.1.fWant, .i r3.1.fDone, .i r3.1.fI, .own 1703945]] [.agg ((Msg.enc r3.1).map .t)] (.one (.b r4)) rfl rfl kr kr kr kr kr (impl_MsgOk_ok u r3.1 r4 e_r4) (by simp [V.plain, V.plains, C.plain, T.sc]) kr ?_
   refine Runs.batch 3 kr ?_
   rcases tf (!r4) with hc | hc
   ·have h := cond_t h hc
    refine Runs.known 36 (v := true) kr hc ?_
    refine Runs.alln ?_
    exact ⟨(true, r3), h, Le.trans (Le.frzO 7 5 1703941 189 2 [.i r3.1.fKind, .i r3.1.fGen, .i r3.1.fMan.fGen, .i r3.1.fMan.fSize, .i r3.1.fMan.fLen, .own 1703941, .i r3.1.fWant, .i r3.1.fDone, .i r3.1.fI, .own 1703945] (r3.1.fMan.fSums.map Sum.enc) kr kr kr) (Le.trans (Le.frzO 7 9 1703945 5 1 [.i r3.1.fKind, .i r3.1.fGen, .i r3.1.fMan.fGen, .i r3.1.fMan.fSize, .i r3.1.fMan.fLen, .t (.sl 2 (r3.1.fMan.fSums.map Sum.enc)), .i r3.1.fWant, .i r3.1.fDone, .i r3.1.fI, .own 1703945] (r3.1.fB.map (eInt .u8)) kr kr kr) (Le.of (mo := []) (mr := []) kr kr kr kr))⟩
   have h := cond_f h hc
   refine Runs.known 36 (v := false) kr hc ?_
   refine Runs.batch 1 kr ?_
   obtain ⟨r5, e_r5, h⟩ := bind_some h
   refine Runs.ck 38 [.agg [.i r3.1.fKind, .i r3.1.fGen, .i r3.1.fMan.fGen, .i r3.1.fMan.fSize, .i r3.1.fMan.fLen, .own 1703941, .i r3.1.fWant, .i r3.1.fDone, .i r3.1.fI, .own 1703945]] (impl_PutMsg_ok u r3.1 r5 e_r5) ?_
   refine Runs.batch 1 kr ?_
   obtain ⟨r6, e_r6, h⟩ := bind_some h
   refine Runs.callBK 40 136 [] [.own 2490368, .s p0] [.one (.s r5), .one (.s p0)] (.one (.b r6)) rfl rfl kr kr kr kr kr (impl_SameBytes_ok u r5 p0 r6 e_r6) (by simp [V.plain, V.plains, C.plain, T.sc]) kr ?_
   refine Runs.alln ?_
   exact ⟨(!r6, r3), h, Le.trans (Le.seeO 7 5 1703941 2 [.i r3.1.fKind, .i r3.1.fGen, .i r3.1.fMan.fGen, .i r3.1.fMan.fSize, .i r3.1.fMan.fLen, .own 1703941, .i r3.1.fWant, .i r3.1.fDone, .i r3.1.fI, .own 1703945] (r3.1.fMan.fSums.map Sum.enc) kr kr kr) (Le.trans (Le.seeO 7 9 1703945 1 [.i r3.1.fKind, .i r3.1.fGen, .i r3.1.fMan.fGen, .i r3.1.fMan.fSize, .i r3.1.fMan.fLen, .t (.sl 2 (r3.1.fMan.fSums.map Sum.enc)), .i r3.1.fWant, .i r3.1.fDone, .i r3.1.fI, .own 1703945] (r3.1.fB.map (eInt .u8)) kr kr kr) (Le.of (mo := []) (mr := []) kr kr kr kr))⟩
 ·refine Wp.rg [] [] ?_
  refine Runs.batch 3 kr ?_
  rcases tf (!r1.2.2) with hc | hc
  ·have h := cond_t h hc
   refine Runs.known 16 (v := true) kr hc ?_
   refine Runs.alln ?_
   exact ⟨(p0, r1, true), h, Le.of (mo := []) (mr := []) kr kr kr kr⟩
  have h := cond_f h hc
  refine Runs.known 16 (v := false) kr hc ?_
  refine Runs.batch 1 kr ?_
  refine Runs.lenT (y := .s p0) (e := 5) (eInt .u8) p0 1 rfl rfl rfl kr kr kr kr kr ?_
  refine Runs.alln ?_
  exact ⟨(p0, r1, decide (((p0.length : Int)) > 400)), h, Le.of (mo := []) (mr := []) kr kr kr kr⟩
def laysItoa_ren : Go.Shelf.Ren := ⟨fun | 171 => 106 | 243 => 157 | 246 => 192 | 283 => 200 | 284 => 201 | 285 => 202 | 286 => 203 | 129 => 207 | 317 => 206 | 318 => 208 | 319 => 209 | 320 => 210 | 337 => 212 | 338 => 213 | n => n, fun | 3 => 3 | 9 => 9 | 2 => 2 | 4 => 4 | 171 => 229 | 0 => 0 | 53 => 175 | 37 => 22 | 5 => 5 | 173 => 231 | 212 => 235 | 51 => 236 | 20 => 20 | 213 => 237 | 46 => 209 | 232 => 242 | 233 => 243 | n => n, fun | 17 => 1 | 18 => 2 | 19 => 3 | n => n⟩
theorem laysItoa : Go.Proofs.LaysM.n171 Tryz.prog laysItoa_ren := {
 mixed := by kernel_rfl,
 f129 := Tryz.func207.trans (congrArg some kr),
 f171 := Tryz.func106.trans (congrArg some kr),
 f243 := Tryz.func157.trans (congrArg some kr),
 f246 := Tryz.func192.trans (congrArg some kr),
 f283 := Tryz.func200.trans (congrArg some kr),
 f284 := Tryz.func201.trans (congrArg some kr),
 f285 := Tryz.func202.trans (congrArg some kr),
 f286 := Tryz.func203.trans (congrArg some kr),
 f317 := Tryz.func206.trans (congrArg some kr),
 f318 := Tryz.func208.trans (congrArg some kr),
 f319 := Tryz.func209.trans (congrArg some kr),
 f320 := Tryz.func210.trans (congrArg some kr),
 f337 := Tryz.func212.trans (congrArg some kr),
 f338 := Tryz.func213.trans (congrArg some kr),
 t0 := Tryz.underlying0,
 a0 := Tryz.isAgg0,
 z0 := Tryz.sizeOf0,
 v0 := Tryz.zeroValue0,
 t2 := Tryz.underlying2,
 a2 := Tryz.isAgg2,
 z2 := Tryz.sizeOf2,
 v2 := Tryz.zeroValue2,
 t3 := Tryz.underlying3,
 a3 := Tryz.isAgg3,
 z3 := Tryz.sizeOf3,
 v3 := Tryz.zeroValue3,
 t4 := Tryz.underlying4,
 a4 := Tryz.isAgg4,
 z4 := Tryz.sizeOf4,
 v4 := Tryz.zeroValue4,
 t5 := Tryz.underlying5,
 a5 := Tryz.isAgg5,
 z5 := Tryz.sizeOf5,
 v5 := Tryz.zeroValue5,
 t9 := Tryz.underlying9,
 a9 := Tryz.isAgg9,
 z9 := Tryz.sizeOf9,
 v9 := Tryz.zeroValue9,
 t20 := Tryz.underlying20,
 a20 := Tryz.isAgg20,
 z20 := Tryz.sizeOf20,
 v20 := Tryz.zeroValue20,
 t37 := Tryz.underlying22,
 a37 := Tryz.isAgg22,
 z37 := Tryz.sizeOf22,
 v37 := Tryz.zeroValue22,
 t46 := Tryz.underlying209,
 a46 := Tryz.isAgg209,
 z46 := Tryz.sizeOf209,
 v46 := Tryz.zeroValue209,
 t51 := Tryz.underlying236,
 a51 := Tryz.isAgg236,
 z51 := Tryz.sizeOf236,
 v51 := Tryz.zeroValue236,
 t53 := Tryz.underlying175,
 a53 := Tryz.isAgg175,
 z53 := Tryz.sizeOf175,
 v53 := Tryz.zeroValue175,
 t171 := Tryz.underlying229,
 a171 := Tryz.isAgg229,
 z171 := Tryz.sizeOf229,
 v171 := Tryz.zeroValue229,
 t173 := Tryz.underlying231,
 a173 := Tryz.isAgg231,
 z173 := Tryz.sizeOf231,
 v173 := Tryz.zeroValue231,
 t212 := Tryz.underlying235,
 a212 := Tryz.isAgg235,
 z212 := Tryz.sizeOf235,
 v212 := Tryz.zeroValue235,
 t213 := Tryz.underlying237,
 a213 := Tryz.isAgg237,
 z213 := Tryz.sizeOf237,
 t232 := Tryz.underlying242,
 a232 := Tryz.isAgg242,
 z232 := Tryz.sizeOf242,
 v232 := Tryz.zeroValue242,
 t233 := Tryz.underlying243,
 a233 := Tryz.isAgg243,
 z233 := Tryz.sizeOf243,
 v233 := Tryz.zeroValue243,
 g17 := by kernel_rfl,
 g18 := by kernel_rfl,
 g19 := by kernel_rfl,
 i0 := by kernel_rfl,
 i2 := by kernel_rfl,
 i3 := by kernel_rfl,
 i4 := by kernel_rfl,
 i5 := by kernel_rfl,
 i9 := by kernel_rfl,
 i20 := by kernel_rfl,
 i37 := by kernel_rfl,
 i46 := by kernel_rfl,
 i51 := by kernel_rfl,
 i53 := by kernel_rfl,
 i171 := by kernel_rfl,
 i173 := by kernel_rfl,
 i212 := by kernel_rfl,
 i232 := by kernel_rfl,
 i233 := by kernel_rfl,
 m17 := by kernel_rfl,
 m18 := by kernel_rfl,
 m19 := by kernel_rfl }
theorem strconv_Itoa_ok (u : Nat) (p0 : Int) (r : ByteArray) (h : strconv_Itoa u p0 = some r) : CallOK Tryz.prog 106 [.one (.i p0)] (.one (.t (.str r))) [] :=
 itoa_call ⟨_, Tryz.func106, by kernel_rfl, by kernel_rfl⟩ (k := 1) kr (fun n h0 h1 w ht => Go.Proofs.Any.strconv_Itoa laysItoa n h0 h1 w ht) h
theorem impl_NumText_ok (u : Nat) (p0 : Int) (r : ByteArray) (h : impl_NumText u p0 = some r) : CallOK Tryz.prog 64 [.one (.i p0)] (.one (.t (.str r))) [] := by
 unfold impl_NumText at h
 refine CallOK.of_bodyK (fn := Tryz.f64) (m := false) [.i p0] kr rfl kr kr kr kr kr ?_
 refine Wp.sag ⟨[(0, .i p0), (2, .t (.str ((ByteArray.mk #[]))))], [], []⟩ ?_
 refine Wp.sb 1 ?_
 obtain ⟨r1, e_r1, h⟩ := bind_some h
 refine Runs.ck 4 [.i p0] (strconv_Itoa_ok u p0 r1 e_r1) ?_
 refine Runs.allf ⟨[(2, .t (.str r1))], [], []⟩ ?_
 refine Wp.ret ?_
 obtain rfl := oi h
 exact RetK [.t (.str r1)] _ [] kr kr (.refl _) .nil
theorem bits_OnesCount64_ok (u : Nat) (p0 : Int) (r : Int) (h : bits_OnesCount64 u p0 = some r) : CallOK Tryz.prog 126 [.one (.t (.int .u64 p0))] (.one (.i r)) [] := by
 unfold bits_OnesCount64 at h
 refine CallOK.of_bodyK (fn := Tryz.f126) (m := false) [.t (.int .u64 p0)] kr rfl kr kr kr kr kr ?_
 refine Wp.sag ⟨[(0, .t (.int .u64 p0)), (2, .i 0)], [], []⟩ ?_
 refine Wp.sag ⟨[(0, .t (.int .u64 (bAdd .u64 (bAnd .u64 (bShr .u64 p0 1) 6148914691236517205) (bAnd .u64 p0 6148914691236517205)))), (2, .i 0)], [], []⟩ ?_
 refine Wp.sag ⟨[(0, .t (.int .u64 (bAdd .u64 (bAnd .u64 (bShr .u64 (bAdd .u64 (bAnd .u64 (bShr .u64 p0 1) 6148914691236517205) (bAnd .u64 p0 6148914691236517205)) 2) 3689348814741910323) (bAnd .u64 (bAdd .u64 (bAnd .u64 (bShr .u64 p0 1) 6148914691236517205) (bAnd .u64 p0 6148914691236517205)) 3689348814741910323)))), (2, .i 0)], [], []⟩ ?_
 refine Wp.sag ⟨[(0, .t (.int .u64 (bAnd .u64 (bAdd .u64 (bShr .u64 (bAdd .u64 (bAnd .u64 (bShr .u64 (bAdd .u64 (bAnd .u64 (bShr .u64 p0 1) 6148914691236517205) (bAnd .u64 p0 6148914691236517205)) 2) 3689348814741910323) (bAnd .u64 (bAdd .u64 (bAnd .u64 (bShr .u64 p0 1) 6148914691236517205) (bAnd .u64 p0 6148914691236517205)) 3689348814741910323)) 4) (bAdd .u64 (bAnd .u64 (bShr .u64 (bAdd .u64 (bAnd .u64 (bShr .u64 p0 1) 6148914691236517205) (bAnd .u64 p0 6148914691236517205)) 2) 3689348814741910323) (bAnd .u64 (bAdd .u64 (bAnd .u64 (bShr .u64 p0 1) 6148914691236517205) (bAnd .u64 p0 6148914691236517205)) 3689348814741910323))) 1085102592571150095))), (2, .i 0)], [], []⟩ ?_
 refine Wp.sag ⟨[(0, .t (.int .u64 (bAdd .u64 (bAnd .u64 (bAdd .u64 (bShr .u64 (bAdd .u64 (bAnd .u64 (bShr .u64 (bAdd .u64 (bAnd .u64 (bShr .u64 p0 1) 6148914691236517205) (bAnd .u64 p0 6148914691236517205)) 2) 3689348814741910323) (bAnd .u64 (bAdd .u64 (bAnd .u64 (bShr .u64 p0 1) 6148914691236517205) (bAnd .u64 p0 6148914691236517205)) 3689348814741910323)) 4) (bAdd .u64 (bAnd .u64 (bShr .u64 (bAdd .u64 (bAnd .u64 (bShr .u64 p0 1) 6148914691236517205) (bAnd .u64 p0 6148914691236517205)) 2) 3689348814741910323) (bAnd .u64 (bAdd .u64 (bAnd .u64 (bShr .u64 p0 1) 6148914691236517205) (bAnd .u64 p0 6148914691236517205)) 3689348814741910323))) 1085102592571150095) (bShr .u64 (bAnd .u64 (bAdd .u64 (bShr .u64 (bAdd .u64 (bAnd .u64 (bShr .u64 (bAdd .u64 (bAnd .u64 (bShr .u64 p0 1) 6148914691236517205) (bAnd .u64 p0 6148914691236517205)) 2) 3689348814741910323) (bAnd .u64 (bAdd .u64 (bAnd .u64 (bShr .u64 p0 1) 6148914691236517205) (bAnd .u64 p0 6148914691236517205)) 3689348814741910323)) 4) (bAdd .u64 (bAnd .u64 (bShr .u64 (bAdd .u64 (bAnd .u64 (bShr .u64 p0 1) 6148914691236517205) (bAnd .u64 p0 6148914691236517205)) 2) 3689348814741910323) (bAnd .u64 (bAdd .u64 (bAnd .u64 (bShr .u64 p0 1) 6148914691236517205) (bAnd .u64 p0 6148914691236517205)) 3689348814741910323))) 1085102592571150095) 8)))), (2, .i 0)], [], []⟩ ?_
 refine Wp.sag ⟨[(0, .t (.int .u64 (bAdd .u64 (bAdd .u64 (bAnd .u64 (bAdd .u64 (bShr .u64 (bAdd .u64 (bAnd .u64 (bShr .u64 (bAdd .u64 (bAnd .u64 (bShr .u64 p0 1) 6148914691236517205) (bAnd .u64 p0 6148914691236517205)) 2) 3689348814741910323) (bAnd .u64 (bAdd .u64 (bAnd .u64 (bShr .u64 p0 1) 6148914691236517205) (bAnd .u64 p0 6148914691236517205)) 3689348814741910323)) 4) (bAdd .u64 (bAnd .u64 (bShr .u64 (bAdd .u64 (bAnd .u64 (bShr .u64 p0 1) 6148914691236517205) (bAnd .u64 p0 6148914691236517205)) 2) 3689348814741910323) (bAnd .u64 (bAdd .u64 (bAnd .u64 (bShr .u64 p0 1) 6148914691236517205) (bAnd .u64 p0 6148914691236517205)) 3689348814741910323))) 1085102592571150095) (bShr .u64 (bAnd .u64 (bAdd .u64 (bShr .u64 (bAdd .u64 (bAnd .u64 (bShr .u64 (bAdd .u64 (bAnd .u64 (bShr .u64 p0 1) 6148914691236517205) (bAnd .u64 p0 6148914691236517205)) 2) 3689348814741910323) (bAnd .u64 (bAdd .u64 (bAnd .u64 (bShr .u64 p0 1) 6148914691236517205) (bAnd .u64 p0 6148914691236517205)) 3689348814741910323)) 4) (bAdd .u64 (bAnd .u64 (bShr .u64 (bAdd .u64 (bAnd .u64 (bShr .u64 p0 1) 6148914691236517205) (bAnd .u64 p0 6148914691236517205)) 2) 3689348814741910323) (bAnd .u64 (bAdd .u64 (bAnd .u64 (bShr .u64 p0 1) 6148914691236517205) (bAnd .u64 p0 6148914691236517205)) 3689348814741910323))) 1085102592571150095) 8)) (bShr .u64 (bAdd .u64 (bAnd .u64 (bAdd .u64 (bShr .u64 (bAdd .u64 (bAnd .u64 (bShr .u64 (bAdd .u64 (bAnd .u64 (bShr .u64 p0 1) 6148914691236517205) (bAnd .u64 p0 6148914691236517205)) 2) 3689348814741910323) (bAnd .u64 (bAdd .u64 (bAnd .u64 (bShr .u64 p0 1) 6148914691236517205) (bAnd .u64 p0 6148914691236517205)) 3689348814741910323)) 4) (bAdd .u64 (bAnd .u64 (bShr .u64 (bAdd .u64 (bAnd .u64 (bShr .u64 p0 1) 6148914691236517205) (bAnd .u64 p0 6148914691236517205)) 2) 3689348814741910323) (bAnd .u64 (bAdd .u64 (bAnd .u64 (bShr .u64 p0 1) 6148914691236517205) (bAnd .u64 p0 6148914691236517205)) 3689348814741910323))) 1085102592571150095) (bShr .u64 (bAnd .u64 (bAdd .u64 (bShr .u64 (bAdd .u64 (bAnd .u64 (bShr .u64 (bAdd .u64 (bAnd .u64 (bShr .u64 p0 1) 6148914691236517205) (bAnd .u64 p0 6148914691236517205)) 2) 3689348814741910323) (bAnd .u64 (bAdd .u64 (bAnd .u64 (bShr .u64 p0 1) 6148914691236517205) (bAnd .u64 p0 6148914691236517205)) 3689348814741910323)) 4) (bAdd .u64 (bAnd .u64 (bShr .u64 (bAdd .u64 (bAnd .u64 (bShr .u64 p0 1) 6148914691236517205) (bAnd .u64 p0 6148914691236517205)) 2) 3689348814741910323) (bAnd .u64 (bAdd .u64 (bAnd .u64 (bShr .u64 p0 1) 6148914691236517205) (bAnd .u64 p0 6148914691236517205)) 3689348814741910323))) 1085102592571150095) 8)) 16)))), (2, .i 0)], [], []⟩ ?_
 refine Wp.sag ⟨[(0, .t (.int .u64 (bAdd .u64 (bAdd .u64 (bAdd .u64 (bAnd .u64 (bAdd .u64 (bShr .u64 (bAdd .u64 (bAnd .u64 (bShr .u64 (bAdd .u64 (bAnd .u64 (bShr .u64 p0 1) 6148914691236517205) (bAnd .u64 p0 6148914691236517205)) 2) 3689348814741910323) (bAnd .u64 (bAdd .u64 (bAnd .u64 (bShr .u64 p0 1) 6148914691236517205) (bAnd .u64 p0 6148914691236517205)) 3689348814741910323)) 4) (bAdd .u64 (bAnd .u64 (bShr .u64 (bAdd .u64 (bAnd .u64 (bShr .u64 p0 1) 6148914691236517205) (bAnd .u64 p0 6148914691236517205)) 2) 3689348814741910323) (bAnd .u64 (bAdd .u64 (bAnd .u64 (bShr .u64 p0 1) 6148914691236517205) (bAnd .u64 p0 6148914691236517205)) 3689348814741910323))) 1085102592571150095) (bShr .u64 (bAnd .u64 (bAdd .u64 (bShr .u64 (bAdd .u64 (bAnd .u64 (bShr .u64 (bAdd .u64 (bAnd .u64 (bShr .u64 p0 1) 6148914691236517205) (bAnd .u64 p0 6148914691236517205)) 2) 3689348814741910323) (bAnd .u64 (bAdd .u64 (bAnd .u64 (bShr .u64 p0 1) 6148914691236517205) (bAnd .u64 p0 6148914691236517205)) 3689348814741910323)) 4) (bAdd .u64 (bAnd .u64 (bShr .u64 (bAdd .u64 (bAnd .u64 (bShr .u64 p0 1) 6148914691236517205) (bAnd .u64 p0 6148914691236517205)) 2) 3689348814741910323) (bAnd .u64 (bAdd .u64 (bAnd .u64 (bShr .u64 p0 1) 6148914691236517205) (bAnd .u64 p0 6148914691236517205)) 3689348814741910323))) 1085102592571150095) 8)) (bShr .u64 (bAdd .u64 (bAnd .u64 (bAdd .u64 (bShr .u64 (bAdd .u64 (bAnd .u64 (bShr .u64 (bAdd .u64 (bAnd .u64 (bShr .u64 p0 1) 6148914691236517205) (bAnd .u64 p0 6148914691236517205)) 2) 3689348814741910323) (bAnd .u64 (bAdd .u64 (bAnd .u64 (bShr .u64 p0 1) 6148914691236517205) (bAnd .u64 p0 6148914691236517205)) 3689348814741910323)) 4) (bAdd .u64 (bAnd .u64 (bShr .u64 (bAdd .u64 (bAnd .u64 (bShr .u64 p0 1) 6148914691236517205) (bAnd .u64 p0 6148914691236517205)) 2) 3689348814741910323) (bAnd .u64 (bAdd .u64 (bAnd .u64 (bShr .u64 p0 1) 6148914691236517205) (bAnd .u64 p0 6148914691236517205)) 3689348814741910323))) 1085102592571150095) (bShr .u64 (bAnd .u64 (bAdd .u64 (bShr .u64 (bAdd .u64 (bAnd .u64 (bShr .u64 (bAdd .u64 (bAnd .u64 (bShr .u64 p0 1) 6148914691236517205) (bAnd .u64 p0 6148914691236517205)) 2) 3689348814741910323) (bAnd .u64 (bAdd .u64 (bAnd .u64 (bShr .u64 p0 1) 6148914691236517205) (bAnd .u64 p0 6148914691236517205)) 3689348814741910323)) 4) (bAdd .u64 (bAnd .u64 (bShr .u64 (bAdd .u64 (bAnd .u64 (bShr .u64 p0 1) 6148914691236517205) (bAnd .u64 p0 6148914691236517205)) 2) 3689348814741910323) (bAnd .u64 (bAdd .u64 (bAnd .u64 (bShr .u64 p0 1) 6148914691236517205) (bAnd .u64 p0 6148914691236517205)) 3689348814741910323))) 1085102592571150095) 8)) 16)) (bShr .u64 (bAdd .u64 (bAdd .u64 (bAnd .u64 (bAdd .u64 (bShr .u64 (bAdd .u64 (bAnd .u64 (bShr .u64 (bAdd .u64 (bAnd .u64 (bShr .u64 p0 1) 6148914691236517205) (bAnd .u64 p0 6148914691236517205)) 2) 3689348814741910323) (bAnd .u64 (bAdd .u64 (bAnd .u64 (bShr .u64 p0 1) 6148914691236517205) (bAnd .u64 p0 6148914691236517205)) 3689348814741910323)) 4) (bAdd .u64 (bAnd .u64 (bShr .u64 (bAdd .u64 (bAnd .u64 (bShr .u64 p0 1) 6148914691236517205) (bAnd .u64 p0 6148914691236517205)) 2) 3689348814741910323) (bAnd .u64 (bAdd .u64 (bAnd .u64 (bShr .u64 p0 1) 6148914691236517205) (bAnd .u64 p0 6148914691236517205)) 3689348814741910323))) 1085102592571150095) (bShr .u64 (bAnd .u64 (bAdd .u64 (bShr .u64 (bAdd .u64 (bAnd .u64 (bShr .u64 (bAdd .u64 (bAnd .u64 (bShr .u64 p0 1) 6148914691236517205) (bAnd .u64 p0 6148914691236517205)) 2) 3689348814741910323) (bAnd .u64 (bAdd .u64 (bAnd .u64 (bShr .u64 p0 1) 6148914691236517205) (bAnd .u64 p0 6148914691236517205)) 3689348814741910323)) 4) (bAdd .u64 (bAnd .u64 (bShr .u64 (bAdd .u64 (bAnd .u64 (bShr .u64 p0 1) 6148914691236517205) (bAnd .u64 p0 6148914691236517205)) 2) 3689348814741910323) (bAnd .u64 (bAdd .u64 (bAnd .u64 (bShr .u64 p0 1) 6148914691236517205) (bAnd .u64 p0 6148914691236517205)) 3689348814741910323))) 1085102592571150095) 8)) (bShr .u64 (bAdd .u64 (bAnd .u64 (bAdd .u64 (bShr .u64 (bAdd .u64 (bAnd .u64 (bShr .u64 (bAdd .u64 (bAnd .u64 (bShr .u64 p0 1) 6148914691236517205) (bAnd .u64 p0 6148914691236517205)) 2) 3689348814741910323) (bAnd .u64 (bAdd .u64 (bAnd .u64 (bShr .u64 p0 1) 6148914691236517205) (bAnd .u64 p0 6148914691236517205)) 3689348814741910323)) 4) (bAdd .u64 (bAnd .u64 (bShr .u64 (bAdd .u64 (bAnd .u64 (bShr .u64 p0 1) 6148914691236517205) (bAnd .u64 p0 6148914691236517205)) 2) 3689348814741910323) (bAnd .u64 (bAdd .u64 (bAnd .u64 (bShr .u64 p0 1) 6148914691236517205) (bAnd .u64 p0 6148914691236517205)) 3689348814741910323))) 1085102592571150095) (bShr .u64 (bAnd .u64 (bAdd .u64 (bShr .u64 (bAdd .u64 (bAnd .u64 (bShr .u64 (bAdd .u64 (bAnd .u64 (bShr .u64 p0 1) 6148914691236517205) (bAnd .u64 p0 6148914691236517205)) 2) 3689348814741910323) (bAnd .u64 (bAdd .u64 (bAnd .u64 (bShr .u64 p0 1) 6148914691236517205) (bAnd .u64 p0 6148914691236517205)) 3689348814741910323)) 4) (bAdd .u64 (bAnd .u64 (bShr .u64 (bAdd .u64 (bAnd .u64 (bShr .u64 p0 1) 6148914691236517205) (bAnd .u64 p0 6148914691236517205)) 2) 3689348814741910323) (bAnd .u64 (bAdd .u64 (bAnd .u64 (bShr .u64 p0 1) 6148914691236517205) (bAnd .u64 p0 6148914691236517205)) 3689348814741910323))) 1085102592571150095) 8)) 16)) 32)))), (2, .i 0)], [], []⟩ ?_
 refine Wp.sag ⟨[(2, .i (bAnd .i64 (IntKind.wrap .i64 (bAdd .u64 (bAdd .u64 (bAdd .u64 (bAnd .u64 (bAdd .u64 (bShr .u64 (bAdd .u64 (bAnd .u64 (bShr .u64 (bAdd .u64 (bAnd .u64 (bShr .u64 p0 1) 6148914691236517205) (bAnd .u64 p0 6148914691236517205)) 2) 3689348814741910323) (bAnd .u64 (bAdd .u64 (bAnd .u64 (bShr .u64 p0 1) 6148914691236517205) (bAnd .u64 p0 6148914691236517205)) 3689348814741910323)) 4) (bAdd .u64 (bAnd .u64 (bShr .u64 (bAdd .u64 (bAnd .u64 (bShr .u64 p0 1) 6148914691236517205) (bAnd .u64 p0 6148914691236517205)) 2) 3689348814741910323) (bAnd .u64 (bAdd .u64 (bAnd .u64 (bShr .u64 p0 1) 6148914691236517205) (bAnd .u64 p0 6148914691236517205)) 3689348814741910323))) 1085102592571150095) (bShr .u64 (bAnd .u64 (bAdd .u64 (bShr .u64 (bAdd .u64 (bAnd .u64 (bShr .u64 (bAdd .u64 (bAnd .u64 (bShr .u64 p0 1) 6148914691236517205) (bAnd .u64 p0 6148914691236517205)) 2) 3689348814741910323) (bAnd .u64 (bAdd .u64 (bAnd .u64 (bShr .u64 p0 1) 6148914691236517205) (bAnd .u64 p0 6148914691236517205)) 3689348814741910323)) 4) (bAdd .u64 (bAnd .u64 (bShr .u64 (bAdd .u64 (bAnd .u64 (bShr .u64 p0 1) 6148914691236517205) (bAnd .u64 p0 6148914691236517205)) 2) 3689348814741910323) (bAnd .u64 (bAdd .u64 (bAnd .u64 (bShr .u64 p0 1) 6148914691236517205) (bAnd .u64 p0 6148914691236517205)) 3689348814741910323))) 1085102592571150095) 8)) (bShr .u64 (bAdd .u64 (bAnd .u64 (bAdd .u64 (bShr .u64 (bAdd .u64 (bAnd .u64 (bShr .u64 (bAdd .u64 (bAnd .u64 (bShr .u64 p0 1) 6148914691236517205) (bAnd .u64 p0 6148914691236517205)) 2) 3689348814741910323) (bAnd .u64 (bAdd .u64 (bAnd .u64 (bShr .u64 p0 1) 6148914691236517205) (bAnd .u64 p0 6148914691236517205)) 3689348814741910323)) 4) (bAdd .u64 (bAnd .u64 (bShr .u64 (bAdd .u64 (bAnd .u64 (bShr .u64 p0 1) 6148914691236517205) (bAnd .u64 p0 6148914691236517205)) 2) 3689348814741910323) (bAnd .u64 (bAdd .u64 (bAnd .u64 (bShr .u64 p0 1) 6148914691236517205) (bAnd .u64 p0 6148914691236517205)) 3689348814741910323))) 1085102592571150095) (bShr .u64 (bAnd .u64 (bAdd .u64 (bShr .u64 (bAdd .u64 (bAnd .u64 (bShr .u64 (bAdd .u64 (bAnd .u64 (bShr .u64 p0 1) 6148914691236517205) (bAnd .u64 p0 6148914691236517205)) 2) 3689348814741910323) (bAnd .u64 (bAdd .u64 (bAnd .u64 (bShr .u64 p0 1) 6148914691236517205) (bAnd .u64 p0 6148914691236517205)) 3689348814741910323)) 4) (bAdd .u64 (bAnd .u64 (bShr .u64 (bAdd .u64 (bAnd .u64 (bShr .u64 p0 1) 6148914691236517205) (bAnd .u64 p0 6148914691236517205)) 2) 3689348814741910323) (bAnd .u64 (bAdd .u64 (bAnd .u64 (bShr .u64 p0 1) 6148914691236517205) (bAnd .u64 p0 6148914691236517205)) 3689348814741910323))) 1085102592571150095) 8)) 16)) (bShr .u64 (bAdd .u64 (bAdd .u64 (bAnd .u64 (bAdd .u64 (bShr .u64 (bAdd .u64 (bAnd .u64 (bShr .u64 (bAdd .u64 (bAnd .u64 (bShr .u64 p0 1) 6148914691236517205) (bAnd .u64 p0 6148914691236517205)) 2) 3689348814741910323) (bAnd .u64 (bAdd .u64 (bAnd .u64 (bShr .u64 p0 1) 6148914691236517205) (bAnd .u64 p0 6148914691236517205)) 3689348814741910323)) 4) (bAdd .u64 (bAnd .u64 (bShr .u64 (bAdd .u64 (bAnd .u64 (bShr .u64 p0 1) 6148914691236517205) (bAnd .u64 p0 6148914691236517205)) 2) 3689348814741910323) (bAnd .u64 (bAdd .u64 (bAnd .u64 (bShr .u64 p0 1) 6148914691236517205) (bAnd .u64 p0 6148914691236517205)) 3689348814741910323))) 1085102592571150095) (bShr .u64 (bAnd .u64 (bAdd .u64 (bShr .u64 (bAdd .u64 (bAnd .u64 (bShr .u64 (bAdd .u64 (bAnd .u64 (bShr .u64 p0 1) 6148914691236517205) (bAnd .u64 p0 6148914691236517205)) 2) 3689348814741910323) (bAnd .u64 (bAdd .u64 (bAnd .u64 (bShr .u64 p0 1) 6148914691236517205) (bAnd .u64 p0 6148914691236517205)) 3689348814741910323)) 4) (bAdd .u64 (bAnd .u64 (bShr .u64 (bAdd .u64 (bAnd .u64 (bShr .u64 p0 1) 6148914691236517205) (bAnd .u64 p0 6148914691236517205)) 2) 3689348814741910323) (bAnd .u64 (bAdd .u64 (bAnd .u64 (bShr .u64 p0 1) 6148914691236517205) (bAnd .u64 p0 6148914691236517205)) 3689348814741910323))) 1085102592571150095) 8)) (bShr .u64 (bAdd .u64 (bAnd .u64 (bAdd .u64 (bShr .u64 (bAdd .u64 (bAnd .u64 (bShr .u64 (bAdd .u64 (bAnd .u64 (bShr .u64 p0 1) 6148914691236517205) (bAnd .u64 p0 6148914691236517205)) 2) 3689348814741910323) (bAnd .u64 (bAdd .u64 (bAnd .u64 (bShr .u64 p0 1) 6148914691236517205) (bAnd .u64 p0 6148914691236517205)) 3689348814741910323)) 4) (bAdd .u64 (bAnd .u64 (bShr .u64 (bAdd .u64 (bAnd .u64 (bShr .u64 p0 1) 6148914691236517205) (bAnd .u64 p0 6148914691236517205)) 2) 3689348814741910323) (bAnd .u64 (bAdd .u64 (bAnd .u64 (bShr .u64 p0 1) 6148914691236517205) (bAnd .u64 p0 6148914691236517205)) 3689348814741910323))) 1085102592571150095) (bShr .u64 (bAnd .u64 (bAdd .u64 (bShr .u64 (bAdd .u64 (bAnd .u64 (bShr .u64 (bAdd .u64 (bAnd .u64 (bShr .u64 p0 1) 6148914691236517205) (bAnd .u64 p0 6148914691236517205)) 2) 3689348814741910323) (bAnd .u64 (bAdd .u64 (bAnd .u64 (bShr .u64 p0 1) 6148914691236517205) (bAnd .u64 p0 6148914691236517205)) 3689348814741910323)) 4) (bAdd .u64 (bAnd .u64 (bShr .u64 (bAdd .u64 (bAnd .u64 (bShr .u64 p0 1) 6148914691236517205) (bAnd .u64 p0 6148914691236517205)) 2) 3689348814741910323) (bAnd .u64 (bAdd .u64 (bAnd .u64 (bShr .u64 p0 1) 6148914691236517205) (bAnd .u64 p0 6148914691236517205)) 3689348814741910323))) 1085102592571150095) 8)) 16)) 32))) 127))], [], []⟩ ?_
 refine Wp.ret ?_
 obtain rfl := oi h
 exact RetK [.i (bAnd .i64 (IntKind.wrap .i64 (bAdd .u64 (bAdd .u64 (bAdd .u64 (bAnd .u64 (bAdd .u64 (bShr .u64 (bAdd .u64 (bAnd .u64 (bShr .u64 (bAdd .u64 (bAnd .u64 (bShr .u64 p0 1) 6148914691236517205) (bAnd .u64 p0 6148914691236517205)) 2) 3689348814741910323) (bAnd .u64 (bAdd .u64 (bAnd .u64 (bShr .u64 p0 1) 6148914691236517205) (bAnd .u64 p0 6148914691236517205)) 3689348814741910323)) 4) (bAdd .u64 (bAnd .u64 (bShr .u64 (bAdd .u64 (bAnd .u64 (bShr .u64 p0 1) 6148914691236517205) (bAnd .u64 p0 6148914691236517205)) 2) 3689348814741910323) (bAnd .u64 (bAdd .u64 (bAnd .u64 (bShr .u64 p0 1) 6148914691236517205) (bAnd .u64 p0 6148914691236517205)) 3689348814741910323))) 1085102592571150095) (bShr .u64 (bAnd .u64 (bAdd .u64 (bShr .u64 (bAdd .u64 (bAnd .u64 (bShr .u64 (bAdd .u64 (bAnd .u64 (bShr .u64 p0 1) 6148914691236517205) (bAnd .u64 p0 6148914691236517205)) 2) 3689348814741910323) (bAnd .u64 (bAdd .u64 (bAnd .u64 (bShr .u64 p0 1) 6148914691236517205) (bAnd .u64 p0 6148914691236517205)) 3689348814741910323)) 4) (bAdd .u64 (bAnd .u64 (bShr .u64 (bAdd .u64 (bAnd .u64 (bShr .u64 p0 1) 6148914691236517205) (bAnd .u64 p0 6148914691236517205)) 2) 3689348814741910323) (bAnd .u64 (bAdd .u64 (bAnd .u64 (bShr .u64 p0 1) 6148914691236517205) (bAnd .u64 p0 6148914691236517205)) 3689348814741910323))) 1085102592571150095) 8)) (bShr .u64 (bAdd .u64 (bAnd .u64 (bAdd .u64 (bShr .u64 (bAdd .u64 (bAnd .u64 (bShr .u64 (bAdd .u64 (bAnd .u64 (bShr .u64 p0 1) 6148914691236517205) (bAnd .u64 p0 6148914691236517205)) 2) 3689348814741910323) (bAnd .u64 (bAdd .u64 (bAnd .u64 (bShr .u64 p0 1) 6148914691236517205) (bAnd .u64 p0 6148914691236517205)) 3689348814741910323)) 4) (bAdd .u64 (bAnd .u64 (bShr .u64 (bAdd .u64 (bAnd .u64 (bShr .u64 p0 1) 6148914691236517205) (bAnd .u64 p0 6148914691236517205)) 2) 3689348814741910323) (bAnd .u64 (bAdd .u64 (bAnd .u64 (bShr .u64 p0 1) 6148914691236517205) (bAnd .u64 p0 6148914691236517205)) 3689348814741910323))) 1085102592571150095) (bShr .u64 (bAnd .u64 (bAdd .u64 (bShr .u64 (bAdd .u64 (bAnd .u64 (bShr .u64 (bAdd .u64 (bAnd .u64 (bShr .u64 p0 1) 6148914691236517205) (bAnd .u64 p0 6148914691236517205)) 2) 3689348814741910323) (bAnd .u64 (bAdd .u64 (bAnd .u64 (bShr .u64 p0 1) 6148914691236517205) (bAnd .u64 p0 6148914691236517205)) 3689348814741910323)) 4) (bAdd .u64 (bAnd .u64 (bShr .u64 (bAdd .u64 (bAnd .u64 (bShr .u64 p0 1) 6148914691236517205) (bAnd .u64 p0 6148914691236517205)) 2) 3689348814741910323) (bAnd .u64 (bAdd .u64 (bAnd .u64 (bShr .u64 p0 1) 6148914691236517205) (bAnd .u64 p0 6148914691236517205)) 3689348814741910323))) 1085102592571150095) 8)) 16)) (bShr .u64 (bAdd .u64 (bAdd .u64 (bAnd .u64 (bAdd .u64 (bShr .u64 (bAdd .u64 (bAnd .u64 (bShr .u64 (bAdd .u64 (bAnd .u64 (bShr .u64 p0 1) 6148914691236517205) (bAnd .u64 p0 6148914691236517205)) 2) 3689348814741910323) (bAnd .u64 (bAdd .u64 (bAnd .u64 (bShr .u64 p0 1) 6148914691236517205) (bAnd .u64 p0 6148914691236517205)) 3689348814741910323)) 4) (bAdd .u64 (bAnd .u64 (bShr .u64 (bAdd .u64 (bAnd .u64 (bShr .u64 p0 1) 6148914691236517205) (bAnd .u64 p0 6148914691236517205)) 2) 3689348814741910323) (bAnd .u64 (bAdd .u64 (bAnd .u64 (bShr .u64 p0 1) 6148914691236517205) (bAnd .u64 p0 6148914691236517205)) 3689348814741910323))) 1085102592571150095) (bShr .u64 (bAnd .u64 (bAdd .u64 (bShr .u64 (bAdd .u64 (bAnd .u64 (bShr .u64 (bAdd .u64 (bAnd .u64 (bShr .u64 p0 1) 6148914691236517205) (bAnd .u64 p0 6148914691236517205)) 2) 3689348814741910323) (bAnd .u64 (bAdd .u64 (bAnd .u64 (bShr .u64 p0 1) 6148914691236517205) (bAnd .u64 p0 6148914691236517205)) 3689348814741910323)) 4) (bAdd .u64 (bAnd .u64 (bShr .u64 (bAdd .u64 (bAnd .u64 (bShr .u64 p0 1) 6148914691236517205) (bAnd .u64 p0 6148914691236517205)) 2) 3689348814741910323) (bAnd .u64 (bAdd .u64 (bAnd .u64 (bShr .u64 p0 1) 6148914691236517205) (bAnd .u64 p0 6148914691236517205)) 3689348814741910323))) 1085102592571150095) 8)) (bShr .u64 (bAdd .u64 (bAnd .u64 (bAdd .u64 (bShr .u64 (bAdd .u64 (bAnd .u64 (bShr .u64 (bAdd .u64 (bAnd .u64 (bShr .u64 p0 1) 6148914691236517205) (bAnd .u64 p0 6148914691236517205)) 2) 3689348814741910323) (bAnd .u64 (bAdd .u64 (bAnd .u64 (bShr .u64 p0 1) 6148914691236517205) (bAnd .u64 p0 6148914691236517205)) 3689348814741910323)) 4) (bAdd .u64 (bAnd .u64 (bShr .u64 (bAdd .u64 (bAnd .u64 (bShr .u64 p0 1) 6148914691236517205) (bAnd .u64 p0 6148914691236517205)) 2) 3689348814741910323) (bAnd .u64 (bAdd .u64 (bAnd .u64 (bShr .u64 p0 1) 6148914691236517205) (bAnd .u64 p0 6148914691236517205)) 3689348814741910323))) 1085102592571150095) (bShr .u64 (bAnd .u64 (bAdd .u64 (bShr .u64 (bAdd .u64 (bAnd .u64 (bShr .u64 (bAdd .u64 (bAnd .u64 (bShr .u64 p0 1) 6148914691236517205) (bAnd .u64 p0 6148914691236517205)) 2) 3689348814741910323) (bAnd .u64 (bAdd .u64 (bAnd .u64 (bShr .u64 p0 1) 6148914691236517205) (bAnd .u64 p0 6148914691236517205)) 3689348814741910323)) 4) (bAdd .u64 (bAnd .u64 (bShr .u64 (bAdd .u64 (bAnd .u64 (bShr .u64 p0 1) 6148914691236517205) (bAnd .u64 p0 6148914691236517205)) 2) 3689348814741910323) (bAnd .u64 (bAdd .u64 (bAnd .u64 (bShr .u64 p0 1) 6148914691236517205) (bAnd .u64 p0 6148914691236517205)) 3689348814741910323))) 1085102592571150095) 8)) 16)) 32))) 127)] _ [] kr kr (.refl _) .nil
theorem impl_CountSet_ok (u : Nat) (p0 : Int) (r : Int) (h : impl_CountSet u p0 = some r) : CallOK Tryz.prog 86 [.one (.i p0)] (.one (.i r)) [] := by
 unfold impl_CountSet at h
 refine CallOK.of_bodyK (fn := Tryz.f86) (m := false) [.i p0] kr rfl kr kr kr kr kr ?_
 refine Wp.sag ⟨[(0, .i p0), (2, .i 0)], [], []⟩ ?_
 refine Wp.seq ?_
 refine Wp.sb 1 ?_
 obtain ⟨r1, e_r1, h⟩ := bind_some h
 refine Runs.ck 4 [.i p0] (impl_SetOk_ok u p0 r1 e_r1) ?_
 refine Runs.allf ⟨[(0, .i p0), (2, .i 0), (5, .b (!r1))], [], []⟩ ?_
 refine Wp.c2 h (fun h => ?_) (fun h => ?_)
 ·refine Wp.sag ⟨[(0, .i p0), (2, .i 0)], [], []⟩ ?_
  refine Wp.ret ?_
  refine thenR ?_
  obtain rfl := oi h
  exact RetK [.i 0] _ [] kr kr (.refl _) .nil
 refine Wp.sk ?_
 refine Wp.sb 2 ?_
 obtain ⟨r2, e_r2, h⟩ := bind_some h
 refine Runs.ck 8 [.t (.int .u64 (IntKind.wrap .u64 p0))] (bits_OnesCount64_ok u (IntKind.wrap .u64 p0) r2 e_r2) ?_
 refine Runs.allf ⟨[(2, .i r2)], [], []⟩ ?_
 refine Wp.ret ?_
 obtain rfl := oi h
 exact RetK [.i r2] _ [] kr kr (.refl _) .nil
theorem impl_MsgText_ok (u : Nat) (p0 : Msg) (r : ByteArray) (h : impl_MsgText u p0 = some r) : CallOK Tryz.prog 93 [.agg [.i p0.fKind, .i p0.fGen, .i p0.fMan.fGen, .i p0.fMan.fSize, .i p0.fMan.fLen, .t (.sl 2 (p0.fMan.fSums.map Sum.enc)), .i p0.fWant, .i p0.fDone, .i p0.fI, .s p0.fB]] (.one (.t (.str r))) [] := by
 unfold impl_MsgText at h
 refine CallOK.of_bodyK (fn := Tryz.f93) (m := false) [.agg ((Msg.enc p0).map .t)] kr rfl kr kr kr kr kr ?_
 refine Wp.sag ⟨[(1, .obj 1 0), (2, .t (.str ((ByteArray.mk #[]))))], [(1, ((Msg.enc p0).map .t))], []⟩ ?_
 refine Wp.seq ?_
 refine Wp.sb 1 ?_
 obtain ⟨r1, e_r1, h⟩ := bind_some h
 refine Runs.ck 4 [.agg ((Msg.enc p0).map .t)] (impl_MsgOk_ok u p0 r1 e_r1) ?_
 refine Runs.allf ⟨[(1, .obj 1 0), (2, .t (.str ((ByteArray.mk #[])))), (5, .b (!r1))], [(1, ((Msg.enc p0).map .t))], []⟩ ?_
 refine Wp.c2 h (fun h => ?_) (fun h => ?_)
 ·refine Wp.sag ⟨[(1, .obj 1 0), (2, .t (.str ((ByteArray.mk #[]))))], [(1, ((Msg.enc p0).map .t))], []⟩ ?_
  refine Wp.ret ?_
  refine thenR ?_
  obtain rfl := oi h
  exact RetK [.t (.str ((ByteArray.mk #[])))] _ [] kr kr (.refl _) .nil
 refine Wp.sk ?_
 refine Wp.seq ?_
 refine Wp.sag ⟨[(1, .obj 1 0), (2, .t (.str ((ByteArray.mk #[])))), (7, .i p0.fKind)], [(1, ((Msg.enc p0).map .t))], []⟩ ?_
 refine Wp.block ?_
 refine Wp.sag ⟨[(1, .obj 1 0), (2, .t (.str ((ByteArray.mk #[])))), (7, .i p0.fKind), (8, .b (p0.fKind == 1))], [(1, ((Msg.enc p0).map .t))], []⟩ ?_
 refine Wp.c2 h (fun h => ?_) (fun h => ?_)
 ·refine Wp.sb 3 ?_
  obtain ⟨r2, e_r2, h⟩ := bind_some h
  refine Runs.ck 13 [.i p0.fMan.fGen] (impl_NumText_ok u p0.fMan.fGen r2 e_r2) ?_
  obtain ⟨_, e_3, h⟩ := bind_some h
  refine Runs.cat ((ByteArray.mk #[109, 97, 110, 32])) r2 rfl kr kr kr kr (of_decide_eq_true (chk_some e_3)) ?_
  refine Runs.allf ⟨[(1, .obj 1 0), (2, .t (.str (((ByteArray.mk #[109, 97, 110, 32])) ++ r2)))], [(1, ((Msg.enc p0).map .t))], []⟩ ?_
  refine Wp.ret ?_
  refine blkR ?_
  refine thenR ?_
  obtain rfl := oi h
  exact RetK [.t (.str (((ByteArray.mk #[109, 97, 110, 32])) ++ r2))] _ [] kr kr (.refl _) .nil
 refine Wp.sag ⟨[(1, .obj 1 0), (2, .t (.str ((ByteArray.mk #[])))), (7, .i p0.fKind), (15, .b (p0.fKind == 2))], [(1, ((Msg.enc p0).map .t))], []⟩ ?_
 refine Wp.c2 h (fun h => ?_) (fun h => ?_)
 ·refine Wp.seq ?_
  refine Wp.regionA (pOf []) (rhoOf [(1, .obj 1), (17, .obj 1), (18, .frz), (19, .frz), (20, .frz), (21, .frz), (22, .obj 1), (23, .frz), (24, .frz), (25, .frz), (26, .frz), (27, .frz), (28, .obj 1), (29, .frz), (30, .frz), (31, .frz), (32, .frz)]) kr kr ?_
  refine Runs.batch 2 kr ?_
  obtain ⟨r4, e_r4, h⟩ := bind_some h
  refine Runs.ck 19 [.i p0.fGen] (impl_NumText_ok u p0.fGen r4 e_r4) ?_
  obtain ⟨_, e_5, h⟩ := bind_some h
  refine Runs.cat ((ByteArray.mk #[119, 97, 110, 116, 32])) r4 rfl kr kr kr kr (of_decide_eq_true (chk_some e_5)) ?_
  obtain ⟨_, e_6, h⟩ := bind_some h
  refine Runs.cat (((ByteArray.mk #[119, 97, 110, 116, 32])) ++ r4) ((ByteArray.mk #[32])) rfl kr kr kr kr (of_decide_eq_true (chk_some e_6)) ?_
  refine Runs.batch 2 kr ?_
  obtain ⟨r7, e_r7, h⟩ := bind_some h
  refine Runs.ck 24 [.i p0.fWant] (impl_CountSet_ok u p0.fWant r7 e_r7) ?_
  obtain ⟨r8, e_r8, h⟩ := bind_some h
  refine Runs.ck 25 [.i r7] (impl_NumText_ok u r7 r8 e_r8) ?_
  obtain ⟨_, e_9, h⟩ := bind_some h
  refine Runs.cat ((((ByteArray.mk #[119, 97, 110, 116, 32])) ++ r4) ++ ((ByteArray.mk #[32]))) r8 rfl kr kr kr kr (of_decide_eq_true (chk_some e_9)) ?_
  obtain ⟨_, e_10, h⟩ := bind_some h
  refine Runs.cat (((((ByteArray.mk #[119, 97, 110, 116, 32])) ++ r4) ++ ((ByteArray.mk #[32]))) ++ r8) ((ByteArray.mk #[32])) rfl kr kr kr kr (of_decide_eq_true (chk_some e_10)) ?_
  refine Runs.batch 2 kr ?_
  obtain ⟨r11, e_r11, h⟩ := bind_some h
  refine Runs.ck 30 [.i p0.fDone] (impl_CountSet_ok u p0.fDone r11 e_r11) ?_
  obtain ⟨r12, e_r12, h⟩ := bind_some h
  refine Runs.ck 31 [.i r11] (impl_NumText_ok u r11 r12 e_r12) ?_
  obtain ⟨_, e_13, h⟩ := bind_some h
  refine Runs.cat ((((((ByteArray.mk #[119, 97, 110, 116, 32])) ++ r4) ++ ((ByteArray.mk #[32]))) ++ r8) ++ ((ByteArray.mk #[32]))) r12 rfl kr kr kr kr (of_decide_eq_true (chk_some e_13)) ?_
  refine Runs.allf ⟨[(1, .obj 1 0), (2, .t (.str (((((((ByteArray.mk #[119, 97, 110, 116, 32])) ++ r4) ++ ((ByteArray.mk #[32]))) ++ r8) ++ ((ByteArray.mk #[32]))) ++ r12)))], [(1, ((Msg.enc p0).map .t))], []⟩ ?_
  refine Wp.ret ?_
  refine blkR ?_
  refine thenR ?_
  obtain rfl := oi h
  exact RetK [.t (.str (((((((ByteArray.mk #[119, 97, 110, 116, 32])) ++ r4) ++ ((ByteArray.mk #[32]))) ++ r8) ++ ((ByteArray.mk #[32]))) ++ r12))] _ [] kr kr (.refl _) .nil
 refine Wp.sag ⟨[(1, .obj 1 0), (2, .t (.str ((ByteArray.mk #[])))), (33, .b (p0.fKind == 3))], [(1, ((Msg.enc p0).map .t))], []⟩ ?_
 refine Wp.c2 h (fun h => ?_) (fun h => ?_)
 ·refine Wp.seq ?_
  refine Wp.regionA (pOf []) (rhoOf [(1, .obj 1), (35, .obj 1), (36, .frz), (37, .frz), (38, .frz), (39, .frz), (40, .obj 1), (41, .frz), (42, .frz), (43, .frz)]) kr kr ?_
  refine Runs.batch 2 kr ?_
  obtain ⟨r14, e_r14, h⟩ := bind_some h
  refine Runs.ck 37 [.i p0.fGen] (impl_NumText_ok u p0.fGen r14 e_r14) ?_
  obtain ⟨_, e_15, h⟩ := bind_some h
  refine Runs.cat ((ByteArray.mk #[112, 97, 114, 116, 32])) r14 rfl kr kr kr kr (of_decide_eq_true (chk_some e_15)) ?_
  obtain ⟨_, e_16, h⟩ := bind_some h
  refine Runs.cat (((ByteArray.mk #[112, 97, 114, 116, 32])) ++ r14) ((ByteArray.mk #[32])) rfl kr kr kr kr (of_decide_eq_true (chk_some e_16)) ?_
  refine Runs.batch 2 kr ?_
  obtain ⟨r17, e_r17, h⟩ := bind_some h
  refine Runs.ck 42 [.i p0.fI] (impl_NumText_ok u p0.fI r17 e_r17) ?_
  obtain ⟨_, e_18, h⟩ := bind_some h
  refine Runs.cat ((((ByteArray.mk #[112, 97, 114, 116, 32])) ++ r14) ++ ((ByteArray.mk #[32]))) r17 rfl kr kr kr kr (of_decide_eq_true (chk_some e_18)) ?_
  refine Runs.allf ⟨[(1, .obj 1 0), (2, .t (.str (((((ByteArray.mk #[112, 97, 114, 116, 32])) ++ r14) ++ ((ByteArray.mk #[32]))) ++ r17)))], [(1, ((Msg.enc p0).map .t))], []⟩ ?_
  refine Wp.ret ?_
  refine blkR ?_
  refine thenR ?_
  obtain rfl := oi h
  exact RetK [.t (.str (((((ByteArray.mk #[112, 97, 114, 116, 32])) ++ r14) ++ ((ByteArray.mk #[32]))) ++ r17))] _ [] kr kr (.refl _) .nil
 refine Wp.skip ?_
 refine blkN ?_
 refine thenN ?_
 refine Wp.sb 2 ?_
 obtain ⟨r19, e_r19, h⟩ := bind_some h
 refine Runs.ck 46 [.i p0.fGen] (impl_NumText_ok u p0.fGen r19 e_r19) ?_
 obtain ⟨_, e_20, h⟩ := bind_some h
 refine Runs.cat ((ByteArray.mk #[98, 101, 97, 116, 32])) r19 rfl kr kr kr kr (of_decide_eq_true (chk_some e_20)) ?_
 refine Runs.allf ⟨[(2, .t (.str (((ByteArray.mk #[98, 101, 97, 116, 32])) ++ r19)))], [], []⟩ ?_
 refine Wp.ret ?_
 obtain rfl := oi h
 exact RetK [.t (.str (((ByteArray.mk #[98, 101, 97, 116, 32])) ++ r19))] _ [] kr kr (.refl _) .nil
theorem impl_PacketText_ok (u : Nat) (p0 : Packet) (r : ByteArray) (h : impl_PacketText u p0 = some r) : CallOK Tryz.prog 55 [.agg [.i p0.fFrom, .i p0.fTo, .s p0.fB]] (.one (.t (.str r))) [] := by
 unfold impl_PacketText at h
 refine CallOK.of_bodyK (fn := Tryz.f55) (m := false) [.agg ((Packet.enc p0).map .t)] kr rfl kr kr kr kr kr ?_
 refine Wp.sag ⟨[(1, .obj 1 0), (2, .t (.str ((ByteArray.mk #[]))))], [(1, ((Packet.enc p0).map .t))], []⟩ ?_
 refine Wp.sag ⟨[(1, .obj 1 0), (2, .t (.str ((ByteArray.mk #[])))), (3, .t (.str ((ByteArray.mk #[63]))))], [(1, ((Packet.enc p0).map .t))], []⟩ ?_
 refine Wp.seqJ (α := ByteArray × Packet) (fun a => ⟨[(1, .obj 1 0), (2, .t (.str ((ByteArray.mk #[])))), (3, .t (.str a.1))], [(1, ((Packet.enc a.2).map .t))], []⟩) (fun a => impl_PacketText_j1 u a.1 a.2 = some r) ?_ ?_
 ·rintro ⟨x3, p0⟩ h
  change impl_PacketText_j1 u x3 p0 = some r at h
  unfold impl_PacketText_j1 at h
  refine Wp.seq ?_
  refine Wp.regionA (pOf []) (rhoOf [(1, .obj 1), (3, .frz), (15, .obj 1), (16, .frz), (17, .frz), (18, .frz), (19, .obj 1), (20, .frz), (21, .frz), (22, .frz), (23, .frz), (24, .frz), (25, .frz)]) kr kr ?_
  refine Runs.batch 2 kr ?_
  obtain ⟨r4, e_r4, h⟩ := bind_some h
  refine Runs.ck 17 [.i p0.fFrom] (impl_NumText_ok u p0.fFrom r4 e_r4) ?_
  obtain ⟨_, e_5, h⟩ := bind_some h
  refine Runs.cat r4 ((ByteArray.mk #[62])) rfl kr kr kr kr (of_decide_eq_true (chk_some e_5)) ?_
  refine Runs.batch 2 kr ?_
  obtain ⟨r6, e_r6, h⟩ := bind_some h
  refine Runs.ck 21 [.i p0.fTo] (impl_NumText_ok u p0.fTo r6 e_r6) ?_
  obtain ⟨_, e_7, h⟩ := bind_some h
  refine Runs.cat (r4 ++ ((ByteArray.mk #[62]))) r6 rfl kr kr kr kr (of_decide_eq_true (chk_some e_7)) ?_
  obtain ⟨_, e_8, h⟩ := bind_some h
  refine Runs.cat ((r4 ++ ((ByteArray.mk #[62]))) ++ r6) ((ByteArray.mk #[32])) rfl kr kr kr kr (of_decide_eq_true (chk_some e_8)) ?_
  refine Runs.batch 1 kr ?_
  obtain ⟨_, e_9, h⟩ := bind_some h
  refine Runs.cat (((r4 ++ ((ByteArray.mk #[62]))) ++ r6) ++ ((ByteArray.mk #[32]))) x3 rfl kr kr kr kr (of_decide_eq_true (chk_some e_9)) ?_
  refine Runs.allf ⟨[(2, .t (.str ((((r4 ++ ((ByteArray.mk #[62]))) ++ r6) ++ ((ByteArray.mk #[32]))) ++ x3)))], [], []⟩ ?_
  refine Wp.ret ?_
  obtain rfl := oi h
  exact RetK [.t (.str ((((r4 ++ ((ByteArray.mk #[62]))) ++ r6) ++ ((ByteArray.mk #[32]))) ++ x3))] _ [] kr kr (.refl _) .nil
 ·refine Wp.sb 2 ?_
  obtain ⟨r1, e_r1, h⟩ := bind_some h
  refine Runs.ck 9 [.s p0.fB] (impl_GetMsg_ok u p0.fB r1 e_r1) ?_
  refine Runs.allf ⟨[(1, .obj 1 0), (2, .t (.str ((ByteArray.mk #[])))), (3, .t (.str ((ByteArray.mk #[63])))), (4, .obj 4 0), (5, .b r1.2)], [(1, ((Packet.enc p0).map .t)), (4, ((Msg.enc r1.1).map .t))], []⟩ ?_
  refine Wp.sag ⟨[(1, .obj 1 0), (2, .t (.str ((ByteArray.mk #[])))), (3, .t (.str ((ByteArray.mk #[63])))), (4, .obj 4 0), (12, .b r1.2)], [(1, ((Packet.enc p0).map .t)), (4, ((Msg.enc r1.1).map .t))], []⟩ ?_
  refine Wp.c2 h (fun h => ?_) (fun h => ?_)
  ·refine Wp.rg [] [] ?_
   refine Runs.batch 1 kr ?_
   obtain ⟨r2, e_r2, h⟩ := bind_some h
   refine Runs.ck 14 [.agg ((Msg.enc r1.1).map .t)] (impl_MsgText_ok u r1.1 r2 e_r2) ?_
   refine Runs.alln ?_
   exact ⟨(r2, p0), h, Le.of (mo := []) (mr := []) kr kr kr kr⟩
  refine Wp.sk ?_
  exact ⟨((ByteArray.mk #[63]), p0), h, Le.of (mo := []) (mr := []) kr kr kr kr⟩
def laysJoin_ren : Go.Shelf.Ren := ⟨fun | 156 => 53 | 165 => 87 | 166 => 88 | 169 => 89 | 240 => 127 | 241 => 128 | 276 => 167 | 277 => 168 | n => n, fun | 31 => 93 | 9 => 9 | 3 => 3 | 4 => 4 | 0 => 0 | 20 => 20 | 72 => 139 | 76 => 143 | 70 => 137 | 37 => 22 | 75 => 142 | 127 => 176 | 164 => 210 | 5 => 5 | 80 => 145 | n => n, fun | n => n⟩
theorem laysJoin : Go.Proofs.Lays.n156 Tryz.prog laysJoin_ren := {
 mixed := by kernel_rfl,
 f156 := Tryz.func53.trans (congrArg some kr),
 f165 := Tryz.func87.trans (congrArg some kr),
 f166 := Tryz.func88.trans (congrArg some kr),
 f169 := Tryz.func89.trans (congrArg some kr),
 f240 := Tryz.func127.trans (congrArg some kr),
 f241 := Tryz.func128.trans (congrArg some kr),
 f276 := Tryz.func167.trans (congrArg some kr),
 f277 := Tryz.func168.trans (congrArg some kr),
 t0 := Tryz.underlying0,
 a0 := Tryz.isAgg0,
 z0 := Tryz.sizeOf0,
 v0 := Tryz.zeroValue0,
 t3 := Tryz.underlying3,
 a3 := Tryz.isAgg3,
 z3 := Tryz.sizeOf3,
 v3 := Tryz.zeroValue3,
 t4 := Tryz.underlying4,
 a4 := Tryz.isAgg4,
 z4 := Tryz.sizeOf4,
 v4 := Tryz.zeroValue4,
 t9 := Tryz.underlying9,
 a9 := Tryz.isAgg9,
 z9 := Tryz.sizeOf9,
 v9 := Tryz.zeroValue9,
 t20 := Tryz.underlying20,
 a20 := Tryz.isAgg20,
 z20 := Tryz.sizeOf20,
 v20 := Tryz.zeroValue20,
 t31 := Tryz.underlying93,
 a31 := Tryz.isAgg93,
 z31 := Tryz.sizeOf93,
 v31 := Tryz.zeroValue93,
 t37 := Tryz.underlying22,
 a37 := Tryz.isAgg22,
 z37 := Tryz.sizeOf22,
 v37 := Tryz.zeroValue22,
 t70 := Tryz.underlying137,
 a70 := Tryz.isAgg137,
 z70 := Tryz.sizeOf137,
 v70 := Tryz.zeroValue137,
 t72 := Tryz.underlying139,
 a72 := Tryz.isAgg139,
 z72 := Tryz.sizeOf139,
 v72 := Tryz.zeroValue139,
 t75 := Tryz.underlying142,
 a75 := Tryz.isAgg142,
 z75 := Tryz.sizeOf142,
 v75 := Tryz.zeroValue142,
 t76 := Tryz.underlying143,
 a76 := Tryz.isAgg143,
 z76 := Tryz.sizeOf143,
 v76 := Tryz.zeroValue143,
 t127 := Tryz.underlying176,
 a127 := Tryz.isAgg176,
 z127 := Tryz.sizeOf176,
 v127 := Tryz.zeroValue176,
 t164 := Tryz.underlying210,
 a164 := Tryz.isAgg210,
 z164 := Tryz.sizeOf210,
 v164 := Tryz.zeroValue210 }
theorem laysJoinX : Go.Proofs.Builder.Extra Tryz.prog laysJoin_ren := {
 sizeBuilder := by kernel_rfl,
 liesBuilder := by kernel_rfl,
 t5 := Tryz.underlying5,
 a5 := Tryz.isAgg5,
 z5 := Tryz.sizeOf5,
 v5 := Tryz.zeroValue5,
 infoByte := by kernel_rfl,
 cellsByte := by kernel_rfl,
 sizeByte := by kernel_rfl,
 neB5 := by decide }
theorem strings_Join_ok (u : Nat) (p0 : List ByteArray) (p1 : ByteArray) (r : ByteArray) (h : strings_Join u p0 p1 = some r) : CallOK Tryz.prog 53 [.one (.t (.sl 1 (p0.map eStr))), .one (.t (.str p1))] (.one (.t (.str r))) [] :=
 join_call ⟨_, Tryz.func53, by kernel_rfl, by kernel_rfl⟩ (fun a c sep w => Go.Proofs.Any.strings_Join_none laysJoin laysJoinX a c sep w) (fun bk o c xs sep w h1 h2 h3 h4 h5 => Go.Proofs.Any.strings_Join laysJoin laysJoinX bk o c xs sep w h1 h2 h3 h4 h5) h
theorem impl_NetText_ok (u : Nat) (p0 : World) (r : ByteArray) (h : impl_NetText u p0 = some r) : CallOK Tryz.prog 22 [.agg [.i p0.fC.fSize, .i p0.fC.fWindow, .i p0.fC.fSuspect, .i p0.fC.fForget, .t (.sl 1 (p0.fT.fUp.map (eInt .i64))), .s p0.fNew, .t (.sl 1 (p0.fOld.map Image.enc)), .t (.sl 12 (p0.fN.map Node.enc)), .t (.sl 6 (p0.fD.map Disk.enc)), .t (.sl 3 (p0.fNet.map Packet.enc)), .t (.sl 3 (p0.fLog.map Sent.enc)), .i p0.fLost]] (.one (.t (.str r))) [] := by
 unfold impl_NetText at h
 refine CallOK.of_bodyK (fn := Tryz.f22) (m := false) [.agg ((World.enc p0).map .t)] kr rfl kr kr kr kr kr ?_
 refine Wp.sag ⟨[(1, .obj 1 0), (2, .t (.str ((ByteArray.mk #[]))))], [(1, ((World.enc p0).map .t))], []⟩ ?_
 refine Wp.seq ?_
 refine Wp.sb 2 ?_
 refine Runs.lenT (y := .t (.sl 3 (p0.fNet.map Packet.enc))) (e := 97) Packet.enc p0.fNet 3 rfl rfl rfl kr kr kr kr kr ?_
 refine Runs.allf ⟨[(1, .obj 1 0), (2, .t (.str ((ByteArray.mk #[])))), (9, .b (((p0.fNet.length : Int)) == 0))], [(1, ((World.enc p0).map .t))], []⟩ ?_
 refine Wp.c2 h (fun h => ?_) (fun h => ?_)
 ·refine Wp.sag ⟨[(1, .obj 1 0), (2, .t (.str ((ByteArray.mk #[45]))))], [(1, ((World.enc p0).map .t))], []⟩ ?_
  refine Wp.ret ?_
  refine thenR ?_
  obtain rfl := oi h
  exact RetK [.t (.str ((ByteArray.mk #[45])))] _ [] kr kr (.refl _) .nil
 refine Wp.sk ?_
 refine Wp.sag ⟨[(1, .obj 1 0), (2, .t (.str ((ByteArray.mk #[])))), (3, .own 655360)], [(1, ((World.enc p0).map .t))], [(655360, .live 9 1 ((([] : List ByteArray)).map eStr))]⟩ ?_
 refine Wp.seqJ (α := (List ByteArray)) (fun a => ⟨[(2, .t (.str ((ByteArray.mk #[])))), (3, .own 196609)], [], [(196609, .live 9 1 (a.map eStr))]⟩) (fun a => impl_NetText_j1 u a = some r) ?_ ?_
 ·rintro x9 h
  change impl_NetText_j1 u x9 = some r at h
  unfold impl_NetText_j1 at h
  refine Wp.sb 1 ?_
  obtain ⟨r10, e_r10, h⟩ := bind_some h
  refine Runs.callBK 25 53 [] [.own 196609, .t (.str ((ByteArray.mk #[59, 32])))] [.one (.t (.sl 1 (x9.map eStr))), .one (.t (.str ((ByteArray.mk #[59, 32]))))] (.one (.t (.str r10))) rfl rfl kr kr kr kr kr (strings_Join_ok u x9 ((ByteArray.mk #[59, 32])) r10 e_r10) (by simp [V.plain, V.plains, C.plain, T.sc]) kr ?_
  refine Runs.allf ⟨[(2, .t (.str r10))], [], []⟩ ?_
  refine Wp.ret ?_
  obtain rfl := oi h
  exact RetK [.t (.str r10)] _ [] kr kr (.refl _) .nil
 ·refine Wp.sb 2 ?_
  refine Runs.lenT (y := .t (.sl 3 (p0.fNet.map Packet.enc))) (e := 97) Packet.enc p0.fNet 3 rfl rfl rfl kr kr kr kr kr ?_
  refine Runs.allf ⟨[(2, .t (.str ((ByteArray.mk #[])))), (3, .own 655360), (12, .t (.sl 3 (p0.fNet.map Packet.enc))), (13, .i ((p0.fNet.length : Int))), (14, .i 0)], [], [(655360, .live 9 1 ((([] : List ByteArray)).map eStr))]⟩ ?_
  refine Wp.block ?_
  refine Wp.loopF (α := (List ByteArray) × World × Int) (fun a => ⟨[(2, .t (.str ((ByteArray.mk #[])))), (3, .own 196609), (12, .t (.sl 3 (a.2.1.fNet.map Packet.enc))), (13, .i ((a.2.1.fNet.length : Int))), (14, .i a.2.2)], [], [(196609, .live 9 1 (a.1.map eStr))]⟩) (fun k_impl_NetText_l2 a => impl_NetText_l2 u k_impl_NetText_l2 a.1 a.2.1 a.2.2 = some r) ?_ ?_ u (([] : List ByteArray), p0, 0) h (Le.of (mo := []) (mr := [(196609, 655360)]) kr kr kr kr)
  ·intro a h; unfold impl_NetText_l2 at h; cases h
  ·rintro k_impl_NetText_l2 ⟨x3, p0, x4⟩ h
   change impl_NetText_l2 u (k_impl_NetText_l2 + 1) x3 p0 x4 = some r at h
   rw [impl_NetText_l2] at h
   refine Wp.sag ⟨[(2, .t (.str ((ByteArray.mk #[])))), (3, .own 196609), (12, .t (.sl 3 (p0.fNet.map Packet.enc))), (13, .i ((p0.fNet.length : Int))), (14, .i x4), (15, .b (decide (x4 < ((p0.fNet.length : Int)))))], [], [(196609, .live 9 1 (x3.map eStr))]⟩ ?_
   refine Wp.seq ?_
   refine Wp.c2 h (fun h => ?_) (fun h => ?_)
   ·refine Wp.sk ?_
    refine Wp.seq ?_
    refine Wp.block ?_
    refine Wp.srg [] [] ?_
    obtain ⟨y7, e_y7, h⟩ := bind_some h
    refine Runs.idxT (e := 97) (kk := .i64) (sz := 3) Packet.enc p0.fNet x4 rfl kr kr kr kr kr kr e_y7 ?_
    refine Runs.allf ⟨[(2, .t (.str ((ByteArray.mk #[])))), (3, .own 196609), (5, .obj 5 0), (12, .t (.sl 3 (p0.fNet.map Packet.enc))), (13, .i ((p0.fNet.length : Int))), (14, .i x4)], [(5, ((Packet.enc y7).map .t))], [(196609, .live 9 1 (x3.map eStr))]⟩ ?_
    refine Wp.rg [] [] ?_
    refine Runs.batch 2 kr ?_
    obtain ⟨r8, e_r8, h⟩ := bind_some h
    refine Runs.ck 20 [.agg ((Packet.enc y7).map .t)] (impl_PacketText_ok u y7 r8 e_r8) ?_
    refine Runs.batch 1 kr ?_
    obtain ⟨_, e_9, h⟩ := bind_some h
    refine Runs.appT (y := .own 1376256) eStr 22 1 9 1 16 196609 x3 ([r8]) rfl rfl rfl rfl kr kr kr kr kr kr (.inl rfl) kr (of_decide_eq_true (chk_some e_9)) kr kr ?_
    refine Runs.all kr ?_
    refine blkN ?_
    refine thenN ?_
    refine Wp.rg [] [] ?_
    refine Runs.alln ?_
    exact ⟨(x3 ++ ([r8]), p0, bAdd .i64 x4 1), h, Le.of (mo := []) (mr := [(196609, 1441792)]) kr kr kr kr⟩
   refine Wp.exit ?_
   refine thenE ?_
   refine thenE ?_
   refine blkE ?_
   refine thenN ?_
   exact ⟨x3, h, Le.of (mo := []) (mr := []) kr kr kr kr⟩
theorem laws_eqConf_ok (u : Nat) (p0 : Conf) (p1 : Conf) (r : Bool) (h : laws_eqConf u p0 p1 = some r) : CallOK Tryz.prog 45 [.agg [.i p0.fSize, .i p0.fWindow, .i p0.fSuspect, .i p0.fForget], .agg [.i p1.fSize, .i p1.fWindow, .i p1.fSuspect, .i p1.fForget]] (.one (.b r)) [] := by
 unfold laws_eqConf at h
 refine CallOK.of_bodyK (fn := Tryz.f45) (m := false) [.agg ((Conf.enc p0).map .t), .agg ((Conf.enc p1).map .t)] kr rfl kr kr kr kr kr ?_
 refine Wp.sag ⟨[(2, .obj 2 0), (3, .obj 3 0), (4, .b false)], [(2, ((Conf.enc p0).map .t)), (3, ((Conf.enc p1).map .t))], []⟩ ?_
 refine Wp.seq ?_
 refine Wp.sag ⟨[(2, .obj 2 0), (3, .obj 3 0), (4, .b false), (9, .b (p0.fSize != p1.fSize))], [(2, ((Conf.enc p0).map .t)), (3, ((Conf.enc p1).map .t))], []⟩ ?_
 refine Wp.c2 h (fun h => ?_) (fun h => ?_)
 ·refine Wp.sag ⟨[(2, .obj 2 0), (3, .obj 3 0), (4, .b false)], [(2, ((Conf.enc p0).map .t)), (3, ((Conf.enc p1).map .t))], []⟩ ?_
  refine Wp.ret ?_
  refine thenR ?_
  obtain rfl := oi h
  exact RetK [.b false] _ [] kr kr (.refl _) .nil
 refine Wp.sk ?_
 refine Wp.seq ?_
 refine Wp.sag ⟨[(2, .obj 2 0), (3, .obj 3 0), (4, .b false), (14, .b (p0.fWindow != p1.fWindow))], [(2, ((Conf.enc p0).map .t)), (3, ((Conf.enc p1).map .t))], []⟩ ?_
 refine Wp.c2 h (fun h => ?_) (fun h => ?_)
 ·refine Wp.sag ⟨[(2, .obj 2 0), (3, .obj 3 0), (4, .b false)], [(2, ((Conf.enc p0).map .t)), (3, ((Conf.enc p1).map .t))], []⟩ ?_
  refine Wp.ret ?_
  refine thenR ?_
  obtain rfl := oi h
  exact RetK [.b false] _ [] kr kr (.refl _) .nil
 refine Wp.sk ?_
 refine Wp.seq ?_
 refine Wp.sag ⟨[(2, .obj 2 0), (3, .obj 3 0), (4, .b false), (19, .b (p0.fSuspect != p1.fSuspect))], [(2, ((Conf.enc p0).map .t)), (3, ((Conf.enc p1).map .t))], []⟩ ?_
 refine Wp.c2 h (fun h => ?_) (fun h => ?_)
 ·refine Wp.sag ⟨[(2, .obj 2 0), (3, .obj 3 0), (4, .b false)], [(2, ((Conf.enc p0).map .t)), (3, ((Conf.enc p1).map .t))], []⟩ ?_
  refine Wp.ret ?_
  refine thenR ?_
  obtain rfl := oi h
  exact RetK [.b false] _ [] kr kr (.refl _) .nil
 refine Wp.sk ?_
 refine Wp.seq ?_
 refine Wp.sag ⟨[(4, .b false), (24, .b (p0.fForget != p1.fForget))], [], []⟩ ?_
 refine Wp.c2 h (fun h => ?_) (fun h => ?_)
 ·refine Wp.sag ⟨[(4, .b false)], [], []⟩ ?_
  refine Wp.ret ?_
  refine thenR ?_
  obtain rfl := oi h
  exact RetK [.b false] _ [] kr kr (.refl _) .nil
 refine Wp.sk ?_
 refine Wp.sag ⟨[(4, .b true)], [], []⟩ ?_
 refine Wp.ret ?_
 obtain rfl := oi h
 exact RetK [.b true] _ [] kr kr (.refl _) .nil
theorem laws_eqIntS_ok (u : Nat) (p0 : List Int) (p1 : List Int) (r : Bool) (h : laws_eqIntS u p0 p1 = some r) : CallOK Tryz.prog 78 [.one (.t (.sl 1 (p0.map (eInt .i64)))), .one (.t (.sl 1 (p1.map (eInt .i64))))] (.one (.b r)) [] := by
 unfold laws_eqIntS at h
 refine CallOK.of_bodyK (fn := Tryz.f78) (m := false) [.t (.sl 1 (p0.map (eInt .i64))), .t (.sl 1 (p1.map (eInt .i64)))] kr rfl kr kr kr kr kr ?_
 refine Wp.sag ⟨[(0, .t (.sl 1 (p0.map (eInt .i64)))), (1, .t (.sl 1 (p1.map (eInt .i64)))), (4, .b false)], [], []⟩ ?_
 refine Wp.seq ?_
 refine Wp.sb 1 ?_
 refine Runs.lenT (y := .t (.sl 1 (p0.map (eInt .i64)))) (e := 3) (eInt .i64) p0 1 rfl rfl rfl kr kr kr kr kr ?_
 refine Runs.batch 1 kr ?_
 refine Runs.lenT (y := .t (.sl 1 (p1.map (eInt .i64)))) (e := 3) (eInt .i64) p1 1 rfl rfl rfl kr kr kr kr kr ?_
 refine Runs.allf ⟨[(0, .t (.sl 1 (p0.map (eInt .i64)))), (1, .t (.sl 1 (p1.map (eInt .i64)))), (4, .b false), (10, .b (((p0.length : Int)) != ((p1.length : Int))))], [], []⟩ ?_
 refine Wp.c2 h (fun h => ?_) (fun h => ?_)
 ·refine Wp.sag ⟨[(0, .t (.sl 1 (p0.map (eInt .i64)))), (1, .t (.sl 1 (p1.map (eInt .i64)))), (4, .b false)], [], []⟩ ?_
  refine Wp.ret ?_
  refine thenR ?_
  obtain rfl := oi h
  exact RetK [.b false] _ [] kr kr (.refl _) .nil
 refine Wp.sk ?_
 refine Wp.seqJ (α := Unit) (fun a => ⟨[(4, .b false)], [], []⟩) (fun a => laws_eqIntS_j1 u = some r) ?_ ?_
 ·rintro ⟨⟩ h
  change laws_eqIntS_j1 u = some r at h
  unfold laws_eqIntS_j1 at h
  refine Wp.sag ⟨[(4, .b true)], [], []⟩ ?_
  refine Wp.ret ?_
  obtain rfl := oi h
  exact RetK [.b true] _ [] kr kr (.refl _) .nil
 ·refine Wp.sag ⟨[(0, .t (.sl 1 (p0.map (eInt .i64)))), (1, .t (.sl 1 (p1.map (eInt .i64)))), (4, .b false), (5, .i 0)], [], []⟩ ?_
  refine Wp.block ?_
  refine Wp.loopF (α := (List Int) × (List Int) × Int) (fun a => ⟨[(0, .t (.sl 1 (a.1.map (eInt .i64)))), (1, .t (.sl 1 (a.2.1.map (eInt .i64)))), (4, .b false), (5, .i a.2.2)], [], []⟩) (fun k_laws_eqIntS_l2 a => laws_eqIntS_l2 u k_laws_eqIntS_l2 a.1 a.2.1 a.2.2 = some r) ?_ ?_ u (p0, p1, 0) h (Le.of (mo := []) (mr := []) kr kr kr kr)
  ·intro a h; unfold laws_eqIntS_l2 at h; cases h
  ·rintro k_laws_eqIntS_l2 ⟨p0, p1, x2⟩ h
   change laws_eqIntS_l2 u (k_laws_eqIntS_l2 + 1) p0 p1 x2 = some r at h
   rw [laws_eqIntS_l2] at h
   refine Wp.seq ?_
   refine Wp.sb 2 ?_
   refine Runs.lenT (y := .t (.sl 1 (p0.map (eInt .i64)))) (e := 3) (eInt .i64) p0 1 rfl rfl rfl kr kr kr kr kr ?_
   refine Runs.allf ⟨[(0, .t (.sl 1 (p0.map (eInt .i64)))), (1, .t (.sl 1 (p1.map (eInt .i64)))), (4, .b false), (5, .i x2), (14, .b (decide (x2 < ((p0.length : Int)))))], [], []⟩ ?_
   refine Wp.c2 h (fun h => ?_) (fun h => ?_)
   ·refine Wp.sk ?_
    refine Wp.seq ?_
    refine Wp.block ?_
    refine Wp.seq ?_
    refine Wp.regionA (pOf []) (rhoOf [(0, .frz), (1, .frz), (5, .frz), (17, .frz), (18, .frz), (19, .frz), (20, .frz), (21, .frz), (22, .frz), (23, .frz), (24, .frz)]) kr kr ?_
    refine Runs.batch 2 kr ?_
    obtain ⟨y4, e_y4, h⟩ := bind_some h
    refine Runs.idxT (e := 3) (kk := .i64) (sz := 1) (eInt .i64) p0 x2 rfl kr kr kr kr kr kr e_y4 ?_
    refine Runs.batch 3 kr ?_
    obtain ⟨y5, e_y5, h⟩ := bind_some h
    refine Runs.idxT (e := 3) (kk := .i64) (sz := 1) (eInt .i64) p1 x2 rfl kr kr kr kr kr kr e_y5 ?_
    refine Runs.allf ⟨[(0, .t (.sl 1 (p0.map (eInt .i64)))), (1, .t (.sl 1 (p1.map (eInt .i64)))), (4, .b false), (5, .i x2), (25, .b (y4 != y5))], [], []⟩ ?_
    refine Wp.c2 h (fun h => ?_) (fun h => ?_)
    ·refine Wp.sag ⟨[(0, .t (.sl 1 (p0.map (eInt .i64)))), (1, .t (.sl 1 (p1.map (eInt .i64)))), (4, .b false), (5, .i x2)], [], []⟩ ?_
     refine Wp.ret ?_
     refine blkR ?_
     refine thenR ?_
     refine thenR ?_
     refine blkR ?_
     refine thenR ?_
     obtain rfl := oi h
     exact RetK [.b false] _ [] kr kr (.refl _) .nil
    refine Wp.skip ?_
    refine blkN ?_
    refine thenN ?_
    refine Wp.rg [] [] ?_
    refine Runs.alln ?_
    exact ⟨(p0, p1, bAdd .i64 x2 1), h, Le.of (mo := []) (mr := []) kr kr kr kr⟩
   refine Wp.exit ?_
   refine thenE ?_
   refine thenE ?_
   refine blkE ?_
   refine thenN ?_
   exact ⟨(), h, Le.of (mo := []) (mr := []) kr kr kr kr⟩
theorem laws_eqTree_ok (u : Nat) (p0 : Tree) (p1 : Tree) (r : Bool) (h : laws_eqTree u p0 p1 = some r) : CallOK Tryz.prog 46 [.agg [.t (.sl 1 (p0.fUp.map (eInt .i64)))], .agg [.t (.sl 1 (p1.fUp.map (eInt .i64)))]] (.one (.b r)) [] := by
 unfold laws_eqTree at h
 refine CallOK.of_bodyK (fn := Tryz.f46) (m := false) [.agg [.t (.sl 1 (p0.fUp.map (eInt .i64)))], .agg [.t (.sl 1 (p1.fUp.map (eInt .i64)))]] kr rfl kr kr kr kr kr ?_
 refine Wp.sag ⟨[(2, .obj 2 0), (3, .obj 3 0), (4, .b false)], [(2, [.t (.sl 1 (p0.fUp.map (eInt .i64)))]), (3, [.t (.sl 1 (p1.fUp.map (eInt .i64)))])], []⟩ ?_
 refine Wp.seq ?_
 refine Wp.sb 4 ?_
 obtain ⟨r1, e_r1, h⟩ := bind_some h
 refine Runs.ck 9 [.t (.sl 1 (p0.fUp.map (eInt .i64))), .t (.sl 1 (p1.fUp.map (eInt .i64)))] (laws_eqIntS_ok u p0.fUp p1.fUp r1 e_r1) ?_
 refine Runs.allf ⟨[(4, .b false), (10, .b (!r1))], [], []⟩ ?_
 refine Wp.c2 h (fun h => ?_) (fun h => ?_)
 ·refine Wp.sag ⟨[(4, .b false)], [], []⟩ ?_
  refine Wp.ret ?_
  refine thenR ?_
  obtain rfl := oi h
  exact RetK [.b false] _ [] kr kr (.refl _) .nil
 refine Wp.sk ?_
 refine Wp.sag ⟨[(4, .b true)], [], []⟩ ?_
 refine Wp.ret ?_
 obtain rfl := oi h
 exact RetK [.b true] _ [] kr kr (.refl _) .nil
theorem laws_eqByteS_ok (u : Nat) (p0 : List Int) (p1 : List Int) (r : Bool) (h : laws_eqByteS u p0 p1 = some r) : CallOK Tryz.prog 12 [.one (.s p0), .one (.s p1)] (.one (.b r)) [] := by
 unfold laws_eqByteS at h
 refine CallOK.of_bodyK (fn := Tryz.f12) (m := false) [.s p0, .s p1] kr rfl kr kr kr kr kr ?_
 refine Wp.sag ⟨[(0, .s p0), (1, .s p1), (4, .b false)], [], []⟩ ?_
 refine Wp.seq ?_
 refine Wp.sb 1 ?_
 refine Runs.lenT (y := .s p0) (e := 5) (eInt .u8) p0 1 rfl rfl rfl kr kr kr kr kr ?_
 refine Runs.batch 1 kr ?_
 refine Runs.lenT (y := .s p1) (e := 5) (eInt .u8) p1 1 rfl rfl rfl kr kr kr kr kr ?_
 refine Runs.allf ⟨[(0, .s p0), (1, .s p1), (4, .b false), (10, .b (((p0.length : Int)) != ((p1.length : Int))))], [], []⟩ ?_
 refine Wp.c2 h (fun h => ?_) (fun h => ?_)
 ·refine Wp.sag ⟨[(0, .s p0), (1, .s p1), (4, .b false)], [], []⟩ ?_
  refine Wp.ret ?_
  refine thenR ?_
  obtain rfl := oi h
  exact RetK [.b false] _ [] kr kr (.refl _) .nil
 refine Wp.sk ?_
 refine Wp.seqJ (α := Unit) (fun a => ⟨[(4, .b false)], [], []⟩) (fun a => laws_eqByteS_j1 u = some r) ?_ ?_
 ·rintro ⟨⟩ h
  change laws_eqByteS_j1 u = some r at h
  unfold laws_eqByteS_j1 at h
  refine Wp.sag ⟨[(4, .b true)], [], []⟩ ?_
  refine Wp.ret ?_
  obtain rfl := oi h
  exact RetK [.b true] _ [] kr kr (.refl _) .nil
 ·refine Wp.sag ⟨[(0, .s p0), (1, .s p1), (4, .b false), (5, .i 0)], [], []⟩ ?_
  refine Wp.block ?_
  refine Wp.loopF (α := (List Int) × (List Int) × Int) (fun a => ⟨[(0, .s a.1), (1, .s a.2.1), (4, .b false), (5, .i a.2.2)], [], []⟩) (fun k_laws_eqByteS_l2 a => laws_eqByteS_l2 u k_laws_eqByteS_l2 a.1 a.2.1 a.2.2 = some r) ?_ ?_ u (p0, p1, 0) h (Le.of (mo := []) (mr := []) kr kr kr kr)
  ·intro a h; unfold laws_eqByteS_l2 at h; cases h
  ·rintro k_laws_eqByteS_l2 ⟨p0, p1, x2⟩ h
   change laws_eqByteS_l2 u (k_laws_eqByteS_l2 + 1) p0 p1 x2 = some r at h
   rw [laws_eqByteS_l2] at h
   refine Wp.seq ?_
   refine Wp.sb 2 ?_
   refine Runs.lenT (y := .s p0) (e := 5) (eInt .u8) p0 1 rfl rfl rfl kr kr kr kr kr ?_
   refine Runs.allf ⟨[(0, .s p0), (1, .s p1), (4, .b false), (5, .i x2), (14, .b (decide (x2 < ((p0.length : Int)))))], [], []⟩ ?_
   refine Wp.c2 h (fun h => ?_) (fun h => ?_)
   ·refine Wp.sk ?_
    refine Wp.seq ?_
    refine Wp.block ?_
    refine Wp.seq ?_
    refine Wp.regionA (pOf []) (rhoOf [(0, .frz), (1, .frz), (5, .frz), (17, .frz), (18, .frz), (19, .frz), (20, .frz), (21, .frz), (22, .frz), (23, .frz), (24, .frz)]) kr kr ?_
    refine Runs.batch 2 kr ?_
    obtain ⟨y4, e_y4, h⟩ := bind_some h
    refine Runs.idxT (e := 5) (kk := .i64) (sz := 1) (eInt .u8) p0 x2 rfl kr kr kr kr kr kr e_y4 ?_
    refine Runs.batch 3 kr ?_
    obtain ⟨y5, e_y5, h⟩ := bind_some h
    refine Runs.idxT (e := 5) (kk := .i64) (sz := 1) (eInt .u8) p1 x2 rfl kr kr kr kr kr kr e_y5 ?_
    refine Runs.allf ⟨[(0, .s p0), (1, .s p1), (4, .b false), (5, .i x2), (25, .b (y4 != y5))], [], []⟩ ?_
    refine Wp.c2 h (fun h => ?_) (fun h => ?_)
    ·refine Wp.sag ⟨[(0, .s p0), (1, .s p1), (4, .b false), (5, .i x2)], [], []⟩ ?_
     refine Wp.ret ?_
     refine blkR ?_
     refine thenR ?_
     refine thenR ?_
     refine blkR ?_
     refine thenR ?_
     obtain rfl := oi h
     exact RetK [.b false] _ [] kr kr (.refl _) .nil
    refine Wp.skip ?_
    refine blkN ?_
    refine thenN ?_
    refine Wp.rg [] [] ?_
    refine Runs.alln ?_
    exact ⟨(p0, p1, bAdd .i64 x2 1), h, Le.of (mo := []) (mr := []) kr kr kr kr⟩
   refine Wp.exit ?_
   refine thenE ?_
   refine thenE ?_
   refine blkE ?_
   refine thenN ?_
   exact ⟨(), h, Le.of (mo := []) (mr := []) kr kr kr kr⟩
theorem laws_eqImage_ok (u : Nat) (p0 : Image) (p1 : Image) (r : Bool) (h : laws_eqImage u p0 p1 = some r) : CallOK Tryz.prog 29 [.agg [.s p0.fB], .agg [.s p1.fB]] (.one (.b r)) [] := by
 unfold laws_eqImage at h
 refine CallOK.of_bodyK (fn := Tryz.f29) (m := false) [.agg [.s p0.fB], .agg [.s p1.fB]] kr rfl kr kr kr kr kr ?_
 refine Wp.sag ⟨[(2, .obj 2 0), (3, .obj 3 0), (4, .b false)], [(2, [.s p0.fB]), (3, [.s p1.fB])], []⟩ ?_
 refine Wp.seq ?_
 refine Wp.sb 4 ?_
 obtain ⟨r1, e_r1, h⟩ := bind_some h
 refine Runs.ck 9 [.s p0.fB, .s p1.fB] (laws_eqByteS_ok u p0.fB p1.fB r1 e_r1) ?_
 refine Runs.allf ⟨[(4, .b false), (10, .b (!r1))], [], []⟩ ?_
 refine Wp.c2 h (fun h => ?_) (fun h => ?_)
 ·refine Wp.sag ⟨[(4, .b false)], [], []⟩ ?_
  refine Wp.ret ?_
  refine thenR ?_
  obtain rfl := oi h
  exact RetK [.b false] _ [] kr kr (.refl _) .nil
 refine Wp.sk ?_
 refine Wp.sag ⟨[(4, .b true)], [], []⟩ ?_
 refine Wp.ret ?_
 obtain rfl := oi h
 exact RetK [.b true] _ [] kr kr (.refl _) .nil
theorem laws_eqImageS_ok (u : Nat) (p0 : List Image) (p1 : List Image) (r : Bool) (h : laws_eqImageS u p0 p1 = some r) : CallOK Tryz.prog 13 [.one (.t (.sl 1 (p0.map Image.enc))), .one (.t (.sl 1 (p1.map Image.enc)))] (.one (.b r)) [] := by
 unfold laws_eqImageS at h
 refine CallOK.of_bodyK (fn := Tryz.f13) (m := false) [.t (.sl 1 (p0.map Image.enc)), .t (.sl 1 (p1.map Image.enc))] kr rfl kr kr kr kr kr ?_
 refine Wp.sag ⟨[(0, .t (.sl 1 (p0.map Image.enc))), (1, .t (.sl 1 (p1.map Image.enc))), (4, .b false)], [], []⟩ ?_
 refine Wp.seq ?_
 refine Wp.sb 1 ?_
 refine Runs.lenT (y := .t (.sl 1 (p0.map Image.enc))) (e := 61) Image.enc p0 1 rfl rfl rfl kr kr kr kr kr ?_
 refine Runs.batch 1 kr ?_
 refine Runs.lenT (y := .t (.sl 1 (p1.map Image.enc))) (e := 61) Image.enc p1 1 rfl rfl rfl kr kr kr kr kr ?_
 refine Runs.allf ⟨[(0, .t (.sl 1 (p0.map Image.enc))), (1, .t (.sl 1 (p1.map Image.enc))), (4, .b false), (10, .b (((p0.length : Int)) != ((p1.length : Int))))], [], []⟩ ?_
 refine Wp.c2 h (fun h => ?_) (fun h => ?_)
 ·refine Wp.sag ⟨[(0, .t (.sl 1 (p0.map Image.enc))), (1, .t (.sl 1 (p1.map Image.enc))), (4, .b false)], [], []⟩ ?_
  refine Wp.ret ?_
  refine thenR ?_
  obtain rfl := oi h
  exact RetK [.b false] _ [] kr kr (.refl _) .nil
 refine Wp.sk ?_
 refine Wp.seqJ (α := Unit) (fun a => ⟨[(4, .b false)], [], []⟩) (fun a => laws_eqImageS_j1 u = some r) ?_ ?_
 ·rintro ⟨⟩ h
  change laws_eqImageS_j1 u = some r at h
  unfold laws_eqImageS_j1 at h
  refine Wp.sag ⟨[(4, .b true)], [], []⟩ ?_
  refine Wp.ret ?_
  obtain rfl := oi h
  exact RetK [.b true] _ [] kr kr (.refl _) .nil
 ·refine Wp.sag ⟨[(0, .t (.sl 1 (p0.map Image.enc))), (1, .t (.sl 1 (p1.map Image.enc))), (4, .b false), (5, .i 0)], [], []⟩ ?_
  refine Wp.block ?_
  refine Wp.loopF (α := (List Image) × (List Image) × Int) (fun a => ⟨[(0, .t (.sl 1 (a.1.map Image.enc))), (1, .t (.sl 1 (a.2.1.map Image.enc))), (4, .b false), (5, .i a.2.2)], [], []⟩) (fun k_laws_eqImageS_l2 a => laws_eqImageS_l2 u k_laws_eqImageS_l2 a.1 a.2.1 a.2.2 = some r) ?_ ?_ u (p0, p1, 0) h (Le.of (mo := []) (mr := []) kr kr kr kr)
  ·intro a h; unfold laws_eqImageS_l2 at h; cases h
  ·rintro k_laws_eqImageS_l2 ⟨p0, p1, x2⟩ h
   change laws_eqImageS_l2 u (k_laws_eqImageS_l2 + 1) p0 p1 x2 = some r at h
   rw [laws_eqImageS_l2] at h
   refine Wp.seq ?_
   refine Wp.sb 2 ?_
   refine Runs.lenT (y := .t (.sl 1 (p0.map Image.enc))) (e := 61) Image.enc p0 1 rfl rfl rfl kr kr kr kr kr ?_
   refine Runs.allf ⟨[(0, .t (.sl 1 (p0.map Image.enc))), (1, .t (.sl 1 (p1.map Image.enc))), (4, .b false), (5, .i x2), (14, .b (decide (x2 < ((p0.length : Int)))))], [], []⟩ ?_
   refine Wp.c2 h (fun h => ?_) (fun h => ?_)
   ·refine Wp.sk ?_
    refine Wp.seq ?_
    refine Wp.block ?_
    refine Wp.seq ?_
    refine Wp.regionA (pOf []) (rhoOf [(0, .frz), (1, .frz), (5, .frz), (17, .frz), (18, .frz), (19, .frz), (20, .frz), (21, .frz), (22, .frz), (23, .frz), (24, .frz), (25, .frz)]) kr kr ?_
    refine Runs.batch 2 kr ?_
    obtain ⟨y4, e_y4, h⟩ := bind_some h
    refine Runs.idxT (e := 61) (kk := .i64) (sz := 1) Image.enc p0 x2 rfl kr kr kr kr kr kr e_y4 ?_
    refine Runs.batch 3 kr ?_
    obtain ⟨y5, e_y5, h⟩ := bind_some h
    refine Runs.idxT (e := 61) (kk := .i64) (sz := 1) Image.enc p1 x2 rfl kr kr kr kr kr kr e_y5 ?_
    refine Runs.batch 1 kr ?_
    obtain ⟨r6, e_r6, h⟩ := bind_some h
    refine Runs.ck 25 [.agg [.s y4.fB], .agg [.s y5.fB]] (laws_eqImage_ok u y4 y5 r6 e_r6) ?_
    refine Runs.allf ⟨[(0, .t (.sl 1 (p0.map Image.enc))), (1, .t (.sl 1 (p1.map Image.enc))), (4, .b false), (5, .i x2), (26, .b (!r6))], [], []⟩ ?_
    refine Wp.c2 h (fun h => ?_) (fun h => ?_)
    ·refine Wp.sag ⟨[(0, .t (.sl 1 (p0.map Image.enc))), (1, .t (.sl 1 (p1.map Image.enc))), (4, .b false), (5, .i x2)], [], []⟩ ?_
     refine Wp.ret ?_
     refine blkR ?_
     refine thenR ?_
     refine thenR ?_
     refine blkR ?_
     refine thenR ?_
     obtain rfl := oi h
     exact RetK [.b false] _ [] kr kr (.refl _) .nil
    refine Wp.skip ?_
    refine blkN ?_
    refine thenN ?_
    refine Wp.rg [] [] ?_
    refine Runs.alln ?_
    exact ⟨(p0, p1, bAdd .i64 x2 1), h, Le.of (mo := []) (mr := []) kr kr kr kr⟩
   refine Wp.exit ?_
   refine thenE ?_
   refine thenE ?_
   refine blkE ?_
   refine thenN ?_
   exact ⟨(), h, Le.of (mo := []) (mr := []) kr kr kr kr⟩
theorem laws_eqSum_ok (u : Nat) (p0 : Sum) (p1 : Sum) (r : Bool) (h : laws_eqSum u p0 p1 = some r) : CallOK Tryz.prog 194 [.agg [.i p0.fW, .i p0.fS], .agg [.i p1.fW, .i p1.fS]] (.one (.b r)) [] := by
 unfold laws_eqSum at h
 refine CallOK.of_bodyK (fn := Tryz.f194) (m := false) [.agg [.i p0.fW, .i p0.fS], .agg [.i p1.fW, .i p1.fS]] kr rfl kr kr kr kr kr ?_
 refine Wp.sag ⟨[(2, .obj 2 0), (3, .obj 3 0), (4, .b false)], [(2, [.i p0.fW, .i p0.fS]), (3, [.i p1.fW, .i p1.fS])], []⟩ ?_
 refine Wp.seq ?_
 refine Wp.sag ⟨[(2, .obj 2 0), (3, .obj 3 0), (4, .b false), (9, .b (p0.fW != p1.fW))], [(2, [.i p0.fW, .i p0.fS]), (3, [.i p1.fW, .i p1.fS])], []⟩ ?_
 refine Wp.c2 h (fun h => ?_) (fun h => ?_)
 ·refine Wp.sag ⟨[(2, .obj 2 0), (3, .obj 3 0), (4, .b false)], [(2, [.i p0.fW, .i p0.fS]), (3, [.i p1.fW, .i p1.fS])], []⟩ ?_
  refine Wp.ret ?_
  refine thenR ?_
  obtain rfl := oi h
  exact RetK [.b false] _ [] kr kr (.refl _) .nil
 refine Wp.sk ?_
 refine Wp.seq ?_
 refine Wp.sag ⟨[(4, .b false), (14, .b (p0.fS != p1.fS))], [], []⟩ ?_
 refine Wp.c2 h (fun h => ?_) (fun h => ?_)
 ·refine Wp.sag ⟨[(4, .b false)], [], []⟩ ?_
  refine Wp.ret ?_
  refine thenR ?_
  obtain rfl := oi h
  exact RetK [.b false] _ [] kr kr (.refl _) .nil
 refine Wp.sk ?_
 refine Wp.sag ⟨[(4, .b true)], [], []⟩ ?_
 refine Wp.ret ?_
 obtain rfl := oi h
 exact RetK [.b true] _ [] kr kr (.refl _) .nil
theorem laws_eqSumS_ok (u : Nat) (p0 : List Sum) (p1 : List Sum) (r : Bool) (h : laws_eqSumS u p0 p1 = some r) : CallOK Tryz.prog 163 [.one (.t (.sl 2 (p0.map Sum.enc))), .one (.t (.sl 2 (p1.map Sum.enc)))] (.one (.b r)) [] := by
 unfold laws_eqSumS at h
 refine CallOK.of_bodyK (fn := Tryz.f163) (m := false) [.t (.sl 2 (p0.map Sum.enc)), .t (.sl 2 (p1.map Sum.enc))] kr rfl kr kr kr kr kr ?_
 refine Wp.sag ⟨[(0, .t (.sl 2 (p0.map Sum.enc))), (1, .t (.sl 2 (p1.map Sum.enc))), (4, .b false)], [], []⟩ ?_
 refine Wp.seq ?_
 refine Wp.sb 1 ?_
 refine Runs.lenT (y := .t (.sl 2 (p0.map Sum.enc))) (e := 189) Sum.enc p0 2 rfl rfl rfl kr kr kr kr kr ?_
 refine Runs.batch 1 kr ?_
 refine Runs.lenT (y := .t (.sl 2 (p1.map Sum.enc))) (e := 189) Sum.enc p1 2 rfl rfl rfl kr kr kr kr kr ?_
 refine Runs.allf ⟨[(0, .t (.sl 2 (p0.map Sum.enc))), (1, .t (.sl 2 (p1.map Sum.enc))), (4, .b false), (10, .b (((p0.length : Int)) != ((p1.length : Int))))], [], []⟩ ?_
 refine Wp.c2 h (fun h => ?_) (fun h => ?_)
 ·refine Wp.sag ⟨[(0, .t (.sl 2 (p0.map Sum.enc))), (1, .t (.sl 2 (p1.map Sum.enc))), (4, .b false)], [], []⟩ ?_
  refine Wp.ret ?_
  refine thenR ?_
  obtain rfl := oi h
  exact RetK [.b false] _ [] kr kr (.refl _) .nil
 refine Wp.sk ?_
 refine Wp.seqJ (α := Unit) (fun a => ⟨[(4, .b false)], [], []⟩) (fun a => laws_eqSumS_j1 u = some r) ?_ ?_
 ·rintro ⟨⟩ h
  change laws_eqSumS_j1 u = some r at h
  unfold laws_eqSumS_j1 at h
  refine Wp.sag ⟨[(4, .b true)], [], []⟩ ?_
  refine Wp.ret ?_
  obtain rfl := oi h
  exact RetK [.b true] _ [] kr kr (.refl _) .nil
 ·refine Wp.sag ⟨[(0, .t (.sl 2 (p0.map Sum.enc))), (1, .t (.sl 2 (p1.map Sum.enc))), (4, .b false), (5, .i 0)], [], []⟩ ?_
  refine Wp.block ?_
  refine Wp.loopF (α := (List Sum) × (List Sum) × Int) (fun a => ⟨[(0, .t (.sl 2 (a.1.map Sum.enc))), (1, .t (.sl 2 (a.2.1.map Sum.enc))), (4, .b false), (5, .i a.2.2)], [], []⟩) (fun k_laws_eqSumS_l2 a => laws_eqSumS_l2 u k_laws_eqSumS_l2 a.1 a.2.1 a.2.2 = some r) ?_ ?_ u (p0, p1, 0) h (Le.of (mo := []) (mr := []) kr kr kr kr)
  ·intro a h; unfold laws_eqSumS_l2 at h; cases h
  ·rintro k_laws_eqSumS_l2 ⟨p0, p1, x2⟩ h
   change laws_eqSumS_l2 u (k_laws_eqSumS_l2 + 1) p0 p1 x2 = some r at h
   rw [laws_eqSumS_l2] at h
   refine Wp.seq ?_
   refine Wp.sb 2 ?_
   refine Runs.lenT (y := .t (.sl 2 (p0.map Sum.enc))) (e := 189) Sum.enc p0 2 rfl rfl rfl kr kr kr kr kr ?_
   refine Runs.allf ⟨[(0, .t (.sl 2 (p0.map Sum.enc))), (1, .t (.sl 2 (p1.map Sum.enc))), (4, .b false), (5, .i x2), (14, .b (decide (x2 < ((p0.length : Int)))))], [], []⟩ ?_
   refine Wp.c2 h (fun h => ?_) (fun h => ?_)
   ·refine Wp.sk ?_
    refine Wp.seq ?_
    refine Wp.block ?_
    refine Wp.seq ?_
    refine Wp.regionA (pOf []) (rhoOf [(0, .frz), (1, .frz), (5, .frz), (17, .frz), (18, .frz), (19, .frz), (20, .frz), (21, .frz), (22, .frz), (23, .frz), (24, .frz), (25, .frz)]) kr kr ?_
    refine Runs.batch 2 kr ?_
    obtain ⟨y4, e_y4, h⟩ := bind_some h
    refine Runs.idxT (e := 189) (kk := .i64) (sz := 2) Sum.enc p0 x2 rfl kr kr kr kr kr kr e_y4 ?_
    refine Runs.batch 3 kr ?_
    obtain ⟨y5, e_y5, h⟩ := bind_some h
    refine Runs.idxT (e := 189) (kk := .i64) (sz := 2) Sum.enc p1 x2 rfl kr kr kr kr kr kr e_y5 ?_
    refine Runs.batch 1 kr ?_
    obtain ⟨r6, e_r6, h⟩ := bind_some h
    refine Runs.ck 25 [.agg [.i y4.fW, .i y4.fS], .agg [.i y5.fW, .i y5.fS]] (laws_eqSum_ok u y4 y5 r6 e_r6) ?_
    refine Runs.allf ⟨[(0, .t (.sl 2 (p0.map Sum.enc))), (1, .t (.sl 2 (p1.map Sum.enc))), (4, .b false), (5, .i x2), (26, .b (!r6))], [], []⟩ ?_
    refine Wp.c2 h (fun h => ?_) (fun h => ?_)
    ·refine Wp.sag ⟨[(0, .t (.sl 2 (p0.map Sum.enc))), (1, .t (.sl 2 (p1.map Sum.enc))), (4, .b false), (5, .i x2)], [], []⟩ ?_
     refine Wp.ret ?_
     refine blkR ?_
     refine thenR ?_
     refine thenR ?_
     refine blkR ?_
     refine thenR ?_
     obtain rfl := oi h
     exact RetK [.b false] _ [] kr kr (.refl _) .nil
    refine Wp.skip ?_
    refine blkN ?_
    refine thenN ?_
    refine Wp.rg [] [] ?_
    refine Runs.alln ?_
    exact ⟨(p0, p1, bAdd .i64 x2 1), h, Le.of (mo := []) (mr := []) kr kr kr kr⟩
   refine Wp.exit ?_
   refine thenE ?_
   refine thenE ?_
   refine blkE ?_
   refine thenN ?_
   exact ⟨(), h, Le.of (mo := []) (mr := []) kr kr kr kr⟩
theorem laws_eqManifest_ok (u : Nat) (p0 : Manifest) (p1 : Manifest) (r : Bool) (h : laws_eqManifest u p0 p1 = some r) : CallOK Tryz.prog 119 [.agg [.i p0.fGen, .i p0.fSize, .i p0.fLen, .t (.sl 2 (p0.fSums.map Sum.enc))], .agg [.i p1.fGen, .i p1.fSize, .i p1.fLen, .t (.sl 2 (p1.fSums.map Sum.enc))]] (.one (.b r)) [] := by
 unfold laws_eqManifest at h
 refine CallOK.of_bodyK (fn := Tryz.f119) (m := false) [.agg ((Manifest.enc p0).map .t), .agg ((Manifest.enc p1).map .t)] kr rfl kr kr kr kr kr ?_
 refine Wp.sag ⟨[(2, .obj 2 0), (3, .obj 3 0), (4, .b false)], [(2, ((Manifest.enc p0).map .t)), (3, ((Manifest.enc p1).map .t))], []⟩ ?_
 refine Wp.seq ?_
 refine Wp.sag ⟨[(2, .obj 2 0), (3, .obj 3 0), (4, .b false), (9, .b (p0.fGen != p1.fGen))], [(2, ((Manifest.enc p0).map .t)), (3, ((Manifest.enc p1).map .t))], []⟩ ?_
 refine Wp.c2 h (fun h => ?_) (fun h => ?_)
 ·refine Wp.sag ⟨[(2, .obj 2 0), (3, .obj 3 0), (4, .b false)], [(2, ((Manifest.enc p0).map .t)), (3, ((Manifest.enc p1).map .t))], []⟩ ?_
  refine Wp.ret ?_
  refine thenR ?_
  obtain rfl := oi h
  exact RetK [.b false] _ [] kr kr (.refl _) .nil
 refine Wp.sk ?_
 refine Wp.seq ?_
 refine Wp.sag ⟨[(2, .obj 2 0), (3, .obj 3 0), (4, .b false), (14, .b (p0.fSize != p1.fSize))], [(2, ((Manifest.enc p0).map .t)), (3, ((Manifest.enc p1).map .t))], []⟩ ?_
 refine Wp.c2 h (fun h => ?_) (fun h => ?_)
 ·refine Wp.sag ⟨[(2, .obj 2 0), (3, .obj 3 0), (4, .b false)], [(2, ((Manifest.enc p0).map .t)), (3, ((Manifest.enc p1).map .t))], []⟩ ?_
  refine Wp.ret ?_
  refine thenR ?_
  obtain rfl := oi h
  exact RetK [.b false] _ [] kr kr (.refl _) .nil
 refine Wp.sk ?_
 refine Wp.seq ?_
 refine Wp.sag ⟨[(2, .obj 2 0), (3, .obj 3 0), (4, .b false), (19, .b (p0.fLen != p1.fLen))], [(2, ((Manifest.enc p0).map .t)), (3, ((Manifest.enc p1).map .t))], []⟩ ?_
 refine Wp.c2 h (fun h => ?_) (fun h => ?_)
 ·refine Wp.sag ⟨[(2, .obj 2 0), (3, .obj 3 0), (4, .b false)], [(2, ((Manifest.enc p0).map .t)), (3, ((Manifest.enc p1).map .t))], []⟩ ?_
  refine Wp.ret ?_
  refine thenR ?_
  obtain rfl := oi h
  exact RetK [.b false] _ [] kr kr (.refl _) .nil
 refine Wp.sk ?_
 refine Wp.seq ?_
 refine Wp.sb 4 ?_
 obtain ⟨r1, e_r1, h⟩ := bind_some h
 refine Runs.ck 24 [.t (.sl 2 (p0.fSums.map Sum.enc)), .t (.sl 2 (p1.fSums.map Sum.enc))] (laws_eqSumS_ok u p0.fSums p1.fSums r1 e_r1) ?_
 refine Runs.allf ⟨[(4, .b false), (25, .b (!r1))], [], []⟩ ?_
 refine Wp.c2 h (fun h => ?_) (fun h => ?_)
 ·refine Wp.sag ⟨[(4, .b false)], [], []⟩ ?_
  refine Wp.ret ?_
  refine thenR ?_
  obtain rfl := oi h
  exact RetK [.b false] _ [] kr kr (.refl _) .nil
 refine Wp.sk ?_
 refine Wp.sag ⟨[(4, .b true)], [], []⟩ ?_
 refine Wp.ret ?_
 obtain rfl := oi h
 exact RetK [.b true] _ [] kr kr (.refl _) .nil
theorem laws_eqBuild_ok (u : Nat) (p0 : Build) (p1 : Build) (r : Bool) (h : laws_eqBuild u p0 p1 = some r) : CallOK Tryz.prog 120 [.agg [.i p0.fHave, .s p0.fBuf], .agg [.i p1.fHave, .s p1.fBuf]] (.one (.b r)) [] := by
 unfold laws_eqBuild at h
 refine CallOK.of_bodyK (fn := Tryz.f120) (m := false) [.agg [.i p0.fHave, .s p0.fBuf], .agg [.i p1.fHave, .s p1.fBuf]] kr rfl kr kr kr kr kr ?_
 refine Wp.sag ⟨[(2, .obj 2 0), (3, .obj 3 0), (4, .b false)], [(2, [.i p0.fHave, .s p0.fBuf]), (3, [.i p1.fHave, .s p1.fBuf])], []⟩ ?_
 refine Wp.seq ?_
 refine Wp.sag ⟨[(2, .obj 2 0), (3, .obj 3 0), (4, .b false), (9, .b (p0.fHave != p1.fHave))], [(2, [.i p0.fHave, .s p0.fBuf]), (3, [.i p1.fHave, .s p1.fBuf])], []⟩ ?_
 refine Wp.c2 h (fun h => ?_) (fun h => ?_)
 ·refine Wp.sag ⟨[(2, .obj 2 0), (3, .obj 3 0), (4, .b false)], [(2, [.i p0.fHave, .s p0.fBuf]), (3, [.i p1.fHave, .s p1.fBuf])], []⟩ ?_
  refine Wp.ret ?_
  refine thenR ?_
  obtain rfl := oi h
  exact RetK [.b false] _ [] kr kr (.refl _) .nil
 refine Wp.sk ?_
 refine Wp.seq ?_
 refine Wp.sb 4 ?_
 obtain ⟨r1, e_r1, h⟩ := bind_some h
 refine Runs.ck 14 [.s p0.fBuf, .s p1.fBuf] (laws_eqByteS_ok u p0.fBuf p1.fBuf r1 e_r1) ?_
 refine Runs.allf ⟨[(4, .b false), (15, .b (!r1))], [], []⟩ ?_
 refine Wp.c2 h (fun h => ?_) (fun h => ?_)
 ·refine Wp.sag ⟨[(4, .b false)], [], []⟩ ?_
  refine Wp.ret ?_
  refine thenR ?_
  obtain rfl := oi h
  exact RetK [.b false] _ [] kr kr (.refl _) .nil
 refine Wp.sk ?_
 refine Wp.sag ⟨[(4, .b true)], [], []⟩ ?_
 refine Wp.ret ?_
 obtain rfl := oi h
 exact RetK [.b true] _ [] kr kr (.refl _) .nil
theorem laws_eqKid_ok (u : Nat) (p0 : Kid) (p1 : Kid) (r : Bool) (h : laws_eqKid u p0 p1 = some r) : CallOK Tryz.prog 164 [.agg [.i p0.fId, .i p0.fWant, .i p0.fDone, .i p0.fAge, .i p0.fSent], .agg [.i p1.fId, .i p1.fWant, .i p1.fDone, .i p1.fAge, .i p1.fSent]] (.one (.b r)) [] := by
 unfold laws_eqKid at h
 refine CallOK.of_bodyK (fn := Tryz.f164) (m := false) [.agg ((Kid.enc p0).map .t), .agg ((Kid.enc p1).map .t)] kr rfl kr kr kr kr kr ?_
 refine Wp.sag ⟨[(2, .obj 2 0), (3, .obj 3 0), (4, .b false)], [(2, ((Kid.enc p0).map .t)), (3, ((Kid.enc p1).map .t))], []⟩ ?_
 refine Wp.seq ?_
 refine Wp.sag ⟨[(2, .obj 2 0), (3, .obj 3 0), (4, .b false), (9, .b (p0.fId != p1.fId))], [(2, ((Kid.enc p0).map .t)), (3, ((Kid.enc p1).map .t))], []⟩ ?_
 refine Wp.c2 h (fun h => ?_) (fun h => ?_)
 ·refine Wp.sag ⟨[(2, .obj 2 0), (3, .obj 3 0), (4, .b false)], [(2, ((Kid.enc p0).map .t)), (3, ((Kid.enc p1).map .t))], []⟩ ?_
  refine Wp.ret ?_
  refine thenR ?_
  obtain rfl := oi h
  exact RetK [.b false] _ [] kr kr (.refl _) .nil
 refine Wp.sk ?_
 refine Wp.seq ?_
 refine Wp.sag ⟨[(2, .obj 2 0), (3, .obj 3 0), (4, .b false), (14, .b (p0.fWant != p1.fWant))], [(2, ((Kid.enc p0).map .t)), (3, ((Kid.enc p1).map .t))], []⟩ ?_
 refine Wp.c2 h (fun h => ?_) (fun h => ?_)
 ·refine Wp.sag ⟨[(2, .obj 2 0), (3, .obj 3 0), (4, .b false)], [(2, ((Kid.enc p0).map .t)), (3, ((Kid.enc p1).map .t))], []⟩ ?_
  refine Wp.ret ?_
  refine thenR ?_
  obtain rfl := oi h
  exact RetK [.b false] _ [] kr kr (.refl _) .nil
 refine Wp.sk ?_
 refine Wp.seq ?_
 refine Wp.sag ⟨[(2, .obj 2 0), (3, .obj 3 0), (4, .b false), (19, .b (p0.fDone != p1.fDone))], [(2, ((Kid.enc p0).map .t)), (3, ((Kid.enc p1).map .t))], []⟩ ?_
 refine Wp.c2 h (fun h => ?_) (fun h => ?_)
 ·refine Wp.sag ⟨[(2, .obj 2 0), (3, .obj 3 0), (4, .b false)], [(2, ((Kid.enc p0).map .t)), (3, ((Kid.enc p1).map .t))], []⟩ ?_
  refine Wp.ret ?_
  refine thenR ?_
  obtain rfl := oi h
  exact RetK [.b false] _ [] kr kr (.refl _) .nil
 refine Wp.sk ?_
 refine Wp.seq ?_
 refine Wp.sag ⟨[(2, .obj 2 0), (3, .obj 3 0), (4, .b false), (24, .b (p0.fAge != p1.fAge))], [(2, ((Kid.enc p0).map .t)), (3, ((Kid.enc p1).map .t))], []⟩ ?_
 refine Wp.c2 h (fun h => ?_) (fun h => ?_)
 ·refine Wp.sag ⟨[(2, .obj 2 0), (3, .obj 3 0), (4, .b false)], [(2, ((Kid.enc p0).map .t)), (3, ((Kid.enc p1).map .t))], []⟩ ?_
  refine Wp.ret ?_
  refine thenR ?_
  obtain rfl := oi h
  exact RetK [.b false] _ [] kr kr (.refl _) .nil
 refine Wp.sk ?_
 refine Wp.seq ?_
 refine Wp.sag ⟨[(4, .b false), (29, .b (p0.fSent != p1.fSent))], [], []⟩ ?_
 refine Wp.c2 h (fun h => ?_) (fun h => ?_)
 ·refine Wp.sag ⟨[(4, .b false)], [], []⟩ ?_
  refine Wp.ret ?_
  refine thenR ?_
  obtain rfl := oi h
  exact RetK [.b false] _ [] kr kr (.refl _) .nil
 refine Wp.sk ?_
 refine Wp.sag ⟨[(4, .b true)], [], []⟩ ?_
 refine Wp.ret ?_
 obtain rfl := oi h
 exact RetK [.b true] _ [] kr kr (.refl _) .nil
theorem laws_eqKidS_ok (u : Nat) (p0 : List Kid) (p1 : List Kid) (r : Bool) (h : laws_eqKidS u p0 p1 = some r) : CallOK Tryz.prog 121 [.one (.t (.sl 5 (p0.map Kid.enc))), .one (.t (.sl 5 (p1.map Kid.enc)))] (.one (.b r)) [] := by
 unfold laws_eqKidS at h
 refine CallOK.of_bodyK (fn := Tryz.f121) (m := false) [.t (.sl 5 (p0.map Kid.enc)), .t (.sl 5 (p1.map Kid.enc))] kr rfl kr kr kr kr kr ?_
 refine Wp.sag ⟨[(0, .t (.sl 5 (p0.map Kid.enc))), (1, .t (.sl 5 (p1.map Kid.enc))), (4, .b false)], [], []⟩ ?_
 refine Wp.seq ?_
 refine Wp.sb 1 ?_
 refine Runs.lenT (y := .t (.sl 5 (p0.map Kid.enc))) (e := 200) Kid.enc p0 5 rfl rfl rfl kr kr kr kr kr ?_
 refine Runs.batch 1 kr ?_
 refine Runs.lenT (y := .t (.sl 5 (p1.map Kid.enc))) (e := 200) Kid.enc p1 5 rfl rfl rfl kr kr kr kr kr ?_
 refine Runs.allf ⟨[(0, .t (.sl 5 (p0.map Kid.enc))), (1, .t (.sl 5 (p1.map Kid.enc))), (4, .b false), (10, .b (((p0.length : Int)) != ((p1.length : Int))))], [], []⟩ ?_
 refine Wp.c2 h (fun h => ?_) (fun h => ?_)
 ·refine Wp.sag ⟨[(0, .t (.sl 5 (p0.map Kid.enc))), (1, .t (.sl 5 (p1.map Kid.enc))), (4, .b false)], [], []⟩ ?_
  refine Wp.ret ?_
  refine thenR ?_
  obtain rfl := oi h
  exact RetK [.b false] _ [] kr kr (.refl _) .nil
 refine Wp.sk ?_
 refine Wp.seqJ (α := Unit) (fun a => ⟨[(4, .b false)], [], []⟩) (fun a => laws_eqKidS_j1 u = some r) ?_ ?_
 ·rintro ⟨⟩ h
  change laws_eqKidS_j1 u = some r at h
  unfold laws_eqKidS_j1 at h
  refine Wp.sag ⟨[(4, .b true)], [], []⟩ ?_
  refine Wp.ret ?_
  obtain rfl := oi h
  exact RetK [.b true] _ [] kr kr (.refl _) .nil
 ·refine Wp.sag ⟨[(0, .t (.sl 5 (p0.map Kid.enc))), (1, .t (.sl 5 (p1.map Kid.enc))), (4, .b false), (5, .i 0)], [], []⟩ ?_
  refine Wp.block ?_
  refine Wp.loopF (α := (List Kid) × (List Kid) × Int) (fun a => ⟨[(0, .t (.sl 5 (a.1.map Kid.enc))), (1, .t (.sl 5 (a.2.1.map Kid.enc))), (4, .b false), (5, .i a.2.2)], [], []⟩) (fun k_laws_eqKidS_l2 a => laws_eqKidS_l2 u k_laws_eqKidS_l2 a.1 a.2.1 a.2.2 = some r) ?_ ?_ u (p0, p1, 0) h (Le.of (mo := []) (mr := []) kr kr kr kr)
  ·intro a h; unfold laws_eqKidS_l2 at h; cases h
  ·rintro k_laws_eqKidS_l2 ⟨p0, p1, x2⟩ h
   change laws_eqKidS_l2 u (k_laws_eqKidS_l2 + 1) p0 p1 x2 = some r at h
   rw [laws_eqKidS_l2] at h
   refine Wp.seq ?_
   refine Wp.sb 2 ?_
   refine Runs.lenT (y := .t (.sl 5 (p0.map Kid.enc))) (e := 200) Kid.enc p0 5 rfl rfl rfl kr kr kr kr kr ?_
   refine Runs.allf ⟨[(0, .t (.sl 5 (p0.map Kid.enc))), (1, .t (.sl 5 (p1.map Kid.enc))), (4, .b false), (5, .i x2), (14, .b (decide (x2 < ((p0.length : Int)))))], [], []⟩ ?_
   refine Wp.c2 h (fun h => ?_) (fun h => ?_)
   ·refine Wp.sk ?_
    refine Wp.seq ?_
    refine Wp.block ?_
    refine Wp.seq ?_
    refine Wp.regionA (pOf []) (rhoOf [(0, .frz), (1, .frz), (5, .frz), (17, .frz), (18, .frz), (19, .frz), (20, .frz), (21, .frz), (22, .frz), (23, .frz), (24, .frz), (25, .frz)]) kr kr ?_
    refine Runs.batch 2 kr ?_
    obtain ⟨y4, e_y4, h⟩ := bind_some h
    refine Runs.idxT (e := 200) (kk := .i64) (sz := 5) Kid.enc p0 x2 rfl kr kr kr kr kr kr e_y4 ?_
    refine Runs.batch 3 kr ?_
    obtain ⟨y5, e_y5, h⟩ := bind_some h
    refine Runs.idxT (e := 200) (kk := .i64) (sz := 5) Kid.enc p1 x2 rfl kr kr kr kr kr kr e_y5 ?_
    refine Runs.batch 1 kr ?_
    obtain ⟨r6, e_r6, h⟩ := bind_some h
    refine Runs.ck 25 [.agg ((Kid.enc y4).map .t), .agg ((Kid.enc y5).map .t)] (laws_eqKid_ok u y4 y5 r6 e_r6) ?_
    refine Runs.allf ⟨[(0, .t (.sl 5 (p0.map Kid.enc))), (1, .t (.sl 5 (p1.map Kid.enc))), (4, .b false), (5, .i x2), (26, .b (!r6))], [], []⟩ ?_
    refine Wp.c2 h (fun h => ?_) (fun h => ?_)
    ·refine Wp.sag ⟨[(0, .t (.sl 5 (p0.map Kid.enc))), (1, .t (.sl 5 (p1.map Kid.enc))), (4, .b false), (5, .i x2)], [], []⟩ ?_
     refine Wp.ret ?_
     refine blkR ?_
     refine thenR ?_
     refine thenR ?_
     refine blkR ?_
     refine thenR ?_
     obtain rfl := oi h
     exact RetK [.b false] _ [] kr kr (.refl _) .nil
    refine Wp.skip ?_
    refine blkN ?_
    refine thenN ?_
    refine Wp.rg [] [] ?_
    refine Runs.alln ?_
    exact ⟨(p0, p1, bAdd .i64 x2 1), h, Le.of (mo := []) (mr := []) kr kr kr kr⟩
   refine Wp.exit ?_
   refine thenE ?_
   refine thenE ?_
   refine blkE ?_
   refine thenN ?_
   exact ⟨(), h, Le.of (mo := []) (mr := []) kr kr kr kr⟩
theorem laws_eqNode_ok (u : Nat) (p0 : Node) (p1 : Node) (r : Bool) (h : laws_eqNode u p0 p1 = some r) : CallOK Tryz.prog 79 [.agg [.b p0.fOn, .i p0.fBoss, .i p0.fQuiet, .i p0.fMan.fGen, .i p0.fMan.fSize, .i p0.fMan.fLen, .t (.sl 2 (p0.fMan.fSums.map Sum.enc)), .i p0.fBld.fHave, .s p0.fBld.fBuf, .i p0.fPhase, .t (.sl 5 (p0.fKids.map Kid.enc)), .i p0.fDrops], .agg [.b p1.fOn, .i p1.fBoss, .i p1.fQuiet, .i p1.fMan.fGen, .i p1.fMan.fSize, .i p1.fMan.fLen, .t (.sl 2 (p1.fMan.fSums.map Sum.enc)), .i p1.fBld.fHave, .s p1.fBld.fBuf, .i p1.fPhase, .t (.sl 5 (p1.fKids.map Kid.enc)), .i p1.fDrops]] (.one (.b r)) [] := by
 unfold laws_eqNode at h
 refine CallOK.of_bodyK (fn := Tryz.f79) (m := false) [.agg ((Node.enc p0).map .t), .agg ((Node.enc p1).map .t)] kr rfl kr kr kr kr kr ?_
 refine Wp.sag ⟨[(2, .obj 2 0), (3, .obj 3 0), (4, .b false)], [(2, ((Node.enc p0).map .t)), (3, ((Node.enc p1).map .t))], []⟩ ?_
 refine Wp.seq ?_
 refine Wp.sag ⟨[(2, .obj 2 0), (3, .obj 3 0), (4, .b false), (9, .b (!(p0.fOn == p1.fOn)))], [(2, ((Node.enc p0).map .t)), (3, ((Node.enc p1).map .t))], []⟩ ?_
 refine Wp.c2 h (fun h => ?_) (fun h => ?_)
 ·refine Wp.sag ⟨[(2, .obj 2 0), (3, .obj 3 0), (4, .b false)], [(2, ((Node.enc p0).map .t)), (3, ((Node.enc p1).map .t))], []⟩ ?_
  refine Wp.ret ?_
  refine thenR ?_
  obtain rfl := oi h
  exact RetK [.b false] _ [] kr kr (.refl _) .nil
 refine Wp.sk ?_
 refine Wp.seq ?_
 refine Wp.sag ⟨[(2, .obj 2 0), (3, .obj 3 0), (4, .b false), (14, .b (p0.fBoss != p1.fBoss))], [(2, ((Node.enc p0).map .t)), (3, ((Node.enc p1).map .t))], []⟩ ?_
 refine Wp.c2 h (fun h => ?_) (fun h => ?_)
 ·refine Wp.sag ⟨[(2, .obj 2 0), (3, .obj 3 0), (4, .b false)], [(2, ((Node.enc p0).map .t)), (3, ((Node.enc p1).map .t))], []⟩ ?_
  refine Wp.ret ?_
  refine thenR ?_
  obtain rfl := oi h
  exact RetK [.b false] _ [] kr kr (.refl _) .nil
 refine Wp.sk ?_
 refine Wp.seq ?_
 refine Wp.sag ⟨[(2, .obj 2 0), (3, .obj 3 0), (4, .b false), (19, .b (p0.fQuiet != p1.fQuiet))], [(2, ((Node.enc p0).map .t)), (3, ((Node.enc p1).map .t))], []⟩ ?_
 refine Wp.c2 h (fun h => ?_) (fun h => ?_)
 ·refine Wp.sag ⟨[(2, .obj 2 0), (3, .obj 3 0), (4, .b false)], [(2, ((Node.enc p0).map .t)), (3, ((Node.enc p1).map .t))], []⟩ ?_
  refine Wp.ret ?_
  refine thenR ?_
  obtain rfl := oi h
  exact RetK [.b false] _ [] kr kr (.refl _) .nil
 refine Wp.sk ?_
 refine Wp.seq ?_
 refine Wp.sb 4 ?_
 obtain ⟨r1, e_r1, h⟩ := bind_some h
 refine Runs.ck 24 [.agg ((Manifest.enc p0.fMan).map .t), .agg ((Manifest.enc p1.fMan).map .t)] (laws_eqManifest_ok u p0.fMan p1.fMan r1 e_r1) ?_
 refine Runs.allf ⟨[(2, .obj 2 0), (3, .obj 3 0), (4, .b false), (25, .b (!r1))], [(2, ((Node.enc p0).map .t)), (3, ((Node.enc p1).map .t))], []⟩ ?_
 refine Wp.c2 h (fun h => ?_) (fun h => ?_)
 ·refine Wp.sag ⟨[(2, .obj 2 0), (3, .obj 3 0), (4, .b false)], [(2, ((Node.enc p0).map .t)), (3, ((Node.enc p1).map .t))], []⟩ ?_
  refine Wp.ret ?_
  refine thenR ?_
  obtain rfl := oi h
  exact RetK [.b false] _ [] kr kr (.refl _) .nil
 refine Wp.sk ?_
 refine Wp.seq ?_
 refine Wp.sb 4 ?_
 obtain ⟨r2, e_r2, h⟩ := bind_some h
 refine Runs.ck 30 [.agg [.i p0.fBld.fHave, .s p0.fBld.fBuf], .agg [.i p1.fBld.fHave, .s p1.fBld.fBuf]] (laws_eqBuild_ok u p0.fBld p1.fBld r2 e_r2) ?_
 refine Runs.allf ⟨[(2, .obj 2 0), (3, .obj 3 0), (4, .b false), (31, .b (!r2))], [(2, ((Node.enc p0).map .t)), (3, ((Node.enc p1).map .t))], []⟩ ?_
 refine Wp.c2 h (fun h => ?_) (fun h => ?_)
 ·refine Wp.sag ⟨[(2, .obj 2 0), (3, .obj 3 0), (4, .b false)], [(2, ((Node.enc p0).map .t)), (3, ((Node.enc p1).map .t))], []⟩ ?_
  refine Wp.ret ?_
  refine thenR ?_
  obtain rfl := oi h
  exact RetK [.b false] _ [] kr kr (.refl _) .nil
 refine Wp.sk ?_
 refine Wp.seq ?_
 refine Wp.sag ⟨[(2, .obj 2 0), (3, .obj 3 0), (4, .b false), (36, .b (p0.fPhase != p1.fPhase))], [(2, ((Node.enc p0).map .t)), (3, ((Node.enc p1).map .t))], []⟩ ?_
 refine Wp.c2 h (fun h => ?_) (fun h => ?_)
 ·refine Wp.sag ⟨[(2, .obj 2 0), (3, .obj 3 0), (4, .b false)], [(2, ((Node.enc p0).map .t)), (3, ((Node.enc p1).map .t))], []⟩ ?_
  refine Wp.ret ?_
  refine thenR ?_
  obtain rfl := oi h
  exact RetK [.b false] _ [] kr kr (.refl _) .nil
 refine Wp.sk ?_
 refine Wp.seq ?_
 refine Wp.sb 4 ?_
 obtain ⟨r3, e_r3, h⟩ := bind_some h
 refine Runs.ck 41 [.t (.sl 5 (p0.fKids.map Kid.enc)), .t (.sl 5 (p1.fKids.map Kid.enc))] (laws_eqKidS_ok u p0.fKids p1.fKids r3 e_r3) ?_
 refine Runs.allf ⟨[(2, .obj 2 0), (3, .obj 3 0), (4, .b false), (42, .b (!r3))], [(2, ((Node.enc p0).map .t)), (3, ((Node.enc p1).map .t))], []⟩ ?_
 refine Wp.c2 h (fun h => ?_) (fun h => ?_)
 ·refine Wp.sag ⟨[(2, .obj 2 0), (3, .obj 3 0), (4, .b false)], [(2, ((Node.enc p0).map .t)), (3, ((Node.enc p1).map .t))], []⟩ ?_
  refine Wp.ret ?_
  refine thenR ?_
  obtain rfl := oi h
  exact RetK [.b false] _ [] kr kr (.refl _) .nil
 refine Wp.sk ?_
 refine Wp.seq ?_
 refine Wp.sag ⟨[(4, .b false), (47, .b (p0.fDrops != p1.fDrops))], [], []⟩ ?_
 refine Wp.c2 h (fun h => ?_) (fun h => ?_)
 ·refine Wp.sag ⟨[(4, .b false)], [], []⟩ ?_
  refine Wp.ret ?_
  refine thenR ?_
  obtain rfl := oi h
  exact RetK [.b false] _ [] kr kr (.refl _) .nil
 refine Wp.sk ?_
 refine Wp.sag ⟨[(4, .b true)], [], []⟩ ?_
 refine Wp.ret ?_
 obtain rfl := oi h
 exact RetK [.b true] _ [] kr kr (.refl _) .nil
theorem laws_eqNodeS_ok (u : Nat) (p0 : List Node) (p1 : List Node) (r : Bool) (h : laws_eqNodeS u p0 p1 = some r) : CallOK Tryz.prog 47 [.one (.t (.sl 12 (p0.map Node.enc))), .one (.t (.sl 12 (p1.map Node.enc)))] (.one (.b r)) [] := by
 unfold laws_eqNodeS at h
 refine CallOK.of_bodyK (fn := Tryz.f47) (m := false) [.t (.sl 12 (p0.map Node.enc)), .t (.sl 12 (p1.map Node.enc))] kr rfl kr kr kr kr kr ?_
 refine Wp.sag ⟨[(0, .t (.sl 12 (p0.map Node.enc))), (1, .t (.sl 12 (p1.map Node.enc))), (4, .b false)], [], []⟩ ?_
 refine Wp.seq ?_
 refine Wp.sb 1 ?_
 refine Runs.lenT (y := .t (.sl 12 (p0.map Node.enc))) (e := 92) Node.enc p0 12 rfl rfl rfl kr kr kr kr kr ?_
 refine Runs.batch 1 kr ?_
 refine Runs.lenT (y := .t (.sl 12 (p1.map Node.enc))) (e := 92) Node.enc p1 12 rfl rfl rfl kr kr kr kr kr ?_
 refine Runs.allf ⟨[(0, .t (.sl 12 (p0.map Node.enc))), (1, .t (.sl 12 (p1.map Node.enc))), (4, .b false), (10, .b (((p0.length : Int)) != ((p1.length : Int))))], [], []⟩ ?_
 refine Wp.c2 h (fun h => ?_) (fun h => ?_)
 ·refine Wp.sag ⟨[(0, .t (.sl 12 (p0.map Node.enc))), (1, .t (.sl 12 (p1.map Node.enc))), (4, .b false)], [], []⟩ ?_
  refine Wp.ret ?_
  refine thenR ?_
  obtain rfl := oi h
  exact RetK [.b false] _ [] kr kr (.refl _) .nil
 refine Wp.sk ?_
 refine Wp.seqJ (α := Unit) (fun a => ⟨[(4, .b false)], [], []⟩) (fun a => laws_eqNodeS_j1 u = some r) ?_ ?_
 ·rintro ⟨⟩ h
  change laws_eqNodeS_j1 u = some r at h
  unfold laws_eqNodeS_j1 at h
  refine Wp.sag ⟨[(4, .b true)], [], []⟩ ?_
  refine Wp.ret ?_
  obtain rfl := oi h
  exact RetK [.b true] _ [] kr kr (.refl _) .nil
 ·refine Wp.sag ⟨[(0, .t (.sl 12 (p0.map Node.enc))), (1, .t (.sl 12 (p1.map Node.enc))), (4, .b false), (5, .i 0)], [], []⟩ ?_
  refine Wp.block ?_
  refine Wp.loopF (α := (List Node) × (List Node) × Int) (fun a => ⟨[(0, .t (.sl 12 (a.1.map Node.enc))), (1, .t (.sl 12 (a.2.1.map Node.enc))), (4, .b false), (5, .i a.2.2)], [], []⟩) (fun k_laws_eqNodeS_l2 a => laws_eqNodeS_l2 u k_laws_eqNodeS_l2 a.1 a.2.1 a.2.2 = some r) ?_ ?_ u (p0, p1, 0) h (Le.of (mo := []) (mr := []) kr kr kr kr)
  ·intro a h; unfold laws_eqNodeS_l2 at h; cases h
  ·rintro k_laws_eqNodeS_l2 ⟨p0, p1, x2⟩ h
   change laws_eqNodeS_l2 u (k_laws_eqNodeS_l2 + 1) p0 p1 x2 = some r at h
   rw [laws_eqNodeS_l2] at h
   refine Wp.seq ?_
   refine Wp.sb 2 ?_
   refine Runs.lenT (y := .t (.sl 12 (p0.map Node.enc))) (e := 92) Node.enc p0 12 rfl rfl rfl kr kr kr kr kr ?_
   refine Runs.allf ⟨[(0, .t (.sl 12 (p0.map Node.enc))), (1, .t (.sl 12 (p1.map Node.enc))), (4, .b false), (5, .i x2), (14, .b (decide (x2 < ((p0.length : Int)))))], [], []⟩ ?_
   refine Wp.c2 h (fun h => ?_) (fun h => ?_)
   ·refine Wp.sk ?_
    refine Wp.seq ?_
    refine Wp.block ?_
    refine Wp.seq ?_
    refine Wp.regionA (pOf []) (rhoOf [(0, .frz), (1, .frz), (5, .frz), (17, .frz), (18, .frz), (19, .frz), (20, .frz), (21, .frz), (22, .frz), (23, .frz), (24, .frz), (25, .frz)]) kr kr ?_
    refine Runs.batch 2 kr ?_
    obtain ⟨y4, e_y4, h⟩ := bind_some h
    refine Runs.idxT (e := 92) (kk := .i64) (sz := 12) Node.enc p0 x2 rfl kr kr kr kr kr kr e_y4 ?_
    refine Runs.batch 3 kr ?_
    obtain ⟨y5, e_y5, h⟩ := bind_some h
    refine Runs.idxT (e := 92) (kk := .i64) (sz := 12) Node.enc p1 x2 rfl kr kr kr kr kr kr e_y5 ?_
    refine Runs.batch 1 kr ?_
    obtain ⟨r6, e_r6, h⟩ := bind_some h
    refine Runs.ck 25 [.agg ((Node.enc y4).map .t), .agg ((Node.enc y5).map .t)] (laws_eqNode_ok u y4 y5 r6 e_r6) ?_
    refine Runs.allf ⟨[(0, .t (.sl 12 (p0.map Node.enc))), (1, .t (.sl 12 (p1.map Node.enc))), (4, .b false), (5, .i x2), (26, .b (!r6))], [], []⟩ ?_
    refine Wp.c2 h (fun h => ?_) (fun h => ?_)
    ·refine Wp.sag ⟨[(0, .t (.sl 12 (p0.map Node.enc))), (1, .t (.sl 12 (p1.map Node.enc))), (4, .b false), (5, .i x2)], [], []⟩ ?_
     refine Wp.ret ?_
     refine blkR ?_
     refine thenR ?_
     refine thenR ?_
     refine blkR ?_
     refine thenR ?_
     obtain rfl := oi h
     exact RetK [.b false] _ [] kr kr (.refl _) .nil
    refine Wp.skip ?_
    refine blkN ?_
    refine thenN ?_
    refine Wp.rg [] [] ?_
    refine Runs.alln ?_
    exact ⟨(p0, p1, bAdd .i64 x2 1), h, Le.of (mo := []) (mr := []) kr kr kr kr⟩
   refine Wp.exit ?_
   refine thenE ?_
   refine thenE ?_
   refine blkE ?_
   refine thenN ?_
   exact ⟨(), h, Le.of (mo := []) (mr := []) kr kr kr kr⟩
theorem laws_eqRecord_ok (u : Nat) (p0 : Record) (p1 : Record) (r : Bool) (h : laws_eqRecord u p0 p1 = some r) : CallOK Tryz.prog 122 [.agg [.i p0.fGen, .i p0.fSlot, .i p0.fLen], .agg [.i p1.fGen, .i p1.fSlot, .i p1.fLen]] (.one (.b r)) [] := by
 unfold laws_eqRecord at h
 refine CallOK.of_bodyK (fn := Tryz.f122) (m := false) [.agg ((Record.enc p0).map .t), .agg ((Record.enc p1).map .t)] kr rfl kr kr kr kr kr ?_
 refine Wp.sag ⟨[(2, .obj 2 0), (3, .obj 3 0), (4, .b false)], [(2, ((Record.enc p0).map .t)), (3, ((Record.enc p1).map .t))], []⟩ ?_
 refine Wp.seq ?_
 refine Wp.sag ⟨[(2, .obj 2 0), (3, .obj 3 0), (4, .b false), (9, .b (p0.fGen != p1.fGen))], [(2, ((Record.enc p0).map .t)), (3, ((Record.enc p1).map .t))], []⟩ ?_
 refine Wp.c2 h (fun h => ?_) (fun h => ?_)
 ·refine Wp.sag ⟨[(2, .obj 2 0), (3, .obj 3 0), (4, .b false)], [(2, ((Record.enc p0).map .t)), (3, ((Record.enc p1).map .t))], []⟩ ?_
  refine Wp.ret ?_
  refine thenR ?_
  obtain rfl := oi h
  exact RetK [.b false] _ [] kr kr (.refl _) .nil
 refine Wp.sk ?_
 refine Wp.seq ?_
 refine Wp.sag ⟨[(2, .obj 2 0), (3, .obj 3 0), (4, .b false), (14, .b (p0.fSlot != p1.fSlot))], [(2, ((Record.enc p0).map .t)), (3, ((Record.enc p1).map .t))], []⟩ ?_
 refine Wp.c2 h (fun h => ?_) (fun h => ?_)
 ·refine Wp.sag ⟨[(2, .obj 2 0), (3, .obj 3 0), (4, .b false)], [(2, ((Record.enc p0).map .t)), (3, ((Record.enc p1).map .t))], []⟩ ?_
  refine Wp.ret ?_
  refine thenR ?_
  obtain rfl := oi h
  exact RetK [.b false] _ [] kr kr (.refl _) .nil
 refine Wp.sk ?_
 refine Wp.seq ?_
 refine Wp.sag ⟨[(4, .b false), (19, .b (p0.fLen != p1.fLen))], [], []⟩ ?_
 refine Wp.c2 h (fun h => ?_) (fun h => ?_)
 ·refine Wp.sag ⟨[(4, .b false)], [], []⟩ ?_
  refine Wp.ret ?_
  refine thenR ?_
  obtain rfl := oi h
  exact RetK [.b false] _ [] kr kr (.refl _) .nil
 refine Wp.sk ?_
 refine Wp.sag ⟨[(4, .b true)], [], []⟩ ?_
 refine Wp.ret ?_
 obtain rfl := oi h
 exact RetK [.b true] _ [] kr kr (.refl _) .nil
theorem laws_eqPut_ok (u : Nat) (p0 : Put) (p1 : Put) (r : Bool) (h : laws_eqPut u p0 p1 = some r) : CallOK Tryz.prog 165 [.agg [.i p0.fWhat, .i p0.fAt, .s p0.fB, .i p0.fR.fGen, .i p0.fR.fSlot, .i p0.fR.fLen], .agg [.i p1.fWhat, .i p1.fAt, .s p1.fB, .i p1.fR.fGen, .i p1.fR.fSlot, .i p1.fR.fLen]] (.one (.b r)) [] := by
 unfold laws_eqPut at h
 refine CallOK.of_bodyK (fn := Tryz.f165) (m := false) [.agg ((Put.enc p0).map .t), .agg ((Put.enc p1).map .t)] kr rfl kr kr kr kr kr ?_
 refine Wp.sag ⟨[(2, .obj 2 0), (3, .obj 3 0), (4, .b false)], [(2, ((Put.enc p0).map .t)), (3, ((Put.enc p1).map .t))], []⟩ ?_
 refine Wp.seq ?_
 refine Wp.sag ⟨[(2, .obj 2 0), (3, .obj 3 0), (4, .b false), (9, .b (p0.fWhat != p1.fWhat))], [(2, ((Put.enc p0).map .t)), (3, ((Put.enc p1).map .t))], []⟩ ?_
 refine Wp.c2 h (fun h => ?_) (fun h => ?_)
 ·refine Wp.sag ⟨[(2, .obj 2 0), (3, .obj 3 0), (4, .b false)], [(2, ((Put.enc p0).map .t)), (3, ((Put.enc p1).map .t))], []⟩ ?_
  refine Wp.ret ?_
  refine thenR ?_
  obtain rfl := oi h
  exact RetK [.b false] _ [] kr kr (.refl _) .nil
 refine Wp.sk ?_
 refine Wp.seq ?_
 refine Wp.sag ⟨[(2, .obj 2 0), (3, .obj 3 0), (4, .b false), (14, .b (p0.fAt != p1.fAt))], [(2, ((Put.enc p0).map .t)), (3, ((Put.enc p1).map .t))], []⟩ ?_
 refine Wp.c2 h (fun h => ?_) (fun h => ?_)
 ·refine Wp.sag ⟨[(2, .obj 2 0), (3, .obj 3 0), (4, .b false)], [(2, ((Put.enc p0).map .t)), (3, ((Put.enc p1).map .t))], []⟩ ?_
  refine Wp.ret ?_
  refine thenR ?_
  obtain rfl := oi h
  exact RetK [.b false] _ [] kr kr (.refl _) .nil
 refine Wp.sk ?_
 refine Wp.seq ?_
 refine Wp.sb 4 ?_
 obtain ⟨r1, e_r1, h⟩ := bind_some h
 refine Runs.ck 19 [.s p0.fB, .s p1.fB] (laws_eqByteS_ok u p0.fB p1.fB r1 e_r1) ?_
 refine Runs.allf ⟨[(2, .obj 2 0), (3, .obj 3 0), (4, .b false), (20, .b (!r1))], [(2, ((Put.enc p0).map .t)), (3, ((Put.enc p1).map .t))], []⟩ ?_
 refine Wp.c2 h (fun h => ?_) (fun h => ?_)
 ·refine Wp.sag ⟨[(2, .obj 2 0), (3, .obj 3 0), (4, .b false)], [(2, ((Put.enc p0).map .t)), (3, ((Put.enc p1).map .t))], []⟩ ?_
  refine Wp.ret ?_
  refine thenR ?_
  obtain rfl := oi h
  exact RetK [.b false] _ [] kr kr (.refl _) .nil
 refine Wp.sk ?_
 refine Wp.seq ?_
 refine Wp.sb 4 ?_
 obtain ⟨r2, e_r2, h⟩ := bind_some h
 refine Runs.ck 25 [.agg ((Record.enc p0.fR).map .t), .agg ((Record.enc p1.fR).map .t)] (laws_eqRecord_ok u p0.fR p1.fR r2 e_r2) ?_
 refine Runs.allf ⟨[(4, .b false), (26, .b (!r2))], [], []⟩ ?_
 refine Wp.c2 h (fun h => ?_) (fun h => ?_)
 ·refine Wp.sag ⟨[(4, .b false)], [], []⟩ ?_
  refine Wp.ret ?_
  refine thenR ?_
  obtain rfl := oi h
  exact RetK [.b false] _ [] kr kr (.refl _) .nil
 refine Wp.sk ?_
 refine Wp.sag ⟨[(4, .b true)], [], []⟩ ?_
 refine Wp.ret ?_
 obtain rfl := oi h
 exact RetK [.b true] _ [] kr kr (.refl _) .nil
theorem laws_eqPutS_ok (u : Nat) (p0 : List Put) (p1 : List Put) (r : Bool) (h : laws_eqPutS u p0 p1 = some r) : CallOK Tryz.prog 123 [.one (.t (.sl 6 (p0.map Put.enc))), .one (.t (.sl 6 (p1.map Put.enc)))] (.one (.b r)) [] := by
 unfold laws_eqPutS at h
 refine CallOK.of_bodyK (fn := Tryz.f123) (m := false) [.t (.sl 6 (p0.map Put.enc)), .t (.sl 6 (p1.map Put.enc))] kr rfl kr kr kr kr kr ?_
 refine Wp.sag ⟨[(0, .t (.sl 6 (p0.map Put.enc))), (1, .t (.sl 6 (p1.map Put.enc))), (4, .b false)], [], []⟩ ?_
 refine Wp.seq ?_
 refine Wp.sb 1 ?_
 refine Runs.lenT (y := .t (.sl 6 (p0.map Put.enc))) (e := 204) Put.enc p0 6 rfl rfl rfl kr kr kr kr kr ?_
 refine Runs.batch 1 kr ?_
 refine Runs.lenT (y := .t (.sl 6 (p1.map Put.enc))) (e := 204) Put.enc p1 6 rfl rfl rfl kr kr kr kr kr ?_
 refine Runs.allf ⟨[(0, .t (.sl 6 (p0.map Put.enc))), (1, .t (.sl 6 (p1.map Put.enc))), (4, .b false), (10, .b (((p0.length : Int)) != ((p1.length : Int))))], [], []⟩ ?_
 refine Wp.c2 h (fun h => ?_) (fun h => ?_)
 ·refine Wp.sag ⟨[(0, .t (.sl 6 (p0.map Put.enc))), (1, .t (.sl 6 (p1.map Put.enc))), (4, .b false)], [], []⟩ ?_
  refine Wp.ret ?_
  refine thenR ?_
  obtain rfl := oi h
  exact RetK [.b false] _ [] kr kr (.refl _) .nil
 refine Wp.sk ?_
 refine Wp.seqJ (α := Unit) (fun a => ⟨[(4, .b false)], [], []⟩) (fun a => laws_eqPutS_j1 u = some r) ?_ ?_
 ·rintro ⟨⟩ h
  change laws_eqPutS_j1 u = some r at h
  unfold laws_eqPutS_j1 at h
  refine Wp.sag ⟨[(4, .b true)], [], []⟩ ?_
  refine Wp.ret ?_
  obtain rfl := oi h
  exact RetK [.b true] _ [] kr kr (.refl _) .nil
 ·refine Wp.sag ⟨[(0, .t (.sl 6 (p0.map Put.enc))), (1, .t (.sl 6 (p1.map Put.enc))), (4, .b false), (5, .i 0)], [], []⟩ ?_
  refine Wp.block ?_
  refine Wp.loopF (α := (List Put) × (List Put) × Int) (fun a => ⟨[(0, .t (.sl 6 (a.1.map Put.enc))), (1, .t (.sl 6 (a.2.1.map Put.enc))), (4, .b false), (5, .i a.2.2)], [], []⟩) (fun k_laws_eqPutS_l2 a => laws_eqPutS_l2 u k_laws_eqPutS_l2 a.1 a.2.1 a.2.2 = some r) ?_ ?_ u (p0, p1, 0) h (Le.of (mo := []) (mr := []) kr kr kr kr)
  ·intro a h; unfold laws_eqPutS_l2 at h; cases h
  ·rintro k_laws_eqPutS_l2 ⟨p0, p1, x2⟩ h
   change laws_eqPutS_l2 u (k_laws_eqPutS_l2 + 1) p0 p1 x2 = some r at h
   rw [laws_eqPutS_l2] at h
   refine Wp.seq ?_
   refine Wp.sb 2 ?_
   refine Runs.lenT (y := .t (.sl 6 (p0.map Put.enc))) (e := 204) Put.enc p0 6 rfl rfl rfl kr kr kr kr kr ?_
   refine Runs.allf ⟨[(0, .t (.sl 6 (p0.map Put.enc))), (1, .t (.sl 6 (p1.map Put.enc))), (4, .b false), (5, .i x2), (14, .b (decide (x2 < ((p0.length : Int)))))], [], []⟩ ?_
   refine Wp.c2 h (fun h => ?_) (fun h => ?_)
   ·refine Wp.sk ?_
    refine Wp.seq ?_
    refine Wp.block ?_
    refine Wp.seq ?_
    refine Wp.regionA (pOf []) (rhoOf [(0, .frz), (1, .frz), (5, .frz), (17, .frz), (18, .frz), (19, .frz), (20, .frz), (21, .frz), (22, .frz), (23, .frz), (24, .frz), (25, .frz)]) kr kr ?_
    refine Runs.batch 2 kr ?_
    obtain ⟨y4, e_y4, h⟩ := bind_some h
    refine Runs.idxT (e := 204) (kk := .i64) (sz := 6) Put.enc p0 x2 rfl kr kr kr kr kr kr e_y4 ?_
    refine Runs.batch 3 kr ?_
    obtain ⟨y5, e_y5, h⟩ := bind_some h
    refine Runs.idxT (e := 204) (kk := .i64) (sz := 6) Put.enc p1 x2 rfl kr kr kr kr kr kr e_y5 ?_
    refine Runs.batch 1 kr ?_
    obtain ⟨r6, e_r6, h⟩ := bind_some h
    refine Runs.ck 25 [.agg ((Put.enc y4).map .t), .agg ((Put.enc y5).map .t)] (laws_eqPut_ok u y4 y5 r6 e_r6) ?_
    refine Runs.allf ⟨[(0, .t (.sl 6 (p0.map Put.enc))), (1, .t (.sl 6 (p1.map Put.enc))), (4, .b false), (5, .i x2), (26, .b (!r6))], [], []⟩ ?_
    refine Wp.c2 h (fun h => ?_) (fun h => ?_)
    ·refine Wp.sag ⟨[(0, .t (.sl 6 (p0.map Put.enc))), (1, .t (.sl 6 (p1.map Put.enc))), (4, .b false), (5, .i x2)], [], []⟩ ?_
     refine Wp.ret ?_
     refine blkR ?_
     refine thenR ?_
     refine thenR ?_
     refine blkR ?_
     refine thenR ?_
     obtain rfl := oi h
     exact RetK [.b false] _ [] kr kr (.refl _) .nil
    refine Wp.skip ?_
    refine blkN ?_
    refine thenN ?_
    refine Wp.rg [] [] ?_
    refine Runs.alln ?_
    exact ⟨(p0, p1, bAdd .i64 x2 1), h, Le.of (mo := []) (mr := []) kr kr kr kr⟩
   refine Wp.exit ?_
   refine thenE ?_
   refine thenE ?_
   refine blkE ?_
   refine thenN ?_
   exact ⟨(), h, Le.of (mo := []) (mr := []) kr kr kr kr⟩
theorem laws_eqDisk_ok (u : Nat) (p0 : Disk) (p1 : Disk) (r : Bool) (h : laws_eqDisk u p0 p1 = some r) : CallOK Tryz.prog 80 [.agg [.s p0.fA, .s p0.fB, .i p0.fR.fGen, .i p0.fR.fSlot, .i p0.fR.fLen, .t (.sl 6 (p0.fP.map Put.enc))], .agg [.s p1.fA, .s p1.fB, .i p1.fR.fGen, .i p1.fR.fSlot, .i p1.fR.fLen, .t (.sl 6 (p1.fP.map Put.enc))]] (.one (.b r)) [] := by
 unfold laws_eqDisk at h
 refine CallOK.of_bodyK (fn := Tryz.f80) (m := false) [.agg ((Disk.enc p0).map .t), .agg ((Disk.enc p1).map .t)] kr rfl kr kr kr kr kr ?_
 refine Wp.sag ⟨[(2, .obj 2 0), (3, .obj 3 0), (4, .b false)], [(2, ((Disk.enc p0).map .t)), (3, ((Disk.enc p1).map .t))], []⟩ ?_
 refine Wp.seq ?_
 refine Wp.sb 4 ?_
 obtain ⟨r1, e_r1, h⟩ := bind_some h
 refine Runs.ck 9 [.s p0.fA, .s p1.fA] (laws_eqByteS_ok u p0.fA p1.fA r1 e_r1) ?_
 refine Runs.allf ⟨[(2, .obj 2 0), (3, .obj 3 0), (4, .b false), (10, .b (!r1))], [(2, ((Disk.enc p0).map .t)), (3, ((Disk.enc p1).map .t))], []⟩ ?_
 refine Wp.c2 h (fun h => ?_) (fun h => ?_)
 ·refine Wp.sag ⟨[(2, .obj 2 0), (3, .obj 3 0), (4, .b false)], [(2, ((Disk.enc p0).map .t)), (3, ((Disk.enc p1).map .t))], []⟩ ?_
  refine Wp.ret ?_
  refine thenR ?_
  obtain rfl := oi h
  exact RetK [.b false] _ [] kr kr (.refl _) .nil
 refine Wp.sk ?_
 refine Wp.seq ?_
 refine Wp.sb 4 ?_
 obtain ⟨r2, e_r2, h⟩ := bind_some h
 refine Runs.ck 15 [.s p0.fB, .s p1.fB] (laws_eqByteS_ok u p0.fB p1.fB r2 e_r2) ?_
 refine Runs.allf ⟨[(2, .obj 2 0), (3, .obj 3 0), (4, .b false), (16, .b (!r2))], [(2, ((Disk.enc p0).map .t)), (3, ((Disk.enc p1).map .t))], []⟩ ?_
 refine Wp.c2 h (fun h => ?_) (fun h => ?_)
 ·refine Wp.sag ⟨[(2, .obj 2 0), (3, .obj 3 0), (4, .b false)], [(2, ((Disk.enc p0).map .t)), (3, ((Disk.enc p1).map .t))], []⟩ ?_
  refine Wp.ret ?_
  refine thenR ?_
  obtain rfl := oi h
  exact RetK [.b false] _ [] kr kr (.refl _) .nil
 refine Wp.sk ?_
 refine Wp.seq ?_
 refine Wp.sb 4 ?_
 obtain ⟨r3, e_r3, h⟩ := bind_some h
 refine Runs.ck 21 [.agg ((Record.enc p0.fR).map .t), .agg ((Record.enc p1.fR).map .t)] (laws_eqRecord_ok u p0.fR p1.fR r3 e_r3) ?_
 refine Runs.allf ⟨[(2, .obj 2 0), (3, .obj 3 0), (4, .b false), (22, .b (!r3))], [(2, ((Disk.enc p0).map .t)), (3, ((Disk.enc p1).map .t))], []⟩ ?_
 refine Wp.c2 h (fun h => ?_) (fun h => ?_)
 ·refine Wp.sag ⟨[(2, .obj 2 0), (3, .obj 3 0), (4, .b false)], [(2, ((Disk.enc p0).map .t)), (3, ((Disk.enc p1).map .t))], []⟩ ?_
  refine Wp.ret ?_
  refine thenR ?_
  obtain rfl := oi h
  exact RetK [.b false] _ [] kr kr (.refl _) .nil
 refine Wp.sk ?_
 refine Wp.seq ?_
 refine Wp.sb 4 ?_
 obtain ⟨r4, e_r4, h⟩ := bind_some h
 refine Runs.ck 27 [.t (.sl 6 (p0.fP.map Put.enc)), .t (.sl 6 (p1.fP.map Put.enc))] (laws_eqPutS_ok u p0.fP p1.fP r4 e_r4) ?_
 refine Runs.allf ⟨[(4, .b false), (28, .b (!r4))], [], []⟩ ?_
 refine Wp.c2 h (fun h => ?_) (fun h => ?_)
 ·refine Wp.sag ⟨[(4, .b false)], [], []⟩ ?_
  refine Wp.ret ?_
  refine thenR ?_
  obtain rfl := oi h
  exact RetK [.b false] _ [] kr kr (.refl _) .nil
 refine Wp.sk ?_
 refine Wp.sag ⟨[(4, .b true)], [], []⟩ ?_
 refine Wp.ret ?_
 obtain rfl := oi h
 exact RetK [.b true] _ [] kr kr (.refl _) .nil
theorem laws_eqDiskS_ok (u : Nat) (p0 : List Disk) (p1 : List Disk) (r : Bool) (h : laws_eqDiskS u p0 p1 = some r) : CallOK Tryz.prog 48 [.one (.t (.sl 6 (p0.map Disk.enc))), .one (.t (.sl 6 (p1.map Disk.enc)))] (.one (.b r)) [] := by
 unfold laws_eqDiskS at h
 refine CallOK.of_bodyK (fn := Tryz.f48) (m := false) [.t (.sl 6 (p0.map Disk.enc)), .t (.sl 6 (p1.map Disk.enc))] kr rfl kr kr kr kr kr ?_
 refine Wp.sag ⟨[(0, .t (.sl 6 (p0.map Disk.enc))), (1, .t (.sl 6 (p1.map Disk.enc))), (4, .b false)], [], []⟩ ?_
 refine Wp.seq ?_
 refine Wp.sb 1 ?_
 refine Runs.lenT (y := .t (.sl 6 (p0.map Disk.enc))) (e := 124) Disk.enc p0 6 rfl rfl rfl kr kr kr kr kr ?_
 refine Runs.batch 1 kr ?_
 refine Runs.lenT (y := .t (.sl 6 (p1.map Disk.enc))) (e := 124) Disk.enc p1 6 rfl rfl rfl kr kr kr kr kr ?_
 refine Runs.allf ⟨[(0, .t (.sl 6 (p0.map Disk.enc))), (1, .t (.sl 6 (p1.map Disk.enc))), (4, .b false), (10, .b (((p0.length : Int)) != ((p1.length : Int))))], [], []⟩ ?_
 refine Wp.c2 h (fun h => ?_) (fun h => ?_)
 ·refine Wp.sag ⟨[(0, .t (.sl 6 (p0.map Disk.enc))), (1, .t (.sl 6 (p1.map Disk.enc))), (4, .b false)], [], []⟩ ?_
  refine Wp.ret ?_
  refine thenR ?_
  obtain rfl := oi h
  exact RetK [.b false] _ [] kr kr (.refl _) .nil
 refine Wp.sk ?_
 refine Wp.seqJ (α := Unit) (fun a => ⟨[(4, .b false)], [], []⟩) (fun a => laws_eqDiskS_j1 u = some r) ?_ ?_
 ·rintro ⟨⟩ h
  change laws_eqDiskS_j1 u = some r at h
  unfold laws_eqDiskS_j1 at h
  refine Wp.sag ⟨[(4, .b true)], [], []⟩ ?_
  refine Wp.ret ?_
  obtain rfl := oi h
  exact RetK [.b true] _ [] kr kr (.refl _) .nil
 ·refine Wp.sag ⟨[(0, .t (.sl 6 (p0.map Disk.enc))), (1, .t (.sl 6 (p1.map Disk.enc))), (4, .b false), (5, .i 0)], [], []⟩ ?_
  refine Wp.block ?_
  refine Wp.loopF (α := (List Disk) × (List Disk) × Int) (fun a => ⟨[(0, .t (.sl 6 (a.1.map Disk.enc))), (1, .t (.sl 6 (a.2.1.map Disk.enc))), (4, .b false), (5, .i a.2.2)], [], []⟩) (fun k_laws_eqDiskS_l2 a => laws_eqDiskS_l2 u k_laws_eqDiskS_l2 a.1 a.2.1 a.2.2 = some r) ?_ ?_ u (p0, p1, 0) h (Le.of (mo := []) (mr := []) kr kr kr kr)
  ·intro a h; unfold laws_eqDiskS_l2 at h; cases h
  ·rintro k_laws_eqDiskS_l2 ⟨p0, p1, x2⟩ h
   change laws_eqDiskS_l2 u (k_laws_eqDiskS_l2 + 1) p0 p1 x2 = some r at h
   rw [laws_eqDiskS_l2] at h
   refine Wp.seq ?_
   refine Wp.sb 2 ?_
   refine Runs.lenT (y := .t (.sl 6 (p0.map Disk.enc))) (e := 124) Disk.enc p0 6 rfl rfl rfl kr kr kr kr kr ?_
   refine Runs.allf ⟨[(0, .t (.sl 6 (p0.map Disk.enc))), (1, .t (.sl 6 (p1.map Disk.enc))), (4, .b false), (5, .i x2), (14, .b (decide (x2 < ((p0.length : Int)))))], [], []⟩ ?_
   refine Wp.c2 h (fun h => ?_) (fun h => ?_)
   ·refine Wp.sk ?_
    refine Wp.seq ?_
    refine Wp.block ?_
    refine Wp.seq ?_
    refine Wp.regionA (pOf []) (rhoOf [(0, .frz), (1, .frz), (5, .frz), (17, .frz), (18, .frz), (19, .frz), (20, .frz), (21, .frz), (22, .frz), (23, .frz), (24, .frz), (25, .frz)]) kr kr ?_
    refine Runs.batch 2 kr ?_
    obtain ⟨y4, e_y4, h⟩ := bind_some h
    refine Runs.idxT (e := 124) (kk := .i64) (sz := 6) Disk.enc p0 x2 rfl kr kr kr kr kr kr e_y4 ?_
    refine Runs.batch 3 kr ?_
    obtain ⟨y5, e_y5, h⟩ := bind_some h
    refine Runs.idxT (e := 124) (kk := .i64) (sz := 6) Disk.enc p1 x2 rfl kr kr kr kr kr kr e_y5 ?_
    refine Runs.batch 1 kr ?_
    obtain ⟨r6, e_r6, h⟩ := bind_some h
    refine Runs.ck 25 [.agg ((Disk.enc y4).map .t), .agg ((Disk.enc y5).map .t)] (laws_eqDisk_ok u y4 y5 r6 e_r6) ?_
    refine Runs.allf ⟨[(0, .t (.sl 6 (p0.map Disk.enc))), (1, .t (.sl 6 (p1.map Disk.enc))), (4, .b false), (5, .i x2), (26, .b (!r6))], [], []⟩ ?_
    refine Wp.c2 h (fun h => ?_) (fun h => ?_)
    ·refine Wp.sag ⟨[(0, .t (.sl 6 (p0.map Disk.enc))), (1, .t (.sl 6 (p1.map Disk.enc))), (4, .b false), (5, .i x2)], [], []⟩ ?_
     refine Wp.ret ?_
     refine blkR ?_
     refine thenR ?_
     refine thenR ?_
     refine blkR ?_
     refine thenR ?_
     obtain rfl := oi h
     exact RetK [.b false] _ [] kr kr (.refl _) .nil
    refine Wp.skip ?_
    refine blkN ?_
    refine thenN ?_
    refine Wp.rg [] [] ?_
    refine Runs.alln ?_
    exact ⟨(p0, p1, bAdd .i64 x2 1), h, Le.of (mo := []) (mr := []) kr kr kr kr⟩
   refine Wp.exit ?_
   refine thenE ?_
   refine thenE ?_
   refine blkE ?_
   refine thenN ?_
   exact ⟨(), h, Le.of (mo := []) (mr := []) kr kr kr kr⟩
theorem laws_eqPacket_ok (u : Nat) (p0 : Packet) (p1 : Packet) (r : Bool) (h : laws_eqPacket u p0 p1 = some r) : CallOK Tryz.prog 81 [.agg [.i p0.fFrom, .i p0.fTo, .s p0.fB], .agg [.i p1.fFrom, .i p1.fTo, .s p1.fB]] (.one (.b r)) [] := by
 unfold laws_eqPacket at h
 refine CallOK.of_bodyK (fn := Tryz.f81) (m := false) [.agg ((Packet.enc p0).map .t), .agg ((Packet.enc p1).map .t)] kr rfl kr kr kr kr kr ?_
 refine Wp.sag ⟨[(2, .obj 2 0), (3, .obj 3 0), (4, .b false)], [(2, ((Packet.enc p0).map .t)), (3, ((Packet.enc p1).map .t))], []⟩ ?_
 refine Wp.seq ?_
 refine Wp.sag ⟨[(2, .obj 2 0), (3, .obj 3 0), (4, .b false), (9, .b (p0.fFrom != p1.fFrom))], [(2, ((Packet.enc p0).map .t)), (3, ((Packet.enc p1).map .t))], []⟩ ?_
 refine Wp.c2 h (fun h => ?_) (fun h => ?_)
 ·refine Wp.sag ⟨[(2, .obj 2 0), (3, .obj 3 0), (4, .b false)], [(2, ((Packet.enc p0).map .t)), (3, ((Packet.enc p1).map .t))], []⟩ ?_
  refine Wp.ret ?_
  refine thenR ?_
  obtain rfl := oi h
  exact RetK [.b false] _ [] kr kr (.refl _) .nil
 refine Wp.sk ?_
 refine Wp.seq ?_
 refine Wp.sag ⟨[(2, .obj 2 0), (3, .obj 3 0), (4, .b false), (14, .b (p0.fTo != p1.fTo))], [(2, ((Packet.enc p0).map .t)), (3, ((Packet.enc p1).map .t))], []⟩ ?_
 refine Wp.c2 h (fun h => ?_) (fun h => ?_)
 ·refine Wp.sag ⟨[(2, .obj 2 0), (3, .obj 3 0), (4, .b false)], [(2, ((Packet.enc p0).map .t)), (3, ((Packet.enc p1).map .t))], []⟩ ?_
  refine Wp.ret ?_
  refine thenR ?_
  obtain rfl := oi h
  exact RetK [.b false] _ [] kr kr (.refl _) .nil
 refine Wp.sk ?_
 refine Wp.seq ?_
 refine Wp.sb 4 ?_
 obtain ⟨r1, e_r1, h⟩ := bind_some h
 refine Runs.ck 19 [.s p0.fB, .s p1.fB] (laws_eqByteS_ok u p0.fB p1.fB r1 e_r1) ?_
 refine Runs.allf ⟨[(4, .b false), (20, .b (!r1))], [], []⟩ ?_
 refine Wp.c2 h (fun h => ?_) (fun h => ?_)
 ·refine Wp.sag ⟨[(4, .b false)], [], []⟩ ?_
  refine Wp.ret ?_
  refine thenR ?_
  obtain rfl := oi h
  exact RetK [.b false] _ [] kr kr (.refl _) .nil
 refine Wp.sk ?_
 refine Wp.sag ⟨[(4, .b true)], [], []⟩ ?_
 refine Wp.ret ?_
 obtain rfl := oi h
 exact RetK [.b true] _ [] kr kr (.refl _) .nil
theorem laws_eqPacketS_ok (u : Nat) (p0 : List Packet) (p1 : List Packet) (r : Bool) (h : laws_eqPacketS u p0 p1 = some r) : CallOK Tryz.prog 49 [.one (.t (.sl 3 (p0.map Packet.enc))), .one (.t (.sl 3 (p1.map Packet.enc)))] (.one (.b r)) [] := by
 unfold laws_eqPacketS at h
 refine CallOK.of_bodyK (fn := Tryz.f49) (m := false) [.t (.sl 3 (p0.map Packet.enc)), .t (.sl 3 (p1.map Packet.enc))] kr rfl kr kr kr kr kr ?_
 refine Wp.sag ⟨[(0, .t (.sl 3 (p0.map Packet.enc))), (1, .t (.sl 3 (p1.map Packet.enc))), (4, .b false)], [], []⟩ ?_
 refine Wp.seq ?_
 refine Wp.sb 1 ?_
 refine Runs.lenT (y := .t (.sl 3 (p0.map Packet.enc))) (e := 97) Packet.enc p0 3 rfl rfl rfl kr kr kr kr kr ?_
 refine Runs.batch 1 kr ?_
 refine Runs.lenT (y := .t (.sl 3 (p1.map Packet.enc))) (e := 97) Packet.enc p1 3 rfl rfl rfl kr kr kr kr kr ?_
 refine Runs.allf ⟨[(0, .t (.sl 3 (p0.map Packet.enc))), (1, .t (.sl 3 (p1.map Packet.enc))), (4, .b false), (10, .b (((p0.length : Int)) != ((p1.length : Int))))], [], []⟩ ?_
 refine Wp.c2 h (fun h => ?_) (fun h => ?_)
 ·refine Wp.sag ⟨[(0, .t (.sl 3 (p0.map Packet.enc))), (1, .t (.sl 3 (p1.map Packet.enc))), (4, .b false)], [], []⟩ ?_
  refine Wp.ret ?_
  refine thenR ?_
  obtain rfl := oi h
  exact RetK [.b false] _ [] kr kr (.refl _) .nil
 refine Wp.sk ?_
 refine Wp.seqJ (α := Unit) (fun a => ⟨[(4, .b false)], [], []⟩) (fun a => laws_eqPacketS_j1 u = some r) ?_ ?_
 ·rintro ⟨⟩ h
  change laws_eqPacketS_j1 u = some r at h
  unfold laws_eqPacketS_j1 at h
  refine Wp.sag ⟨[(4, .b true)], [], []⟩ ?_
  refine Wp.ret ?_
  obtain rfl := oi h
  exact RetK [.b true] _ [] kr kr (.refl _) .nil
 ·refine Wp.sag ⟨[(0, .t (.sl 3 (p0.map Packet.enc))), (1, .t (.sl 3 (p1.map Packet.enc))), (4, .b false), (5, .i 0)], [], []⟩ ?_
  refine Wp.block ?_
  refine Wp.loopF (α := (List Packet) × (List Packet) × Int) (fun a => ⟨[(0, .t (.sl 3 (a.1.map Packet.enc))), (1, .t (.sl 3 (a.2.1.map Packet.enc))), (4, .b false), (5, .i a.2.2)], [], []⟩) (fun k_laws_eqPacketS_l2 a => laws_eqPacketS_l2 u k_laws_eqPacketS_l2 a.1 a.2.1 a.2.2 = some r) ?_ ?_ u (p0, p1, 0) h (Le.of (mo := []) (mr := []) kr kr kr kr)
  ·intro a h; unfold laws_eqPacketS_l2 at h; cases h
  ·rintro k_laws_eqPacketS_l2 ⟨p0, p1, x2⟩ h
   change laws_eqPacketS_l2 u (k_laws_eqPacketS_l2 + 1) p0 p1 x2 = some r at h
   rw [laws_eqPacketS_l2] at h
   refine Wp.seq ?_
   refine Wp.sb 2 ?_
   refine Runs.lenT (y := .t (.sl 3 (p0.map Packet.enc))) (e := 97) Packet.enc p0 3 rfl rfl rfl kr kr kr kr kr ?_
   refine Runs.allf ⟨[(0, .t (.sl 3 (p0.map Packet.enc))), (1, .t (.sl 3 (p1.map Packet.enc))), (4, .b false), (5, .i x2), (14, .b (decide (x2 < ((p0.length : Int)))))], [], []⟩ ?_
   refine Wp.c2 h (fun h => ?_) (fun h => ?_)
   ·refine Wp.sk ?_
    refine Wp.seq ?_
    refine Wp.block ?_
    refine Wp.seq ?_
    refine Wp.regionA (pOf []) (rhoOf [(0, .frz), (1, .frz), (5, .frz), (17, .frz), (18, .frz), (19, .frz), (20, .frz), (21, .frz), (22, .frz), (23, .frz), (24, .frz), (25, .frz)]) kr kr ?_
    refine Runs.batch 2 kr ?_
    obtain ⟨y4, e_y4, h⟩ := bind_some h
    refine Runs.idxT (e := 97) (kk := .i64) (sz := 3) Packet.enc p0 x2 rfl kr kr kr kr kr kr e_y4 ?_
    refine Runs.batch 3 kr ?_
    obtain ⟨y5, e_y5, h⟩ := bind_some h
    refine Runs.idxT (e := 97) (kk := .i64) (sz := 3) Packet.enc p1 x2 rfl kr kr kr kr kr kr e_y5 ?_
    refine Runs.batch 1 kr ?_
    obtain ⟨r6, e_r6, h⟩ := bind_some h
    refine Runs.ck 25 [.agg ((Packet.enc y4).map .t), .agg ((Packet.enc y5).map .t)] (laws_eqPacket_ok u y4 y5 r6 e_r6) ?_
    refine Runs.allf ⟨[(0, .t (.sl 3 (p0.map Packet.enc))), (1, .t (.sl 3 (p1.map Packet.enc))), (4, .b false), (5, .i x2), (26, .b (!r6))], [], []⟩ ?_
    refine Wp.c2 h (fun h => ?_) (fun h => ?_)
    ·refine Wp.sag ⟨[(0, .t (.sl 3 (p0.map Packet.enc))), (1, .t (.sl 3 (p1.map Packet.enc))), (4, .b false), (5, .i x2)], [], []⟩ ?_
     refine Wp.ret ?_
     refine blkR ?_
     refine thenR ?_
     refine thenR ?_
     refine blkR ?_
     refine thenR ?_
     obtain rfl := oi h
     exact RetK [.b false] _ [] kr kr (.refl _) .nil
    refine Wp.skip ?_
    refine blkN ?_
    refine thenN ?_
    refine Wp.rg [] [] ?_
    refine Runs.alln ?_
    exact ⟨(p0, p1, bAdd .i64 x2 1), h, Le.of (mo := []) (mr := []) kr kr kr kr⟩
   refine Wp.exit ?_
   refine thenE ?_
   refine thenE ?_
   refine blkE ?_
   refine thenN ?_
   exact ⟨(), h, Le.of (mo := []) (mr := []) kr kr kr kr⟩
theorem laws_eqSent_ok (u : Nat) (p0 : Sent) (p1 : Sent) (r : Bool) (h : laws_eqSent u p0 p1 = some r) : CallOK Tryz.prog 82 [.agg [.i p0.fFrom, .i p0.fTo, .i p0.fI], .agg [.i p1.fFrom, .i p1.fTo, .i p1.fI]] (.one (.b r)) [] := by
 unfold laws_eqSent at h
 refine CallOK.of_bodyK (fn := Tryz.f82) (m := false) [.agg ((Sent.enc p0).map .t), .agg ((Sent.enc p1).map .t)] kr rfl kr kr kr kr kr ?_
 refine Wp.sag ⟨[(2, .obj 2 0), (3, .obj 3 0), (4, .b false)], [(2, ((Sent.enc p0).map .t)), (3, ((Sent.enc p1).map .t))], []⟩ ?_
 refine Wp.seq ?_
 refine Wp.sag ⟨[(2, .obj 2 0), (3, .obj 3 0), (4, .b false), (9, .b (p0.fFrom != p1.fFrom))], [(2, ((Sent.enc p0).map .t)), (3, ((Sent.enc p1).map .t))], []⟩ ?_
 refine Wp.c2 h (fun h => ?_) (fun h => ?_)
 ·refine Wp.sag ⟨[(2, .obj 2 0), (3, .obj 3 0), (4, .b false)], [(2, ((Sent.enc p0).map .t)), (3, ((Sent.enc p1).map .t))], []⟩ ?_
  refine Wp.ret ?_
  refine thenR ?_
  obtain rfl := oi h
  exact RetK [.b false] _ [] kr kr (.refl _) .nil
 refine Wp.sk ?_
 refine Wp.seq ?_
 refine Wp.sag ⟨[(2, .obj 2 0), (3, .obj 3 0), (4, .b false), (14, .b (p0.fTo != p1.fTo))], [(2, ((Sent.enc p0).map .t)), (3, ((Sent.enc p1).map .t))], []⟩ ?_
 refine Wp.c2 h (fun h => ?_) (fun h => ?_)
 ·refine Wp.sag ⟨[(2, .obj 2 0), (3, .obj 3 0), (4, .b false)], [(2, ((Sent.enc p0).map .t)), (3, ((Sent.enc p1).map .t))], []⟩ ?_
  refine Wp.ret ?_
  refine thenR ?_
  obtain rfl := oi h
  exact RetK [.b false] _ [] kr kr (.refl _) .nil
 refine Wp.sk ?_
 refine Wp.seq ?_
 refine Wp.sag ⟨[(4, .b false), (19, .b (p0.fI != p1.fI))], [], []⟩ ?_
 refine Wp.c2 h (fun h => ?_) (fun h => ?_)
 ·refine Wp.sag ⟨[(4, .b false)], [], []⟩ ?_
  refine Wp.ret ?_
  refine thenR ?_
  obtain rfl := oi h
  exact RetK [.b false] _ [] kr kr (.refl _) .nil
 refine Wp.sk ?_
 refine Wp.sag ⟨[(4, .b true)], [], []⟩ ?_
 refine Wp.ret ?_
 obtain rfl := oi h
 exact RetK [.b true] _ [] kr kr (.refl _) .nil
theorem laws_eqSentS_ok (u : Nat) (p0 : List Sent) (p1 : List Sent) (r : Bool) (h : laws_eqSentS u p0 p1 = some r) : CallOK Tryz.prog 50 [.one (.t (.sl 3 (p0.map Sent.enc))), .one (.t (.sl 3 (p1.map Sent.enc)))] (.one (.b r)) [] := by
 unfold laws_eqSentS at h
 refine CallOK.of_bodyK (fn := Tryz.f50) (m := false) [.t (.sl 3 (p0.map Sent.enc)), .t (.sl 3 (p1.map Sent.enc))] kr rfl kr kr kr kr kr ?_
 refine Wp.sag ⟨[(0, .t (.sl 3 (p0.map Sent.enc))), (1, .t (.sl 3 (p1.map Sent.enc))), (4, .b false)], [], []⟩ ?_
 refine Wp.seq ?_
 refine Wp.sb 1 ?_
 refine Runs.lenT (y := .t (.sl 3 (p0.map Sent.enc))) (e := 128) Sent.enc p0 3 rfl rfl rfl kr kr kr kr kr ?_
 refine Runs.batch 1 kr ?_
 refine Runs.lenT (y := .t (.sl 3 (p1.map Sent.enc))) (e := 128) Sent.enc p1 3 rfl rfl rfl kr kr kr kr kr ?_
 refine Runs.allf ⟨[(0, .t (.sl 3 (p0.map Sent.enc))), (1, .t (.sl 3 (p1.map Sent.enc))), (4, .b false), (10, .b (((p0.length : Int)) != ((p1.length : Int))))], [], []⟩ ?_
 refine Wp.c2 h (fun h => ?_) (fun h => ?_)
 ·refine Wp.sag ⟨[(0, .t (.sl 3 (p0.map Sent.enc))), (1, .t (.sl 3 (p1.map Sent.enc))), (4, .b false)], [], []⟩ ?_
  refine Wp.ret ?_
  refine thenR ?_
  obtain rfl := oi h
  exact RetK [.b false] _ [] kr kr (.refl _) .nil
 refine Wp.sk ?_
 refine Wp.seqJ (α := Unit) (fun a => ⟨[(4, .b false)], [], []⟩) (fun a => laws_eqSentS_j1 u = some r) ?_ ?_
 ·rintro ⟨⟩ h
  change laws_eqSentS_j1 u = some r at h
  unfold laws_eqSentS_j1 at h
  refine Wp.sag ⟨[(4, .b true)], [], []⟩ ?_
  refine Wp.ret ?_
  obtain rfl := oi h
  exact RetK [.b true] _ [] kr kr (.refl _) .nil
 ·refine Wp.sag ⟨[(0, .t (.sl 3 (p0.map Sent.enc))), (1, .t (.sl 3 (p1.map Sent.enc))), (4, .b false), (5, .i 0)], [], []⟩ ?_
  refine Wp.block ?_
  refine Wp.loopF (α := (List Sent) × (List Sent) × Int) (fun a => ⟨[(0, .t (.sl 3 (a.1.map Sent.enc))), (1, .t (.sl 3 (a.2.1.map Sent.enc))), (4, .b false), (5, .i a.2.2)], [], []⟩) (fun k_laws_eqSentS_l2 a => laws_eqSentS_l2 u k_laws_eqSentS_l2 a.1 a.2.1 a.2.2 = some r) ?_ ?_ u (p0, p1, 0) h (Le.of (mo := []) (mr := []) kr kr kr kr)
  ·intro a h; unfold laws_eqSentS_l2 at h; cases h
  ·rintro k_laws_eqSentS_l2 ⟨p0, p1, x2⟩ h
   change laws_eqSentS_l2 u (k_laws_eqSentS_l2 + 1) p0 p1 x2 = some r at h
   rw [laws_eqSentS_l2] at h
   refine Wp.seq ?_
   refine Wp.sb 2 ?_
   refine Runs.lenT (y := .t (.sl 3 (p0.map Sent.enc))) (e := 128) Sent.enc p0 3 rfl rfl rfl kr kr kr kr kr ?_
   refine Runs.allf ⟨[(0, .t (.sl 3 (p0.map Sent.enc))), (1, .t (.sl 3 (p1.map Sent.enc))), (4, .b false), (5, .i x2), (14, .b (decide (x2 < ((p0.length : Int)))))], [], []⟩ ?_
   refine Wp.c2 h (fun h => ?_) (fun h => ?_)
   ·refine Wp.sk ?_
    refine Wp.seq ?_
    refine Wp.block ?_
    refine Wp.seq ?_
    refine Wp.regionA (pOf []) (rhoOf [(0, .frz), (1, .frz), (5, .frz), (17, .frz), (18, .frz), (19, .frz), (20, .frz), (21, .frz), (22, .frz), (23, .frz), (24, .frz), (25, .frz)]) kr kr ?_
    refine Runs.batch 2 kr ?_
    obtain ⟨y4, e_y4, h⟩ := bind_some h
    refine Runs.idxT (e := 128) (kk := .i64) (sz := 3) Sent.enc p0 x2 rfl kr kr kr kr kr kr e_y4 ?_
    refine Runs.batch 3 kr ?_
    obtain ⟨y5, e_y5, h⟩ := bind_some h
    refine Runs.idxT (e := 128) (kk := .i64) (sz := 3) Sent.enc p1 x2 rfl kr kr kr kr kr kr e_y5 ?_
    refine Runs.batch 1 kr ?_
    obtain ⟨r6, e_r6, h⟩ := bind_some h
    refine Runs.ck 25 [.agg ((Sent.enc y4).map .t), .agg ((Sent.enc y5).map .t)] (laws_eqSent_ok u y4 y5 r6 e_r6) ?_
    refine Runs.allf ⟨[(0, .t (.sl 3 (p0.map Sent.enc))), (1, .t (.sl 3 (p1.map Sent.enc))), (4, .b false), (5, .i x2), (26, .b (!r6))], [], []⟩ ?_
    refine Wp.c2 h (fun h => ?_) (fun h => ?_)
    ·refine Wp.sag ⟨[(0, .t (.sl 3 (p0.map Sent.enc))), (1, .t (.sl 3 (p1.map Sent.enc))), (4, .b false), (5, .i x2)], [], []⟩ ?_
     refine Wp.ret ?_
     refine blkR ?_
     refine thenR ?_
     refine thenR ?_
     refine blkR ?_
     refine thenR ?_
     obtain rfl := oi h
     exact RetK [.b false] _ [] kr kr (.refl _) .nil
    refine Wp.skip ?_
    refine blkN ?_
    refine thenN ?_
    refine Wp.rg [] [] ?_
    refine Runs.alln ?_
    exact ⟨(p0, p1, bAdd .i64 x2 1), h, Le.of (mo := []) (mr := []) kr kr kr kr⟩
   refine Wp.exit ?_
   refine thenE ?_
   refine thenE ?_
   refine blkE ?_
   refine thenN ?_
   exact ⟨(), h, Le.of (mo := []) (mr := []) kr kr kr kr⟩
theorem laws_eqWorld_ok (u : Nat) (p0 : World) (p1 : World) (r : Bool) (h : laws_eqWorld u p0 p1 = some r) : CallOK Tryz.prog 18 [.agg [.i p0.fC.fSize, .i p0.fC.fWindow, .i p0.fC.fSuspect, .i p0.fC.fForget, .t (.sl 1 (p0.fT.fUp.map (eInt .i64))), .s p0.fNew, .t (.sl 1 (p0.fOld.map Image.enc)), .t (.sl 12 (p0.fN.map Node.enc)), .t (.sl 6 (p0.fD.map Disk.enc)), .t (.sl 3 (p0.fNet.map Packet.enc)), .t (.sl 3 (p0.fLog.map Sent.enc)), .i p0.fLost], .agg [.i p1.fC.fSize, .i p1.fC.fWindow, .i p1.fC.fSuspect, .i p1.fC.fForget, .t (.sl 1 (p1.fT.fUp.map (eInt .i64))), .s p1.fNew, .t (.sl 1 (p1.fOld.map Image.enc)), .t (.sl 12 (p1.fN.map Node.enc)), .t (.sl 6 (p1.fD.map Disk.enc)), .t (.sl 3 (p1.fNet.map Packet.enc)), .t (.sl 3 (p1.fLog.map Sent.enc)), .i p1.fLost]] (.one (.b r)) [] := by
 unfold laws_eqWorld at h
 refine CallOK.of_bodyK (fn := Tryz.f18) (m := false) [.agg ((World.enc p0).map .t), .agg ((World.enc p1).map .t)] kr rfl kr kr kr kr kr ?_
 refine Wp.sag ⟨[(2, .obj 2 0), (3, .obj 3 0), (4, .b false)], [(2, ((World.enc p0).map .t)), (3, ((World.enc p1).map .t))], []⟩ ?_
 refine Wp.seq ?_
 refine Wp.sb 4 ?_
 obtain ⟨r1, e_r1, h⟩ := bind_some h
 refine Runs.ck 9 [.agg ((Conf.enc p0.fC).map .t), .agg ((Conf.enc p1.fC).map .t)] (laws_eqConf_ok u p0.fC p1.fC r1 e_r1) ?_
 refine Runs.allf ⟨[(2, .obj 2 0), (3, .obj 3 0), (4, .b false), (10, .b (!r1))], [(2, ((World.enc p0).map .t)), (3, ((World.enc p1).map .t))], []⟩ ?_
 refine Wp.c2 h (fun h => ?_) (fun h => ?_)
 ·refine Wp.sag ⟨[(2, .obj 2 0), (3, .obj 3 0), (4, .b false)], [(2, ((World.enc p0).map .t)), (3, ((World.enc p1).map .t))], []⟩ ?_
  refine Wp.ret ?_
  refine thenR ?_
  obtain rfl := oi h
  exact RetK [.b false] _ [] kr kr (.refl _) .nil
 refine Wp.sk ?_
 refine Wp.seq ?_
 refine Wp.sb 4 ?_
 obtain ⟨r2, e_r2, h⟩ := bind_some h
 refine Runs.ck 15 [.agg [.t (.sl 1 (p0.fT.fUp.map (eInt .i64)))], .agg [.t (.sl 1 (p1.fT.fUp.map (eInt .i64)))]] (laws_eqTree_ok u p0.fT p1.fT r2 e_r2) ?_
 refine Runs.allf ⟨[(2, .obj 2 0), (3, .obj 3 0), (4, .b false), (16, .b (!r2))], [(2, ((World.enc p0).map .t)), (3, ((World.enc p1).map .t))], []⟩ ?_
 refine Wp.c2 h (fun h => ?_) (fun h => ?_)
 ·refine Wp.sag ⟨[(2, .obj 2 0), (3, .obj 3 0), (4, .b false)], [(2, ((World.enc p0).map .t)), (3, ((World.enc p1).map .t))], []⟩ ?_
  refine Wp.ret ?_
  refine thenR ?_
  obtain rfl := oi h
  exact RetK [.b false] _ [] kr kr (.refl _) .nil
 refine Wp.sk ?_
 refine Wp.seq ?_
 refine Wp.sb 4 ?_
 obtain ⟨r3, e_r3, h⟩ := bind_some h
 refine Runs.ck 21 [.s p0.fNew, .s p1.fNew] (laws_eqByteS_ok u p0.fNew p1.fNew r3 e_r3) ?_
 refine Runs.allf ⟨[(2, .obj 2 0), (3, .obj 3 0), (4, .b false), (22, .b (!r3))], [(2, ((World.enc p0).map .t)), (3, ((World.enc p1).map .t))], []⟩ ?_
 refine Wp.c2 h (fun h => ?_) (fun h => ?_)
 ·refine Wp.sag ⟨[(2, .obj 2 0), (3, .obj 3 0), (4, .b false)], [(2, ((World.enc p0).map .t)), (3, ((World.enc p1).map .t))], []⟩ ?_
  refine Wp.ret ?_
  refine thenR ?_
  obtain rfl := oi h
  exact RetK [.b false] _ [] kr kr (.refl _) .nil
 refine Wp.sk ?_
 refine Wp.seq ?_
 refine Wp.sb 4 ?_
 obtain ⟨r4, e_r4, h⟩ := bind_some h
 refine Runs.ck 27 [.t (.sl 1 (p0.fOld.map Image.enc)), .t (.sl 1 (p1.fOld.map Image.enc))] (laws_eqImageS_ok u p0.fOld p1.fOld r4 e_r4) ?_
 refine Runs.allf ⟨[(2, .obj 2 0), (3, .obj 3 0), (4, .b false), (28, .b (!r4))], [(2, ((World.enc p0).map .t)), (3, ((World.enc p1).map .t))], []⟩ ?_
 refine Wp.c2 h (fun h => ?_) (fun h => ?_)
 ·refine Wp.sag ⟨[(2, .obj 2 0), (3, .obj 3 0), (4, .b false)], [(2, ((World.enc p0).map .t)), (3, ((World.enc p1).map .t))], []⟩ ?_
  refine Wp.ret ?_
  refine thenR ?_
  obtain rfl := oi h
  exact RetK [.b false] _ [] kr kr (.refl _) .nil
 refine Wp.sk ?_
 refine Wp.seq ?_
 refine Wp.sb 4 ?_
 obtain ⟨r5, e_r5, h⟩ := bind_some h
 refine Runs.ck 33 [.t (.sl 12 (p0.fN.map Node.enc)), .t (.sl 12 (p1.fN.map Node.enc))] (laws_eqNodeS_ok u p0.fN p1.fN r5 e_r5) ?_
 refine Runs.allf ⟨[(2, .obj 2 0), (3, .obj 3 0), (4, .b false), (34, .b (!r5))], [(2, ((World.enc p0).map .t)), (3, ((World.enc p1).map .t))], []⟩ ?_
 refine Wp.c2 h (fun h => ?_) (fun h => ?_)
 ·refine Wp.sag ⟨[(2, .obj 2 0), (3, .obj 3 0), (4, .b false)], [(2, ((World.enc p0).map .t)), (3, ((World.enc p1).map .t))], []⟩ ?_
  refine Wp.ret ?_
  refine thenR ?_
  obtain rfl := oi h
  exact RetK [.b false] _ [] kr kr (.refl _) .nil
 refine Wp.sk ?_
 refine Wp.seq ?_
 refine Wp.sb 4 ?_
 obtain ⟨r6, e_r6, h⟩ := bind_some h
 refine Runs.ck 39 [.t (.sl 6 (p0.fD.map Disk.enc)), .t (.sl 6 (p1.fD.map Disk.enc))] (laws_eqDiskS_ok u p0.fD p1.fD r6 e_r6) ?_
 refine Runs.allf ⟨[(2, .obj 2 0), (3, .obj 3 0), (4, .b false), (40, .b (!r6))], [(2, ((World.enc p0).map .t)), (3, ((World.enc p1).map .t))], []⟩ ?_
 refine Wp.c2 h (fun h => ?_) (fun h => ?_)
 ·refine Wp.sag ⟨[(2, .obj 2 0), (3, .obj 3 0), (4, .b false)], [(2, ((World.enc p0).map .t)), (3, ((World.enc p1).map .t))], []⟩ ?_
  refine Wp.ret ?_
  refine thenR ?_
  obtain rfl := oi h
  exact RetK [.b false] _ [] kr kr (.refl _) .nil
 refine Wp.sk ?_
 refine Wp.seq ?_
 refine Wp.sb 4 ?_
 obtain ⟨r7, e_r7, h⟩ := bind_some h
 refine Runs.ck 45 [.t (.sl 3 (p0.fNet.map Packet.enc)), .t (.sl 3 (p1.fNet.map Packet.enc))] (laws_eqPacketS_ok u p0.fNet p1.fNet r7 e_r7) ?_
 refine Runs.allf ⟨[(2, .obj 2 0), (3, .obj 3 0), (4, .b false), (46, .b (!r7))], [(2, ((World.enc p0).map .t)), (3, ((World.enc p1).map .t))], []⟩ ?_
 refine Wp.c2 h (fun h => ?_) (fun h => ?_)
 ·refine Wp.sag ⟨[(2, .obj 2 0), (3, .obj 3 0), (4, .b false)], [(2, ((World.enc p0).map .t)), (3, ((World.enc p1).map .t))], []⟩ ?_
  refine Wp.ret ?_
  refine thenR ?_
  obtain rfl := oi h
  exact RetK [.b false] _ [] kr kr (.refl _) .nil
 refine Wp.sk ?_
 refine Wp.seq ?_
 refine Wp.sb 4 ?_
 obtain ⟨r8, e_r8, h⟩ := bind_some h
 refine Runs.ck 51 [.t (.sl 3 (p0.fLog.map Sent.enc)), .t (.sl 3 (p1.fLog.map Sent.enc))] (laws_eqSentS_ok u p0.fLog p1.fLog r8 e_r8) ?_
 refine Runs.allf ⟨[(2, .obj 2 0), (3, .obj 3 0), (4, .b false), (52, .b (!r8))], [(2, ((World.enc p0).map .t)), (3, ((World.enc p1).map .t))], []⟩ ?_
 refine Wp.c2 h (fun h => ?_) (fun h => ?_)
 ·refine Wp.sag ⟨[(2, .obj 2 0), (3, .obj 3 0), (4, .b false)], [(2, ((World.enc p0).map .t)), (3, ((World.enc p1).map .t))], []⟩ ?_
  refine Wp.ret ?_
  refine thenR ?_
  obtain rfl := oi h
  exact RetK [.b false] _ [] kr kr (.refl _) .nil
 refine Wp.sk ?_
 refine Wp.seq ?_
 refine Wp.sag ⟨[(4, .b false), (57, .b (p0.fLost != p1.fLost))], [], []⟩ ?_
 refine Wp.c2 h (fun h => ?_) (fun h => ?_)
 ·refine Wp.sag ⟨[(4, .b false)], [], []⟩ ?_
  refine Wp.ret ?_
  refine thenR ?_
  obtain rfl := oi h
  exact RetK [.b false] _ [] kr kr (.refl _) .nil
 refine Wp.sk ?_
 refine Wp.sag ⟨[(4, .b true)], [], []⟩ ?_
 refine Wp.ret ?_
 obtain rfl := oi h
 exact RetK [.b true] _ [] kr kr (.refl _) .nil
theorem laws_FnExactNetText_ok (u : Nat) (p0 : World) (r : Bool) (h : laws_FnExactNetText u p0 = some r) : CallOK Tryz.prog 6 [.agg [.i p0.fC.fSize, .i p0.fC.fWindow, .i p0.fC.fSuspect, .i p0.fC.fForget, .t (.sl 1 (p0.fT.fUp.map (eInt .i64))), .s p0.fNew, .t (.sl 1 (p0.fOld.map Image.enc)), .t (.sl 12 (p0.fN.map Node.enc)), .t (.sl 6 (p0.fD.map Disk.enc)), .t (.sl 3 (p0.fNet.map Packet.enc)), .t (.sl 3 (p0.fLog.map Sent.enc)), .i p0.fLost]] (.one (.b r)) [] := by
 unfold laws_FnExactNetText at h
 refine CallOK.of_bodyK (fn := Tryz.f6) (m := false) [.agg ((World.enc p0).map .t)] kr rfl kr kr kr kr kr ?_
 refine Wp.sag ⟨[(1, .obj 1 0), (2, .b false)], [(1, ((World.enc p0).map .t))], []⟩ ?_
 refine Wp.sag ⟨[(1, .obj 1 0), (2, .b false), (3, .i 1048576)], [(1, ((World.enc p0).map .t))], []⟩ ?_
 refine Wp.sb 2 ?_
 obtain ⟨r1, e_r1, h⟩ := bind_some h
 refine Runs.ck 9 [.agg ((World.enc p0).map .t), .i 1048576] (laws_szWorld_ok u p0 1048576 r1 e_r1) ?_
 refine Runs.allf ⟨[(1, .obj 1 0), (2, .b false), (3, .i r1)], [(1, ((World.enc p0).map .t))], []⟩ ?_
 refine Wp.seq ?_
 refine Wp.sag ⟨[(1, .obj 1 0), (2, .b false), (11, .b (decide (r1 < 0)))], [(1, ((World.enc p0).map .t))], []⟩ ?_
 refine Wp.c2 h (fun h => ?_) (fun h => ?_)
 ·refine Wp.sag ⟨[(1, .obj 1 0), (2, .b true)], [(1, ((World.enc p0).map .t))], []⟩ ?_
  refine Wp.ret ?_
  refine thenR ?_
  obtain rfl := oi h
  exact RetK [.b true] _ [] kr kr (.refl _) .nil
 refine Wp.sk ?_
 refine Wp.sb 1 ?_
 obtain ⟨r2, e_r2, h⟩ := bind_some h
 refine Runs.ck 13 [.agg ((World.enc p0).map .t)] (laws_toWorld_ok u p0 r2 e_r2) ?_
 obtain ⟨r3, e_r3, h⟩ := bind_some h
 refine Runs.callBK 14 21 [] [.agg [.i r2.fC.fSize, .i r2.fC.fWindow, .i r2.fC.fSuspect, .i r2.fC.fForget, .own 851972, .own 851973, .own 851974, .own 851975, .own 851976, .own 851977, .own 851978, .i r2.fLost]] [.agg ((World.enc r2).map .t)] (.one (.t (.str r3))) rfl rfl kr kr kr kr kr (spec_NetText_ok u r2 r3 e_r3) (by simp [V.plain, V.plains, C.plain, T.sc]) kr ?_
 refine Runs.allf ⟨[(1, .obj 1 0), (2, .b false), (4, .t (.str r3))], [(1, ((World.enc p0).map .t))], []⟩ ?_
 refine Wp.sb 1 ?_
 obtain ⟨r4, e_r4, h⟩ := bind_some h
 refine Runs.ck 16 [.agg ((World.enc p0).map .t)] (laws_toWorld_ok u p0 r4 e_r4) ?_
 refine Runs.allf ⟨[(1, .obj 1 0), (2, .b false), (4, .t (.str r3)), (5, .obj 5 0)], [(1, ((World.enc p0).map .t)), (5, [.i r4.fC.fSize, .i r4.fC.fWindow, .i r4.fC.fSuspect, .i r4.fC.fForget, .own 1048580, .own 1048581, .own 1048582, .own 1048583, .own 1048584, .own 1048585, .own 1048586, .i r4.fLost])], [(1048580, .live 3 1 (r4.fT.fUp.map (eInt .i64))), (1048581, .live 5 1 (r4.fNew.map (eInt .u8))), (1048582, .live 61 1 (r4.fOld.map Image.enc)), (1048583, .live 92 12 (r4.fN.map Node.enc)), (1048584, .live 124 6 (r4.fD.map Disk.enc)), (1048585, .live 97 3 (r4.fNet.map Packet.enc)), (1048586, .live 128 3 (r4.fLog.map Sent.enc))]⟩ ?_
 refine Wp.sb 1 ?_
 obtain ⟨r5, e_r5, h⟩ := bind_some h
 refine Runs.callBK 18 22 [] [.agg [.i r4.fC.fSize, .i r4.fC.fWindow, .i r4.fC.fSuspect, .i r4.fC.fForget, .own 1048580, .own 1048581, .own 1048582, .own 1048583, .own 1048584, .own 1048585, .own 1048586, .i r4.fLost]] [.agg ((World.enc r4).map .t)] (.one (.t (.str r5))) rfl rfl kr kr kr kr kr (impl_NetText_ok u r4 r5 e_r5) (by simp [V.plain, V.plains, C.plain, T.sc]) kr ?_
 refine Runs.allf ⟨[(1, .obj 1 0), (2, .b false), (4, .t (.str r3)), (5, .obj 5 0), (6, .t (.str r5))], [(1, ((World.enc p0).map .t)), (5, [.i r4.fC.fSize, .i r4.fC.fWindow, .i r4.fC.fSuspect, .i r4.fC.fForget, .own 1048580, .own 1048581, .own 1048582, .own 1048583, .own 1048584, .own 1048585, .own 1048586, .i r4.fLost])], [(1048580, .live 3 1 (r4.fT.fUp.map (eInt .i64))), (1048581, .live 5 1 (r4.fNew.map (eInt .u8))), (1048582, .live 61 1 (r4.fOld.map Image.enc)), (1048583, .live 92 12 (r4.fN.map Node.enc)), (1048584, .live 124 6 (r4.fD.map Disk.enc)), (1048585, .live 97 3 (r4.fNet.map Packet.enc)), (1048586, .live 128 3 (r4.fLog.map Sent.enc))]⟩ ?_
 refine Wp.seq ?_
 refine Wp.sag ⟨[(1, .obj 1 0), (2, .b false), (5, .obj 5 0), (21, .b (!(r5.toList == r3.toList)))], [(1, ((World.enc p0).map .t)), (5, [.i r4.fC.fSize, .i r4.fC.fWindow, .i r4.fC.fSuspect, .i r4.fC.fForget, .own 1048580, .own 1048581, .own 1048582, .own 1048583, .own 1048584, .own 1048585, .own 1048586, .i r4.fLost])], [(1048580, .live 3 1 (r4.fT.fUp.map (eInt .i64))), (1048581, .live 5 1 (r4.fNew.map (eInt .u8))), (1048582, .live 61 1 (r4.fOld.map Image.enc)), (1048583, .live 92 12 (r4.fN.map Node.enc)), (1048584, .live 124 6 (r4.fD.map Disk.enc)), (1048585, .live 97 3 (r4.fNet.map Packet.enc)), (1048586, .live 128 3 (r4.fLog.map Sent.enc))]⟩ ?_
 refine Wp.c2 h (fun h => ?_) (fun h => ?_)
 ·refine Wp.sag ⟨[(1, .obj 1 0), (2, .b false), (5, .obj 5 0)], [(1, ((World.enc p0).map .t)), (5, [.i r4.fC.fSize, .i r4.fC.fWindow, .i r4.fC.fSuspect, .i r4.fC.fForget, .own 1048580, .own 1048581, .own 1048582, .own 1048583, .own 1048584, .own 1048585, .own 1048586, .i r4.fLost])], [(1048580, .live 3 1 (r4.fT.fUp.map (eInt .i64))), (1048581, .live 5 1 (r4.fNew.map (eInt .u8))), (1048582, .live 61 1 (r4.fOld.map Image.enc)), (1048583, .live 92 12 (r4.fN.map Node.enc)), (1048584, .live 124 6 (r4.fD.map Disk.enc)), (1048585, .live 97 3 (r4.fNet.map Packet.enc)), (1048586, .live 128 3 (r4.fLog.map Sent.enc))]⟩ ?_
  refine Wp.ret ?_
  refine thenR ?_
  obtain rfl := oi h
  exact RetK [.b false] _ [] kr kr (.refl _) .nil
 refine Wp.sk ?_
 refine Wp.seq ?_
 refine Wp.seq ?_
 refine Wp.le (Le.trans (Le.frzO 5 4 1048580 3 1 [.i r4.fC.fSize, .i r4.fC.fWindow, .i r4.fC.fSuspect, .i r4.fC.fForget, .own 1048580, .own 1048581, .own 1048582, .own 1048583, .own 1048584, .own 1048585, .own 1048586, .i r4.fLost] (r4.fT.fUp.map (eInt .i64)) kr kr kr) (Le.trans (Le.frzO 5 5 1048581 5 1 [.i r4.fC.fSize, .i r4.fC.fWindow, .i r4.fC.fSuspect, .i r4.fC.fForget, .t (.sl 1 (r4.fT.fUp.map (eInt .i64))), .own 1048581, .own 1048582, .own 1048583, .own 1048584, .own 1048585, .own 1048586, .i r4.fLost] (r4.fNew.map (eInt .u8)) kr kr kr) (Le.trans (Le.frzO 5 6 1048582 61 1 [.i r4.fC.fSize, .i r4.fC.fWindow, .i r4.fC.fSuspect, .i r4.fC.fForget, .t (.sl 1 (r4.fT.fUp.map (eInt .i64))), .s r4.fNew, .own 1048582, .own 1048583, .own 1048584, .own 1048585, .own 1048586, .i r4.fLost] (r4.fOld.map Image.enc) kr kr kr) (Le.trans (Le.frzO 5 7 1048583 92 12 [.i r4.fC.fSize, .i r4.fC.fWindow, .i r4.fC.fSuspect, .i r4.fC.fForget, .t (.sl 1 (r4.fT.fUp.map (eInt .i64))), .s r4.fNew, .t (.sl 1 (r4.fOld.map Image.enc)), .own 1048583, .own 1048584, .own 1048585, .own 1048586, .i r4.fLost] (r4.fN.map Node.enc) kr kr kr) (Le.trans (Le.frzO 5 8 1048584 124 6 [.i r4.fC.fSize, .i r4.fC.fWindow, .i r4.fC.fSuspect, .i r4.fC.fForget, .t (.sl 1 (r4.fT.fUp.map (eInt .i64))), .s r4.fNew, .t (.sl 1 (r4.fOld.map Image.enc)), .t (.sl 12 (r4.fN.map Node.enc)), .own 1048584, .own 1048585, .own 1048586, .i r4.fLost] (r4.fD.map Disk.enc) kr kr kr) (Le.trans (Le.frzO 5 9 1048585 97 3 [.i r4.fC.fSize, .i r4.fC.fWindow, .i r4.fC.fSuspect, .i r4.fC.fForget, .t (.sl 1 (r4.fT.fUp.map (eInt .i64))), .s r4.fNew, .t (.sl 1 (r4.fOld.map Image.enc)), .t (.sl 12 (r4.fN.map Node.enc)), .t (.sl 6 (r4.fD.map Disk.enc)), .own 1048585, .own 1048586, .i r4.fLost] (r4.fNet.map Packet.enc) kr kr kr) (Le.trans (Le.frzO 5 10 1048586 128 3 [.i r4.fC.fSize, .i r4.fC.fWindow, .i r4.fC.fSuspect, .i r4.fC.fForget, .t (.sl 1 (r4.fT.fUp.map (eInt .i64))), .s r4.fNew, .t (.sl 1 (r4.fOld.map Image.enc)), .t (.sl 12 (r4.fN.map Node.enc)), .t (.sl 6 (r4.fD.map Disk.enc)), .t (.sl 3 (r4.fNet.map Packet.enc)), .own 1048586, .i r4.fLost] (r4.fLog.map Sent.enc) kr kr kr) (Le.of (s := ⟨[(1, .obj 1 0), (2, .b false), (5, .obj 5 0)], [(1, ((World.enc p0).map .t)), (5, ((World.enc r4).map .t))], []⟩) (mo := []) (mr := []) kr kr kr kr)))))))) ?_
 refine Wp.regionA (pOf []) (rhoOf [(1, .obj 1), (5, .obj 5), (22, .frz), (23, .frz), (25, .frz)]) kr kr ?_
 refine Runs.batch 2 kr ?_
 obtain ⟨r6, e_r6, h⟩ := bind_some h
 refine Runs.ck 24 [.agg ((World.enc p0).map .t)] (laws_toWorld_ok u p0 r6 e_r6) ?_
 obtain ⟨r7, e_r7, h⟩ := bind_some h
 refine Runs.callBK 25 18 [] [.agg ((World.enc r4).map .t), .agg [.i r6.fC.fSize, .i r6.fC.fWindow, .i r6.fC.fSuspect, .i r6.fC.fForget, .own 1572868, .own 1572869, .own 1572870, .own 1572871, .own 1572872, .own 1572873, .own 1572874, .i r6.fLost]] [.agg ((World.enc r4).map .t), .agg ((World.enc r6).map .t)] (.one (.b r7)) rfl rfl kr kr kr kr kr (laws_eqWorld_ok u r4 r6 r7 e_r7) (by simp [V.plain, V.plains, C.plain, T.sc]) kr ?_
 refine Runs.allf ⟨[(2, .b false), (26, .b (!r7))], [], []⟩ ?_
 refine Wp.c2 h (fun h => ?_) (fun h => ?_)
 ·refine Wp.sag ⟨[(2, .b false)], [], []⟩ ?_
  refine Wp.ret ?_
  refine thenR ?_
  obtain rfl := oi h
  exact RetK [.b false] _ [] kr kr (.refl _) .nil
 refine Wp.sk ?_
 refine Wp.sag ⟨[(2, .b true)], [], []⟩ ?_
 refine Wp.ret ?_
 obtain rfl := oi h
 exact RetK [.b true] _ [] kr kr (.refl _) .nil
end Go.Tm
