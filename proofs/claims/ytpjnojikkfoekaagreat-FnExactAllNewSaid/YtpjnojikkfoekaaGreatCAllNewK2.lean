/- The functions as they are translated do what the pure functions say (printed). -/
import Derived.Test.YtpjnojikkfoekaaGreatCAllNewK1
import Derived.Test.YtpjnojikkfoekaaGreatTm40
import Derived.Test.YtpjnojikkfoekaaGreatProg
set_option maxRecDepth 100000
set_option linter.unusedVariables false
set_option linter.unusedSimpArgs false
namespace Go.Tm
open Go.Proofs
theorem impl_StateOf_ok (u : Nat) (p0 : World) (p1 : Int) (r : Int) (h : impl_StateOf u p0 p1 = some r) : CallOK Tryz.prog 77 [.agg [.t (.int .i64 p0.fC.fSize), .t (.int .i64 p0.fC.fWindow), .t (.int .i64 p0.fC.fSuspect), .t (.int .i64 p0.fC.fForget), .t (.sl 1 (p0.fT.fUp.map (eInt .i64))), .t (.sl 1 (p0.fNew.map (eInt .u8))), .t (.sl 1 (p0.fOld.map Image.enc)), .t (.sl 12 (p0.fN.map Node.enc)), .t (.sl 6 (p0.fD.map Disk.enc)), .t (.sl 3 (p0.fNet.map Packet.enc)), .t (.sl 3 (p0.fLog.map Sent.enc)), .t (.int .i64 p0.fLost)], .one (.t (.int .i64 p1))] (.one (.t (.int .i64 r))) [] := by
  unfold impl_StateOf at h
  refine CallOK.of_bodyK (fn := Tryz.f77) (m := false) [.agg ((World.enc p0).map .t), .t (.int .i64 p1)] kr rfl kr kr kr kr kr ?_
  refine Wp.srg [] [] ?_
  refine Runs.alln ?_
  refine Wp.fg ⟨[(1, .t (.int .i64 p1)), (2, .obj 2 0), (4, .t (.int .i64 0))], [(2, ((World.enc p0).map .t))], []⟩ ?_
  refine Wp.seq ?_
  refine Wp.block ?_
  refine Wp.seqJ (α := Int × Bool × World) (fun a => ⟨[(1, .t (.int .i64 a.1)), (2, .obj 2 0), (4, .t (.int .i64 0)), (5, .t (.bool a.2.1))], [(2, ((World.enc a.2.2).map .t))], []⟩) (fun a => impl_StateOf_j1 u a.1 a.2.1 a.2.2 = some r) ?_ ?_
  · rintro ⟨p1, x3, p0⟩ h
    change impl_StateOf_j1 u p1 x3 p0 = some r at h
    unfold impl_StateOf_j1 at h
    refine Wp.cond2 (b := x3) kr (fun hc => ?_) (fun hc => ?_)
    · have h := cond_t h hc
      refine Wp.srg [] [] ?_
      refine Runs.alln ?_
      refine Wp.fg ⟨[(4, .t (.int .i64 (-1)))], [], []⟩ ?_
      refine Wp.ret ?_
      refine blkR ?_
      refine thenR ?_
      have hr := Option.some.inj h
      subst hr
      exact RetK [.t (.int .i64 (-1))] (.one (.t (.int .i64 (-1)))) [] kr kr (.refl _) .nil
    · have h := cond_f h hc
      refine Wp.seq ?_
      refine Wp.regionA (pOf []) (rhoOf [(1, .frz), (2, .obj 2), (23, .obj 2), (24, .frz), (25, .frz), (26, .frz), (27, .frz), (28, .obj 2), (29, .frz), (30, .frz), (31, .frz), (32, .frz), (33, .frz), (34, .frz)]) kr kr ?_
      refine Runs.batch 3 kr ?_
      obtain ⟨y4, e_y4, h⟩ := bind_some h
      refine Runs.idxT (e := 110) (kk := .i64) (sz := 6) Disk.enc p0.fD p1 rfl kr kr kr kr kr kr e_y4 ?_
      refine Runs.batch 4 kr ?_
      obtain ⟨y5, e_y5, h⟩ := bind_some h
      refine Runs.idxT (e := 105) (kk := .i64) (sz := 1) Image.enc p0.fOld p1 rfl kr kr kr kr kr kr e_y5 ?_
      refine Runs.batch 2 kr ?_
      obtain ⟨r6, e_r6, h⟩ := bind_some h
      refine Runs.callK false 34 105 [] [.agg ((Disk.enc y4).map .t), .t (.int .i64 0), .t (.sl 1 (y5.fB.map (eInt .u8)))] [.agg ((Disk.enc y4).map .t), .one (.t (.int .i64 0)), .one (.t (.sl 1 (y5.fB.map (eInt .u8))))] (.one (.t (.bool r6))) [] rfl rfl kr kr kr kr kr (impl_Holds_ok u y4 0 y5.fB r6 e_r6) kr ?_
      refine Runs.alln ?_
      refine Wp.fg ⟨[(1, .t (.int .i64 p1)), (2, .obj 2 0), (4, .t (.int .i64 0)), (22, .t (.bool r6))], [(2, ((World.enc p0).map .t))], []⟩ ?_
      refine Wp.cond2 (b := r6) kr (fun hc => ?_) (fun hc => ?_)
      · have h := cond_t h hc
        refine Wp.srg [] [] ?_
        refine Runs.alln ?_
        refine Wp.fg ⟨[(4, .t (.int .i64 0))], [], []⟩ ?_
        refine Wp.ret ?_
        refine blkR ?_
        refine thenR ?_
        have hr := Option.some.inj h
        subst hr
        exact RetK [.t (.int .i64 0)] (.one (.t (.int .i64 0))) [] kr kr (.refl _) .nil
      · have h := cond_f h hc
        refine Wp.seq ?_
        refine Wp.regionA (pOf []) (rhoOf [(1, .frz), (2, .obj 2), (36, .obj 2), (37, .frz), (38, .frz), (39, .frz), (40, .frz), (41, .obj 2), (42, .frz), (43, .frz)]) kr kr ?_
        refine Runs.batch 3 kr ?_
        obtain ⟨y7, e_y7, h⟩ := bind_some h
        refine Runs.idxT (e := 110) (kk := .i64) (sz := 6) Disk.enc p0.fD p1 rfl kr kr kr kr kr kr e_y7 ?_
        refine Runs.batch 3 kr ?_
        obtain ⟨r8, e_r8, h⟩ := bind_some h
        refine Runs.callK false 43 105 [] [.agg ((Disk.enc y7).map .t), .t (.int .i64 1), .t (.sl 1 (p0.fNew.map (eInt .u8)))] [.agg ((Disk.enc y7).map .t), .one (.t (.int .i64 1)), .one (.t (.sl 1 (p0.fNew.map (eInt .u8))))] (.one (.t (.bool r8))) [] rfl rfl kr kr kr kr kr (impl_Holds_ok u y7 1 p0.fNew r8 e_r8) kr ?_
        refine Runs.alln ?_
        refine Wp.fg ⟨[(4, .t (.int .i64 0)), (35, .t (.bool r8))], [], []⟩ ?_
        refine Wp.cond2 (b := r8) kr (fun hc => ?_) (fun hc => ?_)
        · have h := cond_t h hc
          refine Wp.srg [] [] ?_
          refine Runs.alln ?_
          refine Wp.fg ⟨[(4, .t (.int .i64 1))], [], []⟩ ?_
          refine Wp.ret ?_
          refine blkR ?_
          refine thenR ?_
          have hr := Option.some.inj h
          subst hr
          exact RetK [.t (.int .i64 1)] (.one (.t (.int .i64 1))) [] kr kr (.refl _) .nil
        · have h := cond_f h hc
          refine Wp.skip ?_
          refine blkN ?_
          refine thenN ?_
          refine Wp.srg [] [] ?_
          refine Runs.alln ?_
          refine Wp.fg ⟨[(4, .t (.int .i64 (-1)))], [], []⟩ ?_
          refine Wp.ret ?_
          have hr := Option.some.inj h
          subst hr
          exact RetK [.t (.int .i64 (-1))] (.one (.t (.int .i64 (-1)))) [] kr kr (.refl _) .nil
  · refine Wp.rg [] [] ?_
    refine Runs.batch 3 kr ?_
    refine Runs.lenT (y := .t (.sl 6 (p0.fD.map Disk.enc))) (e := 110) Disk.enc p0.fD 6 rfl rfl rfl kr kr kr kr kr ?_
    refine Runs.batch 1 kr ?_
    obtain ⟨r1, e_r1, h⟩ := bind_some h
    refine Runs.callK false 11 104 [] [.t (.int .i64 p1), .t (.int .i64 0), .t (.int .i64 (bSub .i64 ((p0.fD.length : Int)) 1))] [.one (.t (.int .i64 p1)), .one (.t (.int .i64 0)), .one (.t (.int .i64 (bSub .i64 ((p0.fD.length : Int)) 1)))] (.one (.t (.bool r1))) [] rfl rfl kr kr kr kr kr (impl_within_ok u p1 0 (bSub .i64 ((p0.fD.length : Int)) 1) r1 e_r1) kr ?_
    refine Runs.batch 2 kr ?_
    rcases tf (!r1) with hc | hc
    · have h := cond_t h hc
      refine Runs.known 13 (v := true) kr hc ?_
      refine Runs.alln ?_
      exact ⟨(p1, true, p0), h, Le.of (mo := []) (mr := []) kr kr kr kr⟩
    · have h := cond_f h hc
      refine Runs.known 13 (v := false) kr hc ?_
      refine Runs.batch 3 kr ?_
      refine Runs.lenT (y := .t (.sl 1 (p0.fOld.map Image.enc))) (e := 105) Image.enc p0.fOld 1 rfl rfl rfl kr kr kr kr kr ?_
      refine Runs.batch 1 kr ?_
      obtain ⟨r2, e_r2, h⟩ := bind_some h
      refine Runs.callK false 19 104 [] [.t (.int .i64 p1), .t (.int .i64 0), .t (.int .i64 (bSub .i64 ((p0.fOld.length : Int)) 1))] [.one (.t (.int .i64 p1)), .one (.t (.int .i64 0)), .one (.t (.int .i64 (bSub .i64 ((p0.fOld.length : Int)) 1)))] (.one (.t (.bool r2))) [] rfl rfl kr kr kr kr kr (impl_within_ok u p1 0 (bSub .i64 ((p0.fOld.length : Int)) 1) r2 e_r2) kr ?_
      refine Runs.alln ?_
      exact ⟨(p1, !r2, p0), h, Le.of (mo := []) (mr := []) kr kr kr kr⟩
theorem impl_LateIn_1_ok (u : Nat) (p0 : Int) (q0 : World) (r : Bool) (h : impl_LateIn_1 u p0 q0 = some r) : CallOK Tryz.prog 76 [.one (.t (.int .i64 p0)), .fptr [.int .i64 q0.fC.fSize, .int .i64 q0.fC.fWindow, .int .i64 q0.fC.fSuspect, .int .i64 q0.fC.fForget, .sl 1 (q0.fT.fUp.map (eInt .i64)), .sl 1 (q0.fNew.map (eInt .u8)), .sl 1 (q0.fOld.map Image.enc), .sl 12 (q0.fN.map Node.enc), .sl 6 (q0.fD.map Disk.enc), .sl 3 (q0.fNet.map Packet.enc), .sl 3 (q0.fLog.map Sent.enc), .int .i64 q0.fLost]] (.one (.t (.bool r))) [] := by
  unfold impl_LateIn_1 at h
  refine CallOK.of_bodyK (fn := Tryz.f76) (m := false) [.t (.int .i64 p0), .fadr (World.enc q0)] kr rfl kr kr kr kr kr ?_
  refine Wp.srg [] [] ?_
  refine Runs.alln ?_
  refine Wp.fg ⟨[(0, .t (.int .i64 p0)), (1, .fadr (World.enc q0)), (3, .t (.bool false))], [], []⟩ ?_
  refine Wp.srg [] [] ?_
  refine Runs.batch 3 kr ?_
  rcases tf (p0 == 0) with hc | hc
  · have h := cond_t h hc
    refine Runs.known 6 (v := true) kr hc ?_
    refine Runs.alln ?_
    refine Wp.fg ⟨[(3, .t (.bool true))], [], []⟩ ?_
    refine Wp.ret ?_
    have hr := Option.some.inj h
    subst hr
    exact RetK [.t (.bool true)] (.one (.t (.bool true))) [] kr kr (.refl _) .nil
  · have h := cond_f h hc
    refine Runs.known 6 (v := false) kr hc ?_
    refine Runs.batch 2 kr ?_
    obtain ⟨r1, e_r1, h⟩ := bind_some h
    refine Runs.callK false 9 77 [] [.agg ((World.enc q0).map .t), .t (.int .i64 p0)] [.agg ((World.enc q0).map .t), .one (.t (.int .i64 p0))] (.one (.t (.int .i64 r1))) [] rfl rfl kr kr kr kr kr (impl_StateOf_ok u q0 p0 r1 e_r1) kr ?_
    refine Runs.alln ?_
    refine Wp.fg ⟨[(3, .t (.bool (r1 == 1)))], [], []⟩ ?_
    refine Wp.ret ?_
    have hr := Option.some.inj h
    subst hr
    exact RetK [.t (.bool (r1 == 1))] (.one (.t (.bool (r1 == 1)))) [] kr kr (.refl _) .nil
theorem slices_IndexFunc___int_int__impl_LateIn_1_ok (u : Nat) (p0 : List Int) (p1_0 : World) (r : Int) (h : slices_IndexFunc___int_int__impl_LateIn_1 u p0 p1_0 = some r) : CallOK Tryz.prog 101 [.one (.t (.sl 1 (p0.map (eInt .i64)))), .clo 76 [.fptr [.int .i64 p1_0.fC.fSize, .int .i64 p1_0.fC.fWindow, .int .i64 p1_0.fC.fSuspect, .int .i64 p1_0.fC.fForget, .sl 1 (p1_0.fT.fUp.map (eInt .i64)), .sl 1 (p1_0.fNew.map (eInt .u8)), .sl 1 (p1_0.fOld.map Image.enc), .sl 12 (p1_0.fN.map Node.enc), .sl 6 (p1_0.fD.map Disk.enc), .sl 3 (p1_0.fNet.map Packet.enc), .sl 3 (p1_0.fLog.map Sent.enc), .int .i64 p1_0.fLost]]] (.one (.t (.int .i64 r))) [] := by
  unfold slices_IndexFunc___int_int__impl_LateIn_1 at h
  refine CallOK.of_bodyK (fn := Tryz.f101) (m := false) [.t (.sl 1 (p0.map (eInt .i64))), .clo 76 [.fadr (World.enc p1_0)]] kr rfl kr kr kr kr kr ?_
  refine Wp.srg [] [] ?_
  refine Runs.alln ?_
  refine Wp.fg ⟨[(0, .t (.sl 1 (p0.map (eInt .i64)))), (1, .clo 76 [.fadr (World.enc p1_0)]), (4, .t (.int .i64 0))], [], []⟩ ?_
  refine Wp.seqJ (α := Unit) (fun a => ⟨[(4, .t (.int .i64 0))], [], []⟩) (fun a => slices_IndexFunc___int_int__impl_LateIn_1_j1 u = some r) ?_ ?_
  · rintro ⟨⟩ h
    change slices_IndexFunc___int_int__impl_LateIn_1_j1 u = some r at h
    unfold slices_IndexFunc___int_int__impl_LateIn_1_j1 at h
    refine Wp.srg [] [] ?_
    refine Runs.alln ?_
    refine Wp.fg ⟨[(4, .t (.int .i64 (-1)))], [], []⟩ ?_
    refine Wp.ret ?_
    have hr := Option.some.inj h
    subst hr
    exact RetK [.t (.int .i64 (-1))] (.one (.t (.int .i64 (-1)))) [] kr kr (.refl _) .nil
  · refine Wp.srg [] [] ?_
    refine Runs.batch 1 kr ?_
    refine Runs.lenT (y := .t (.sl 1 (p0.map (eInt .i64)))) (e := 3) (eInt .i64) p0 1 rfl rfl rfl kr kr kr kr kr ?_
    refine Runs.alln ?_
    refine Wp.fg ⟨[(0, .t (.sl 1 (p0.map (eInt .i64)))), (1, .clo 76 [.fadr (World.enc p1_0)]), (4, .t (.int .i64 0)), (7, .t (.int .i64 ((p0.length : Int)))), (8, .t (.int .i64 0))], [], []⟩ ?_
    refine Wp.block ?_
    refine Wp.loopF (α := (List Int) × World × Int) (fun a => ⟨[(0, .t (.sl 1 (a.1.map (eInt .i64)))), (1, .clo 76 [.fadr (World.enc a.2.1)]), (4, .t (.int .i64 0)), (7, .t (.int .i64 ((a.1.length : Int)))), (8, .t (.int .i64 a.2.2))], [], []⟩) (fun k_slices_IndexFunc___int_int__impl_LateIn_1_l2 a => slices_IndexFunc___int_int__impl_LateIn_1_l2 u k_slices_IndexFunc___int_int__impl_LateIn_1_l2 a.1 a.2.1 a.2.2 = some r) ?_ ?_ u (p0, p1_0, 0) h (Le.of (mo := []) (mr := []) kr kr kr kr)
    · intro a h; unfold slices_IndexFunc___int_int__impl_LateIn_1_l2 at h; cases h
    · rintro k_slices_IndexFunc___int_int__impl_LateIn_1_l2 ⟨p0, p1_0, x2⟩ h
      change slices_IndexFunc___int_int__impl_LateIn_1_l2 u (k_slices_IndexFunc___int_int__impl_LateIn_1_l2 + 1) p0 p1_0 x2 = some r at h
      rw [slices_IndexFunc___int_int__impl_LateIn_1_l2] at h
      refine Wp.srg [] [] ?_
      refine Runs.alln ?_
      refine Wp.fg ⟨[(0, .t (.sl 1 (p0.map (eInt .i64)))), (1, .clo 76 [.fadr (World.enc p1_0)]), (4, .t (.int .i64 0)), (7, .t (.int .i64 ((p0.length : Int)))), (8, .t (.int .i64 x2)), (9, .t (.bool (decide (x2 < ((p0.length : Int))))))], [], []⟩ ?_
      refine Wp.seq ?_
      refine Wp.cond2 (b := decide (x2 < ((p0.length : Int)))) kr (fun hc => ?_) (fun hc => ?_)
      · have h := cond_t h hc
        refine Wp.skip ?_
        refine thenN ?_
        refine Wp.seq ?_
        refine Wp.block ?_
        refine Wp.srg [] [] ?_
        refine Runs.alln ?_
        refine Wp.fg ⟨[(0, .t (.sl 1 (p0.map (eInt .i64)))), (1, .clo 76 [.fadr (World.enc p1_0)]), (4, .t (.int .i64 0)), (5, .t (.int .i64 x2)), (7, .t (.int .i64 ((p0.length : Int)))), (8, .t (.int .i64 x2)), (9, .t (.bool (decide (x2 < ((p0.length : Int)))))), (10, .t (.int .i64 x2))], [], []⟩ ?_
        refine Wp.srg [] [] ?_
        refine Runs.batch 3 kr ?_
        obtain ⟨y4, e_y4, h⟩ := bind_some h
        refine Runs.idxT (e := 3) (kk := .i64) (sz := 1) (eInt .i64) p0 x2 rfl kr kr kr kr kr kr e_y4 ?_
        refine Runs.batch 1 kr ?_
        obtain ⟨r5, e_r5, h⟩ := bind_some h
        refine Runs.callK false 16 76 [.fadr (World.enc p1_0)] [.t (.int .i64 y4)] [.one (.t (.int .i64 y4)), .fptr (World.enc p1_0)] (.one (.t (.bool r5))) [] rfl rfl kr kr kr kr kr (impl_LateIn_1_ok u y4 p1_0 r5 e_r5) kr ?_
        refine Runs.done ?_
        refine thenN ?_
        refine Wp.fg ⟨[(0, .t (.sl 1 (p0.map (eInt .i64)))), (1, .clo 76 [.fadr (World.enc p1_0)]), (4, .t (.int .i64 0)), (5, .t (.int .i64 x2)), (7, .t (.int .i64 ((p0.length : Int)))), (8, .t (.int .i64 x2)), (9, .t (.bool (decide (x2 < ((p0.length : Int)))))), (10, .t (.int .i64 x2)), (11, .clo 76 [.fadr (World.enc p1_0)]), (12, .t (.sl 1 (p0.map (eInt .i64)))), (13, .t (.int .i64 x2)), (14, .fadr [.int .i64 y4]), (15, .t (.int .i64 y4)), (16, .t (.bool r5))], [], []⟩ ?_
        refine Wp.cond2 (b := r5) kr (fun hc => ?_) (fun hc => ?_)
        · have h := cond_t h hc
          refine Wp.srg [] [] ?_
          refine Runs.alln ?_
          refine Wp.fg ⟨[(0, .t (.sl 1 (p0.map (eInt .i64)))), (1, .clo 76 [.fadr (World.enc p1_0)]), (4, .t (.int .i64 x2)), (5, .t (.int .i64 x2)), (7, .t (.int .i64 ((p0.length : Int)))), (8, .t (.int .i64 x2)), (9, .t (.bool (decide (x2 < ((p0.length : Int)))))), (10, .t (.int .i64 x2)), (11, .clo 76 [.fadr (World.enc p1_0)]), (12, .t (.sl 1 (p0.map (eInt .i64)))), (13, .t (.int .i64 x2)), (14, .fadr [.int .i64 y4]), (15, .t (.int .i64 y4)), (16, .t (.bool r5)), (17, .t (.int .i64 x2))], [], []⟩ ?_
          refine Wp.ret ?_
          refine blkR ?_
          refine thenR ?_
          refine thenR ?_
          refine blkR ?_
          refine thenR ?_
          have hr := Option.some.inj h
          subst hr
          exact RetK [.t (.int .i64 x2)] (.one (.t (.int .i64 x2))) [] kr kr (.refl _) .nil
        · have h := cond_f h hc
          refine Wp.skip ?_
          refine blkN ?_
          refine thenN ?_
          refine Wp.rg [] [] ?_
          refine Runs.alln ?_
          exact ⟨(p0, p1_0, bAdd .i64 x2 1), h, Le.of (mo := []) (mr := []) kr kr kr kr⟩
      · have h := cond_f h hc
        refine Wp.exit ?_
        refine thenE ?_
        refine thenE ?_
        refine blkE ?_
        refine thenN ?_
        exact ⟨(), h, Le.of (mo := []) (mr := []) kr kr kr kr⟩
theorem slices_DeleteFunc___int_int__impl_LateIn_1_ok (u : Nat) (p0 : List Int) (p1_0 : World) (r : (List Int)) (h : slices_DeleteFunc___int_int__impl_LateIn_1 u p0 p1_0 = some r) : CallOK Tryz.prog 74 [.one (.ow 3 1 (p0.map (eInt .i64))), .clo 76 [.fptr [.int .i64 p1_0.fC.fSize, .int .i64 p1_0.fC.fWindow, .int .i64 p1_0.fC.fSuspect, .int .i64 p1_0.fC.fForget, .sl 1 (p1_0.fT.fUp.map (eInt .i64)), .sl 1 (p1_0.fNew.map (eInt .u8)), .sl 1 (p1_0.fOld.map Image.enc), .sl 12 (p1_0.fN.map Node.enc), .sl 6 (p1_0.fD.map Disk.enc), .sl 3 (p1_0.fNet.map Packet.enc), .sl 3 (p1_0.fLog.map Sent.enc), .int .i64 p1_0.fLost]]] (.one (.t (.sl 1 (r.map (eInt .i64))))) [] := by
  unfold slices_DeleteFunc___int_int__impl_LateIn_1 at h
  refine CallOK.of_bodyK (fn := Tryz.f74) (m := false) [.own 58982400, .clo 76 [.fadr (World.enc p1_0)]] kr rfl kr kr kr kr kr ?_
  refine Wp.srg [] [] ?_
  refine Runs.alln ?_
  refine Wp.fg ⟨[(0, .own 58982400), (1, .clo 76 [.fadr (World.enc p1_0)]), (4, .nil)], [], [(58982400, .live 3 1 (p0.map (eInt .i64)))]⟩ ?_
  refine Wp.srg [] [] ?_
  refine Runs.batch 2 kr ?_
  obtain ⟨r1, e_r1, h⟩ := bind_some h
  refine Runs.callBK 10 101 [] [.own 58982400, .clo 76 [.fadr (World.enc p1_0)]] [.one (.t (.sl 1 (p0.map (eInt .i64)))), .clo 76 [.fptr (World.enc p1_0)]] (.one (.t (.int .i64 r1))) rfl rfl kr kr kr kr kr (slices_IndexFunc___int_int__impl_LateIn_1_ok u p0 p1_0 r1 e_r1) (by simp [V.plain, V.plains, C.plain, T.sc]) kr ?_
  refine Runs.alln ?_
  refine Wp.fg ⟨[(0, .own 58982400), (1, .clo 76 [.fadr (World.enc p1_0)]), (4, .nil), (5, .t (.int .i64 r1))], [], [(58982400, .live 3 1 (p0.map (eInt .i64)))]⟩ ?_
  refine Wp.seq ?_
  refine Wp.srg [] [] ?_
  refine Runs.alln ?_
  refine Wp.fg ⟨[(0, .own 58982400), (1, .clo 76 [.fadr (World.enc p1_0)]), (4, .nil), (5, .t (.int .i64 r1)), (12, .t (.bool (r1 == (-1))))], [], [(58982400, .live 3 1 (p0.map (eInt .i64)))]⟩ ?_
  refine Wp.cond2 (b := r1 == (-1)) kr (fun hc => ?_) (fun hc => ?_)
  · have h := cond_t h hc
    refine Wp.srg [] [] ?_
    refine Runs.alln ?_
    refine Wp.fg ⟨[(0, .own 58982400), (1, .clo 76 [.fadr (World.enc p1_0)]), (4, .own 58982400), (5, .t (.int .i64 r1))], [], [(58982400, .live 3 1 (p0.map (eInt .i64)))]⟩ ?_
    refine Wp.ret ?_
    refine thenR ?_
    have hr := Option.some.inj h
    subst hr
    exact RetK [.own 58982400] (.one (.t (.sl 1 (p0.map (eInt .i64))))) [] kr kr (.refl _) .nil
  · have h := cond_f h hc
    refine Wp.skip ?_
    refine thenN ?_
    refine Wp.seqJ (α := (List Int) × Int) (fun a => ⟨[(0, .own 1), (4, .nil), (5, .t (.int .i64 a.2))], [], [(1, .live 3 1 (a.1.map (eInt .i64)))]⟩) (fun a => slices_DeleteFunc___int_int__impl_LateIn_1_j1 u a.1 a.2 = some r) ?_ ?_
    · rintro ⟨x16, x17⟩ h
      change slices_DeleteFunc___int_int__impl_LateIn_1_j1 u x16 x17 = some r at h
      unfold slices_DeleteFunc___int_int__impl_LateIn_1_j1 at h
      refine Wp.srg [] [(38, .win 0)] ?_
      refine Runs.batch 2 kr ?_
      obtain ⟨_, e_18, h⟩ := bind_some h
      refine Runs.subO (e := 3) (e' := 3) (alo := (some (.t (.int .i64 x17)))) (eInt .i64) x16 1 1 x17 rfl kr kr kr kr kr kr kr kr kr (chk_some e_18) ?_
      refine Runs.clearO (e := 3) (e' := 3) (eInt .i64) x16 0 (.int .i64 0) 1 (Int.toNat x17) rfl rfl rfl kr kr kr kr kr kr kr rfl (sub_le (chk_some e_18)) ?_
      refine Runs.done ?_
      refine thenN ?_
      refine Wp.fg ⟨[(0, .own 1), (4, .nil), (5, .t (.int .i64 x17))], [], [(1, .live 3 1 ((x16.take (Int.toNat x17) ++ List.replicate (x16.length - Int.toNat x17) 0).map (eInt .i64)))]⟩ ?_
      refine Wp.srg [] [] ?_
      refine Runs.batch 2 kr ?_
      obtain ⟨_, e_19, h⟩ := bind_some h
      refine Runs.subsl (e := 3) (ax := .own 1) (alo := none) (ahi := (some (.t (.int .i64 x17)))) (eInt .i64) (x16.take (Int.toNat x17) ++ List.replicate (x16.length - Int.toNat x17) 0) 1 0 x17 rfl kr kr kr kr kr kr kr kr kr kr kr (chk_some e_19) ?_
      refine Runs.alln ?_
      refine Wp.fg ⟨[(4, .t (.sl 1 ((((x16.take (Int.toNat x17) ++ List.replicate (x16.length - Int.toNat x17) 0).take (Int.toNat x17)).drop (Int.toNat 0)).map (eInt .i64))))], [], []⟩ ?_
      refine Wp.ret ?_
      have hr := Option.some.inj h
      subst hr
      exact RetK [.t (.sl 1 ((((x16.take (Int.toNat x17) ++ List.replicate (x16.length - Int.toNat x17) 0).take (Int.toNat x17)).drop (Int.toNat 0)).map (eInt .i64)))] (.one (.t (.sl 1 ((((x16.take (Int.toNat x17) ++ List.replicate (x16.length - Int.toNat x17) 0).take (Int.toNat x17)).drop (Int.toNat 0)).map (eInt .i64))))) [] kr kr (.refl _) .nil
    · refine Wp.srg [] [] ?_
      refine Runs.alln ?_
      refine Wp.fg ⟨[(0, .own 58982400), (1, .clo 76 [.fadr (World.enc p1_0)]), (4, .nil), (5, .t (.int .i64 r1)), (6, .t (.int .i64 (bAdd .i64 r1 1)))], [], [(58982400, .live 3 1 (p0.map (eInt .i64)))]⟩ ?_
      refine Wp.block ?_
      refine Wp.loopF (α := (List Int) × World × Int × Int) (fun a => ⟨[(0, .own 1), (1, .clo 76 [.fadr (World.enc a.2.1)]), (4, .nil), (5, .t (.int .i64 a.2.2.1)), (6, .t (.int .i64 a.2.2.2))], [], [(1, .live 3 1 (a.1.map (eInt .i64)))]⟩) (fun k_slices_DeleteFunc___int_int__impl_LateIn_1_l2 a => slices_DeleteFunc___int_int__impl_LateIn_1_l2 u k_slices_DeleteFunc___int_int__impl_LateIn_1_l2 a.1 a.2.1 a.2.2.1 a.2.2.2 = some r) ?_ ?_ u (p0, p1_0, r1, bAdd .i64 r1 1) h (Le.of (mo := []) (mr := [(1, 58982400)]) kr kr kr kr)
      · intro a h; unfold slices_DeleteFunc___int_int__impl_LateIn_1_l2 at h; cases h
      · rintro k_slices_DeleteFunc___int_int__impl_LateIn_1_l2 ⟨x5, p1_0, x6, x7⟩ h
        change slices_DeleteFunc___int_int__impl_LateIn_1_l2 u (k_slices_DeleteFunc___int_int__impl_LateIn_1_l2 + 1) x5 p1_0 x6 x7 = some r at h
        rw [slices_DeleteFunc___int_int__impl_LateIn_1_l2] at h
        refine Wp.seq ?_
        refine Wp.srg [] [] ?_
        refine Runs.batch 2 kr ?_
        refine Runs.lenT (y := .own 1) (e := 3) (eInt .i64) x5 1 rfl rfl rfl kr kr kr kr kr ?_
        refine Runs.alln ?_
        refine Wp.fg ⟨[(0, .own 1), (1, .clo 76 [.fadr (World.enc p1_0)]), (4, .nil), (5, .t (.int .i64 x6)), (6, .t (.int .i64 x7)), (16, .t (.int .i64 x7)), (17, .own 1), (18, .t (.int .i64 ((x5.length : Int)))), (19, .t (.bool (decide (x7 < ((x5.length : Int))))))], [], [(1, .live 3 1 (x5.map (eInt .i64)))]⟩ ?_
        refine Wp.cond2 (b := decide (x7 < ((x5.length : Int)))) kr (fun hc => ?_) (fun hc => ?_)
        · have h := cond_t h hc
          refine Wp.skip ?_
          refine thenN ?_
          refine Wp.seqJ (α := (List Int) × World × Int × Int × Int × (List Int) × Bool) (fun a => ⟨[(0, .own 1), (1, .clo 76 [.fadr (World.enc a.2.1)]), (4, .nil), (5, .t (.int .i64 a.2.2.1)), (6, .t (.int .i64 a.2.2.2.1)), (7, .t (.int .i64 a.2.2.2.2.1)), (16, .t (.int .i64 a.2.2.2.1)), (17, .own 1), (18, .t (.int .i64 ((a.2.2.2.2.2.1.length : Int)))), (19, .t (.bool (decide (a.2.2.2.1 < ((a.2.2.2.2.2.1.length : Int)))))), (22, .own 1), (23, .t (.int .i64 a.2.2.2.1)), (25, .t (.int .i64 a.2.2.2.2.1)), (26, .clo 76 [.fadr (World.enc a.2.1)]), (27, .t (.int .i64 a.2.2.2.2.1)), (28, .t (.bool a.2.2.2.2.2.2)), (29, .t (.bool (!a.2.2.2.2.2.2)))], [], [(1, .live 3 1 (a.1.map (eInt .i64)))]⟩) (fun a => slices_DeleteFunc___int_int__impl_LateIn_1_j3 u (fun z0 z1 z2 z3 => slices_DeleteFunc___int_int__impl_LateIn_1_l2 u k_slices_DeleteFunc___int_int__impl_LateIn_1_l2 z0 z1 z2 z3) a.1 a.2.1 a.2.2.1 a.2.2.2.1 a.2.2.2.2.1 a.2.2.2.2.2.1 a.2.2.2.2.2.2 = some r) ?_ ?_
          · rintro ⟨x14, p1_0, x15, x7, y11, x5, r12⟩ h
            change slices_DeleteFunc___int_int__impl_LateIn_1_j3 u (fun z0 z1 z2 z3 => slices_DeleteFunc___int_int__impl_LateIn_1_l2 u k_slices_DeleteFunc___int_int__impl_LateIn_1_l2 z0 z1 z2 z3) x14 p1_0 x15 x7 y11 x5 r12 = some r at h
            unfold slices_DeleteFunc___int_int__impl_LateIn_1_j3 at h
            refine Wp.rg [] [] ?_
            refine Runs.alln ?_
            exact ⟨(x14, p1_0, x15, bAdd .i64 x7 1), h, Le.of (mo := []) (mr := []) kr kr kr kr⟩
          · refine Wp.block ?_
            refine Wp.srg [] [] ?_
            refine Runs.batch 2 kr ?_
            obtain ⟨y11, e_y11, h⟩ := bind_some h
            refine Runs.idxO (e := 3) (e' := 3) (kk := .i64) (sz := 1) (eInt .i64) x5 x7 1 rfl kr kr kr kr kr kr kr e_y11 ?_
            refine Runs.loadE (e' := 3) (sz := 1) (m := 1) (gg := false) (eInt .i64) x5 1 (Int.toNat x7) 0 (.t (.int .i64 y11)) rfl kr kr kr kr kr kr (idx_some e_y11).2 kr ?_
            refine Runs.alln ?_
            refine Wp.fg ⟨[(0, .own 1), (1, .clo 76 [.fadr (World.enc p1_0)]), (4, .nil), (5, .t (.int .i64 x6)), (6, .t (.int .i64 x7)), (7, .t (.int .i64 y11)), (16, .t (.int .i64 x7)), (17, .own 1), (18, .t (.int .i64 ((x5.length : Int)))), (19, .t (.bool (decide (x7 < ((x5.length : Int)))))), (22, .own 1), (23, .t (.int .i64 x7)), (24, .elem 1 1 (Int.toNat x7) 0), (25, .t (.int .i64 y11))], [], [(1, .live 3 1 (x5.map (eInt .i64)))]⟩ ?_
            refine Wp.srg [] [] ?_
            refine Runs.batch 2 kr ?_
            obtain ⟨r12, e_r12, h⟩ := bind_some h
            refine Runs.callK false 28 76 [.fadr (World.enc p1_0)] [.t (.int .i64 y11)] [.one (.t (.int .i64 y11)), .fptr (World.enc p1_0)] (.one (.t (.bool r12))) [] rfl rfl kr kr kr kr kr (impl_LateIn_1_ok u y11 p1_0 r12 e_r12) kr ?_
            refine Runs.alln ?_
            refine Wp.fg ⟨[(0, .own 1), (1, .clo 76 [.fadr (World.enc p1_0)]), (4, .nil), (5, .t (.int .i64 x6)), (6, .t (.int .i64 x7)), (7, .t (.int .i64 y11)), (16, .t (.int .i64 x7)), (17, .own 1), (18, .t (.int .i64 ((x5.length : Int)))), (19, .t (.bool (decide (x7 < ((x5.length : Int)))))), (22, .own 1), (23, .t (.int .i64 x7)), (24, .elem 1 1 (Int.toNat x7) 0), (25, .t (.int .i64 y11)), (26, .clo 76 [.fadr (World.enc p1_0)]), (27, .t (.int .i64 y11)), (28, .t (.bool r12)), (29, .t (.bool (!r12)))], [], [(1, .live 3 1 (x5.map (eInt .i64)))]⟩ ?_
            refine Wp.cond2 (b := !r12) kr (fun hc => ?_) (fun hc => ?_)
            · have h := cond_t h hc
              refine Wp.srg [] [] ?_
              refine Runs.batch 3 kr ?_
              obtain ⟨y13, e_y13, h⟩ := bind_some h
              refine Runs.idxO (e := 3) (e' := 3) (kk := .i64) (sz := 1) (eInt .i64) x5 x6 1 rfl kr kr kr kr kr kr kr e_y13 ?_
              refine Runs.storeT (e := 3) (sz := 1) (m := 1) (eInt .i64) x5 1 (Int.toNat x6) 0 y11 (.t (.int .i64 y11)) [.int .i64 y11] rfl kr kr kr kr kr kr kr kr (idx_some e_y13).2 kr kr ?_
              refine Runs.done ?_
              refine thenN ?_
              refine Wp.fg ⟨[(0, .own 1), (1, .clo 76 [.fadr (World.enc p1_0)]), (4, .nil), (5, .t (.int .i64 x6)), (6, .t (.int .i64 x7)), (7, .t (.int .i64 y11)), (16, .t (.int .i64 x7)), (17, .own 1), (18, .t (.int .i64 ((x5.length : Int)))), (19, .t (.bool (decide (x7 < ((x5.length : Int)))))), (22, .own 1), (23, .t (.int .i64 x7)), (24, .elem 1 1 (Int.toNat x7) 0), (25, .t (.int .i64 y11)), (26, .clo 76 [.fadr (World.enc p1_0)]), (27, .t (.int .i64 y11)), (28, .t (.bool r12)), (29, .t (.bool (!r12))), (30, .own 1), (31, .t (.int .i64 x6)), (32, .t (.int .i64 y11)), (33, .elem 1 1 (Int.toNat x6) 0)], [], [(1, .live 3 1 ((x5.set (Int.toNat x6) y11).map (eInt .i64)))]⟩ ?_
              refine Wp.rg [] [] ?_
              refine Runs.all kr ?_
              refine blkN ?_
              refine thenN ?_
              exact ⟨(x5.set (Int.toNat x6) y11, p1_0, bAdd .i64 x6 1, x7, y11, x5, r12), h, Le.of (mo := []) (mr := []) kr kr kr kr⟩
            · have h := cond_f h hc
              refine Wp.skip ?_
              refine blkN ?_
              refine thenN ?_
              exact ⟨(x5, p1_0, x6, x7, y11, x5, r12), h, Le.of (mo := []) (mr := []) kr kr kr kr⟩
        · have h := cond_f h hc
          refine Wp.exit ?_
          refine thenE ?_
          refine thenE ?_
          refine blkE ?_
          refine thenN ?_
          exact ⟨(x5, x6), h, Le.of (mo := []) (mr := []) kr kr kr kr⟩
theorem impl_LateIn_ok (u : Nat) (p0 : World) (r : (List Int)) (h : impl_LateIn u p0 = some r) : CallOK Tryz.prog 40 [.agg [.t (.int .i64 p0.fC.fSize), .t (.int .i64 p0.fC.fWindow), .t (.int .i64 p0.fC.fSuspect), .t (.int .i64 p0.fC.fForget), .t (.sl 1 (p0.fT.fUp.map (eInt .i64))), .t (.sl 1 (p0.fNew.map (eInt .u8))), .t (.sl 1 (p0.fOld.map Image.enc)), .t (.sl 12 (p0.fN.map Node.enc)), .t (.sl 6 (p0.fD.map Disk.enc)), .t (.sl 3 (p0.fNet.map Packet.enc)), .t (.sl 3 (p0.fLog.map Sent.enc)), .t (.int .i64 p0.fLost)]] (.one (.t (.sl 1 (r.map (eInt .i64))))) [] := by
  unfold impl_LateIn at h
  refine CallOK.of_bodyK (fn := Tryz.f40) (m := false) [.agg ((World.enc p0).map .t)] kr rfl kr kr kr kr kr ?_
  refine Wp.srg [] [] ?_
  refine Runs.alln ?_
  refine Wp.fg ⟨[(1, .obj 1 0), (2, .nil)], [(1, ((World.enc p0).map .t))], []⟩ ?_
  refine Wp.seq ?_
  refine Wp.le (Le.trans (Le.frzOb 1 (World.enc p0) kr kr) (Le.of (s := ⟨[(1, .fadr (World.enc p0)), (2, .nil)], [], []⟩) (mo := []) (mr := []) kr kr kr kr)) ?_
  refine Wp.rg [] [] ?_
  refine Runs.batch 1 kr ?_
  obtain ⟨r1, e_r1, h⟩ := bind_some h
  refine Runs.callK false 4 75 [] [.agg ((World.enc p0).map .t)] [.agg ((World.enc p0).map .t)] (.one (.ow 3 1 (r1.map (eInt .i64)))) [] rfl rfl kr kr kr kr kr (impl_UpIn_ok u p0 r1 e_r1) kr ?_
  refine Runs.batch 1 kr ?_
  obtain ⟨r2, e_r2, h⟩ := bind_some h
  refine Runs.callK true 6 74 [] [.own 262144, .clo 76 [.fadr (World.enc p0)]] [.one (.ow 3 1 (r1.map (eInt .i64))), .clo 76 [.fptr (World.enc p0)]] (.one (.t (.sl 1 (r2.map (eInt .i64))))) [] rfl rfl kr kr kr kr kr (slices_DeleteFunc___int_int__impl_LateIn_1_ok u r1 p0 r2 e_r2) kr ?_
  refine Runs.alln ?_
  refine Wp.fg ⟨[(2, .t (.sl 1 (r2.map (eInt .i64))))], [], []⟩ ?_
  refine Wp.ret ?_
  have hr := Option.some.inj h
  subst hr
  exact RetK [.t (.sl 1 (r2.map (eInt .i64)))] (.one (.t (.sl 1 (r2.map (eInt .i64))))) [] kr kr (.refl _) .nil
theorem impl_AllNew_ok (u : Nat) (p0 : World) (r : Bool) (h : impl_AllNew u p0 = some r) : CallOK Tryz.prog 11 [.agg [.t (.int .i64 p0.fC.fSize), .t (.int .i64 p0.fC.fWindow), .t (.int .i64 p0.fC.fSuspect), .t (.int .i64 p0.fC.fForget), .t (.sl 1 (p0.fT.fUp.map (eInt .i64))), .t (.sl 1 (p0.fNew.map (eInt .u8))), .t (.sl 1 (p0.fOld.map Image.enc)), .t (.sl 12 (p0.fN.map Node.enc)), .t (.sl 6 (p0.fD.map Disk.enc)), .t (.sl 3 (p0.fNet.map Packet.enc)), .t (.sl 3 (p0.fLog.map Sent.enc)), .t (.int .i64 p0.fLost)]] (.one (.t (.bool r))) [] := by
  unfold impl_AllNew at h
  refine CallOK.of_bodyK (fn := Tryz.f11) (m := false) [.agg ((World.enc p0).map .t)] kr rfl kr kr kr kr kr ?_
  refine Wp.srg [] [] ?_
  refine Runs.alln ?_
  refine Wp.fg ⟨[(1, .obj 1 0), (2, .t (.bool false))], [(1, ((World.enc p0).map .t))], []⟩ ?_
  refine Wp.srg [] [] ?_
  refine Runs.batch 1 kr ?_
  obtain ⟨r1, e_r1, h⟩ := bind_some h
  refine Runs.callK false 4 40 [] [.agg ((World.enc p0).map .t)] [.agg ((World.enc p0).map .t)] (.one (.t (.sl 1 (r1.map (eInt .i64))))) [] rfl rfl kr kr kr kr kr (impl_LateIn_ok u p0 r1 e_r1) kr ?_
  refine Runs.lenT (y := .t (.sl 1 (r1.map (eInt .i64)))) (e := 3) (eInt .i64) r1 1 rfl rfl rfl kr kr kr kr kr ?_
  refine Runs.alln ?_
  refine Wp.fg ⟨[(2, .t (.bool (((r1.length : Int)) == 0)))], [], []⟩ ?_
  refine Wp.ret ?_
  have hr := Option.some.inj h
  subst hr
  exact RetK [.t (.bool (((r1.length : Int)) == 0))] (.one (.t (.bool (((r1.length : Int)) == 0)))) [] kr kr (.refl _) .nil
theorem laws_eqConf_ok (u : Nat) (p0 : Conf) (p1 : Conf) (r : Bool) (h : laws_eqConf u p0 p1 = some r) : CallOK Tryz.prog 31 [.agg [.t (.int .i64 p0.fSize), .t (.int .i64 p0.fWindow), .t (.int .i64 p0.fSuspect), .t (.int .i64 p0.fForget)], .agg [.t (.int .i64 p1.fSize), .t (.int .i64 p1.fWindow), .t (.int .i64 p1.fSuspect), .t (.int .i64 p1.fForget)]] (.one (.t (.bool r))) [] := by
  unfold laws_eqConf at h
  refine CallOK.of_bodyK (fn := Tryz.f31) (m := false) [.agg ((Conf.enc p0).map .t), .agg ((Conf.enc p1).map .t)] kr rfl kr kr kr kr kr ?_
  refine Wp.srg [] [] ?_
  refine Runs.alln ?_
  refine Wp.fg ⟨[(2, .obj 2 0), (3, .obj 3 0), (4, .t (.bool false))], [(2, ((Conf.enc p0).map .t)), (3, ((Conf.enc p1).map .t))], []⟩ ?_
  refine Wp.seq ?_
  refine Wp.srg [] [] ?_
  refine Runs.alln ?_
  refine Wp.fg ⟨[(2, .obj 2 0), (3, .obj 3 0), (4, .t (.bool false)), (9, .t (.bool (p0.fSize != p1.fSize)))], [(2, ((Conf.enc p0).map .t)), (3, ((Conf.enc p1).map .t))], []⟩ ?_
  refine Wp.cond2 (b := p0.fSize != p1.fSize) kr (fun hc => ?_) (fun hc => ?_)
  · have h := cond_t h hc
    refine Wp.srg [] [] ?_
    refine Runs.alln ?_
    refine Wp.fg ⟨[(2, .obj 2 0), (3, .obj 3 0), (4, .t (.bool false))], [(2, ((Conf.enc p0).map .t)), (3, ((Conf.enc p1).map .t))], []⟩ ?_
    refine Wp.ret ?_
    refine thenR ?_
    have hr := Option.some.inj h
    subst hr
    exact RetK [.t (.bool false)] (.one (.t (.bool false))) [] kr kr (.refl _) .nil
  · have h := cond_f h hc
    refine Wp.skip ?_
    refine thenN ?_
    refine Wp.seq ?_
    refine Wp.srg [] [] ?_
    refine Runs.alln ?_
    refine Wp.fg ⟨[(2, .obj 2 0), (3, .obj 3 0), (4, .t (.bool false)), (14, .t (.bool (p0.fWindow != p1.fWindow)))], [(2, ((Conf.enc p0).map .t)), (3, ((Conf.enc p1).map .t))], []⟩ ?_
    refine Wp.cond2 (b := p0.fWindow != p1.fWindow) kr (fun hc => ?_) (fun hc => ?_)
    · have h := cond_t h hc
      refine Wp.srg [] [] ?_
      refine Runs.alln ?_
      refine Wp.fg ⟨[(2, .obj 2 0), (3, .obj 3 0), (4, .t (.bool false))], [(2, ((Conf.enc p0).map .t)), (3, ((Conf.enc p1).map .t))], []⟩ ?_
      refine Wp.ret ?_
      refine thenR ?_
      have hr := Option.some.inj h
      subst hr
      exact RetK [.t (.bool false)] (.one (.t (.bool false))) [] kr kr (.refl _) .nil
    · have h := cond_f h hc
      refine Wp.skip ?_
      refine thenN ?_
      refine Wp.seq ?_
      refine Wp.srg [] [] ?_
      refine Runs.alln ?_
      refine Wp.fg ⟨[(2, .obj 2 0), (3, .obj 3 0), (4, .t (.bool false)), (19, .t (.bool (p0.fSuspect != p1.fSuspect)))], [(2, ((Conf.enc p0).map .t)), (3, ((Conf.enc p1).map .t))], []⟩ ?_
      refine Wp.cond2 (b := p0.fSuspect != p1.fSuspect) kr (fun hc => ?_) (fun hc => ?_)
      · have h := cond_t h hc
        refine Wp.srg [] [] ?_
        refine Runs.alln ?_
        refine Wp.fg ⟨[(2, .obj 2 0), (3, .obj 3 0), (4, .t (.bool false))], [(2, ((Conf.enc p0).map .t)), (3, ((Conf.enc p1).map .t))], []⟩ ?_
        refine Wp.ret ?_
        refine thenR ?_
        have hr := Option.some.inj h
        subst hr
        exact RetK [.t (.bool false)] (.one (.t (.bool false))) [] kr kr (.refl _) .nil
      · have h := cond_f h hc
        refine Wp.skip ?_
        refine thenN ?_
        refine Wp.seq ?_
        refine Wp.srg [] [] ?_
        refine Runs.alln ?_
        refine Wp.fg ⟨[(4, .t (.bool false)), (24, .t (.bool (p0.fForget != p1.fForget)))], [], []⟩ ?_
        refine Wp.cond2 (b := p0.fForget != p1.fForget) kr (fun hc => ?_) (fun hc => ?_)
        · have h := cond_t h hc
          refine Wp.srg [] [] ?_
          refine Runs.alln ?_
          refine Wp.fg ⟨[(4, .t (.bool false))], [], []⟩ ?_
          refine Wp.ret ?_
          refine thenR ?_
          have hr := Option.some.inj h
          subst hr
          exact RetK [.t (.bool false)] (.one (.t (.bool false))) [] kr kr (.refl _) .nil
        · have h := cond_f h hc
          refine Wp.skip ?_
          refine thenN ?_
          refine Wp.srg [] [] ?_
          refine Runs.alln ?_
          refine Wp.fg ⟨[(4, .t (.bool true))], [], []⟩ ?_
          refine Wp.ret ?_
          have hr := Option.some.inj h
          subst hr
          exact RetK [.t (.bool true)] (.one (.t (.bool true))) [] kr kr (.refl _) .nil
theorem laws_eqIntS_ok (u : Nat) (p0 : List Int) (p1 : List Int) (r : Bool) (h : laws_eqIntS u p0 p1 = some r) : CallOK Tryz.prog 67 [.one (.t (.sl 1 (p0.map (eInt .i64)))), .one (.t (.sl 1 (p1.map (eInt .i64))))] (.one (.t (.bool r))) [] := by
  unfold laws_eqIntS at h
  refine CallOK.of_bodyK (fn := Tryz.f67) (m := false) [.t (.sl 1 (p0.map (eInt .i64))), .t (.sl 1 (p1.map (eInt .i64)))] kr rfl kr kr kr kr kr ?_
  refine Wp.srg [] [] ?_
  refine Runs.alln ?_
  refine Wp.fg ⟨[(0, .t (.sl 1 (p0.map (eInt .i64)))), (1, .t (.sl 1 (p1.map (eInt .i64)))), (4, .t (.bool false))], [], []⟩ ?_
  refine Wp.seq ?_
  refine Wp.srg [] [] ?_
  refine Runs.batch 1 kr ?_
  refine Runs.lenT (y := .t (.sl 1 (p0.map (eInt .i64)))) (e := 3) (eInt .i64) p0 1 rfl rfl rfl kr kr kr kr kr ?_
  refine Runs.batch 1 kr ?_
  refine Runs.lenT (y := .t (.sl 1 (p1.map (eInt .i64)))) (e := 3) (eInt .i64) p1 1 rfl rfl rfl kr kr kr kr kr ?_
  refine Runs.alln ?_
  refine Wp.fg ⟨[(0, .t (.sl 1 (p0.map (eInt .i64)))), (1, .t (.sl 1 (p1.map (eInt .i64)))), (4, .t (.bool false)), (10, .t (.bool (((p0.length : Int)) != ((p1.length : Int)))))], [], []⟩ ?_
  refine Wp.cond2 (b := ((p0.length : Int)) != ((p1.length : Int))) kr (fun hc => ?_) (fun hc => ?_)
  · have h := cond_t h hc
    refine Wp.srg [] [] ?_
    refine Runs.alln ?_
    refine Wp.fg ⟨[(0, .t (.sl 1 (p0.map (eInt .i64)))), (1, .t (.sl 1 (p1.map (eInt .i64)))), (4, .t (.bool false))], [], []⟩ ?_
    refine Wp.ret ?_
    refine thenR ?_
    have hr := Option.some.inj h
    subst hr
    exact RetK [.t (.bool false)] (.one (.t (.bool false))) [] kr kr (.refl _) .nil
  · have h := cond_f h hc
    refine Wp.skip ?_
    refine thenN ?_
    refine Wp.seqJ (α := Unit) (fun a => ⟨[(4, .t (.bool false))], [], []⟩) (fun a => laws_eqIntS_j1 u = some r) ?_ ?_
    · rintro ⟨⟩ h
      change laws_eqIntS_j1 u = some r at h
      unfold laws_eqIntS_j1 at h
      refine Wp.srg [] [] ?_
      refine Runs.alln ?_
      refine Wp.fg ⟨[(4, .t (.bool true))], [], []⟩ ?_
      refine Wp.ret ?_
      have hr := Option.some.inj h
      subst hr
      exact RetK [.t (.bool true)] (.one (.t (.bool true))) [] kr kr (.refl _) .nil
    · refine Wp.srg [] [] ?_
      refine Runs.alln ?_
      refine Wp.fg ⟨[(0, .t (.sl 1 (p0.map (eInt .i64)))), (1, .t (.sl 1 (p1.map (eInt .i64)))), (4, .t (.bool false)), (5, .t (.int .i64 0))], [], []⟩ ?_
      refine Wp.block ?_
      refine Wp.loopF (α := (List Int) × (List Int) × Int) (fun a => ⟨[(0, .t (.sl 1 (a.1.map (eInt .i64)))), (1, .t (.sl 1 (a.2.1.map (eInt .i64)))), (4, .t (.bool false)), (5, .t (.int .i64 a.2.2))], [], []⟩) (fun k_laws_eqIntS_l2 a => laws_eqIntS_l2 u k_laws_eqIntS_l2 a.1 a.2.1 a.2.2 = some r) ?_ ?_ u (p0, p1, 0) h (Le.of (mo := []) (mr := []) kr kr kr kr)
      · intro a h; unfold laws_eqIntS_l2 at h; cases h
      · rintro k_laws_eqIntS_l2 ⟨p0, p1, x2⟩ h
        change laws_eqIntS_l2 u (k_laws_eqIntS_l2 + 1) p0 p1 x2 = some r at h
        rw [laws_eqIntS_l2] at h
        refine Wp.seq ?_
        refine Wp.srg [] [] ?_
        refine Runs.batch 2 kr ?_
        refine Runs.lenT (y := .t (.sl 1 (p0.map (eInt .i64)))) (e := 3) (eInt .i64) p0 1 rfl rfl rfl kr kr kr kr kr ?_
        refine Runs.alln ?_
        refine Wp.fg ⟨[(0, .t (.sl 1 (p0.map (eInt .i64)))), (1, .t (.sl 1 (p1.map (eInt .i64)))), (4, .t (.bool false)), (5, .t (.int .i64 x2)), (11, .t (.int .i64 x2)), (12, .t (.sl 1 (p0.map (eInt .i64)))), (13, .t (.int .i64 ((p0.length : Int)))), (14, .t (.bool (decide (x2 < ((p0.length : Int))))))], [], []⟩ ?_
        refine Wp.cond2 (b := decide (x2 < ((p0.length : Int)))) kr (fun hc => ?_) (fun hc => ?_)
        · have h := cond_t h hc
          refine Wp.skip ?_
          refine thenN ?_
          refine Wp.seq ?_
          refine Wp.block ?_
          refine Wp.seq ?_
          refine Wp.regionA (pOf []) (rhoOf [(0, .frz), (1, .frz), (5, .frz), (17, .frz), (18, .frz), (19, .frz), (20, .frz), (21, .frz), (22, .frz), (23, .frz), (24, .frz)]) kr kr ?_
          refine Runs.batch 2 kr ?_
          obtain ⟨y4, e_y4, h⟩ := bind_some h
          refine Runs.idxT (e := 3) (kk := .i64) (sz := 1) (eInt .i64) p0 x2 rfl kr kr kr kr kr kr e_y4 ?_
          refine Runs.batch 3 kr ?_
          obtain ⟨y5, e_y5, h⟩ := bind_some h
          refine Runs.idxT (e := 3) (kk := .i64) (sz := 1) (eInt .i64) p1 x2 rfl kr kr kr kr kr kr e_y5 ?_
          refine Runs.alln ?_
          refine Wp.fg ⟨[(0, .t (.sl 1 (p0.map (eInt .i64)))), (1, .t (.sl 1 (p1.map (eInt .i64)))), (4, .t (.bool false)), (5, .t (.int .i64 x2)), (11, .t (.int .i64 x2)), (12, .t (.sl 1 (p0.map (eInt .i64)))), (13, .t (.int .i64 ((p0.length : Int)))), (14, .t (.bool (decide (x2 < ((p0.length : Int)))))), (17, .t (.sl 1 (p0.map (eInt .i64)))), (18, .t (.int .i64 x2)), (19, .fadr [.int .i64 y4]), (20, .t (.int .i64 y4)), (21, .t (.sl 1 (p1.map (eInt .i64)))), (22, .t (.int .i64 x2)), (23, .fadr [.int .i64 y5]), (24, .t (.int .i64 y5)), (25, .t (.bool (y4 != y5)))], [], []⟩ ?_
          refine Wp.cond2 (b := y4 != y5) kr (fun hc => ?_) (fun hc => ?_)
          · have h := cond_t h hc
            refine Wp.srg [] [] ?_
            refine Runs.alln ?_
            refine Wp.fg ⟨[(0, .t (.sl 1 (p0.map (eInt .i64)))), (1, .t (.sl 1 (p1.map (eInt .i64)))), (4, .t (.bool false)), (5, .t (.int .i64 x2)), (11, .t (.int .i64 x2)), (12, .t (.sl 1 (p0.map (eInt .i64)))), (13, .t (.int .i64 ((p0.length : Int)))), (14, .t (.bool (decide (x2 < ((p0.length : Int)))))), (17, .t (.sl 1 (p0.map (eInt .i64)))), (18, .t (.int .i64 x2)), (19, .fadr [.int .i64 y4]), (20, .t (.int .i64 y4)), (21, .t (.sl 1 (p1.map (eInt .i64)))), (22, .t (.int .i64 x2)), (23, .fadr [.int .i64 y5]), (24, .t (.int .i64 y5)), (25, .t (.bool (y4 != y5)))], [], []⟩ ?_
            refine Wp.ret ?_
            refine blkR ?_
            refine thenR ?_
            refine thenR ?_
            refine blkR ?_
            refine thenR ?_
            have hr := Option.some.inj h
            subst hr
            exact RetK [.t (.bool false)] (.one (.t (.bool false))) [] kr kr (.refl _) .nil
          · have h := cond_f h hc
            refine Wp.skip ?_
            refine blkN ?_
            refine thenN ?_
            refine Wp.rg [] [] ?_
            refine Runs.alln ?_
            exact ⟨(p0, p1, bAdd .i64 x2 1), h, Le.of (mo := []) (mr := []) kr kr kr kr⟩
        · have h := cond_f h hc
          refine Wp.exit ?_
          refine thenE ?_
          refine thenE ?_
          refine blkE ?_
          refine thenN ?_
          exact ⟨(), h, Le.of (mo := []) (mr := []) kr kr kr kr⟩
theorem laws_eqTree_ok (u : Nat) (p0 : Tree) (p1 : Tree) (r : Bool) (h : laws_eqTree u p0 p1 = some r) : CallOK Tryz.prog 32 [.agg [.t (.sl 1 (p0.fUp.map (eInt .i64)))], .agg [.t (.sl 1 (p1.fUp.map (eInt .i64)))]] (.one (.t (.bool r))) [] := by
  unfold laws_eqTree at h
  refine CallOK.of_bodyK (fn := Tryz.f32) (m := false) [.agg [.t (.sl 1 (p0.fUp.map (eInt .i64)))], .agg [.t (.sl 1 (p1.fUp.map (eInt .i64)))]] kr rfl kr kr kr kr kr ?_
  refine Wp.srg [] [] ?_
  refine Runs.alln ?_
  refine Wp.fg ⟨[(2, .obj 2 0), (3, .obj 3 0), (4, .t (.bool false))], [(2, [.t (.sl 1 (p0.fUp.map (eInt .i64)))]), (3, [.t (.sl 1 (p1.fUp.map (eInt .i64)))])], []⟩ ?_
  refine Wp.seq ?_
  refine Wp.srg [] [] ?_
  refine Runs.batch 4 kr ?_
  obtain ⟨r1, e_r1, h⟩ := bind_some h
  refine Runs.callK false 9 67 [] [.t (.sl 1 (p0.fUp.map (eInt .i64))), .t (.sl 1 (p1.fUp.map (eInt .i64)))] [.one (.t (.sl 1 (p0.fUp.map (eInt .i64)))), .one (.t (.sl 1 (p1.fUp.map (eInt .i64))))] (.one (.t (.bool r1))) [] rfl rfl kr kr kr kr kr (laws_eqIntS_ok u p0.fUp p1.fUp r1 e_r1) kr ?_
  refine Runs.alln ?_
  refine Wp.fg ⟨[(4, .t (.bool false)), (10, .t (.bool (!r1)))], [], []⟩ ?_
  refine Wp.cond2 (b := !r1) kr (fun hc => ?_) (fun hc => ?_)
  · have h := cond_t h hc
    refine Wp.srg [] [] ?_
    refine Runs.alln ?_
    refine Wp.fg ⟨[(4, .t (.bool false))], [], []⟩ ?_
    refine Wp.ret ?_
    refine thenR ?_
    have hr := Option.some.inj h
    subst hr
    exact RetK [.t (.bool false)] (.one (.t (.bool false))) [] kr kr (.refl _) .nil
  · have h := cond_f h hc
    refine Wp.skip ?_
    refine thenN ?_
    refine Wp.srg [] [] ?_
    refine Runs.alln ?_
    refine Wp.fg ⟨[(4, .t (.bool true))], [], []⟩ ?_
    refine Wp.ret ?_
    have hr := Option.some.inj h
    subst hr
    exact RetK [.t (.bool true)] (.one (.t (.bool true))) [] kr kr (.refl _) .nil
theorem laws_eqByteS_ok (u : Nat) (p0 : List Int) (p1 : List Int) (r : Bool) (h : laws_eqByteS u p0 p1 = some r) : CallOK Tryz.prog 33 [.one (.t (.sl 1 (p0.map (eInt .u8)))), .one (.t (.sl 1 (p1.map (eInt .u8))))] (.one (.t (.bool r))) [] := by
  unfold laws_eqByteS at h
  refine CallOK.of_bodyK (fn := Tryz.f33) (m := false) [.t (.sl 1 (p0.map (eInt .u8))), .t (.sl 1 (p1.map (eInt .u8)))] kr rfl kr kr kr kr kr ?_
  refine Wp.srg [] [] ?_
  refine Runs.alln ?_
  refine Wp.fg ⟨[(0, .t (.sl 1 (p0.map (eInt .u8)))), (1, .t (.sl 1 (p1.map (eInt .u8)))), (4, .t (.bool false))], [], []⟩ ?_
  refine Wp.seq ?_
  refine Wp.srg [] [] ?_
  refine Runs.batch 1 kr ?_
  refine Runs.lenT (y := .t (.sl 1 (p0.map (eInt .u8)))) (e := 5) (eInt .u8) p0 1 rfl rfl rfl kr kr kr kr kr ?_
  refine Runs.batch 1 kr ?_
  refine Runs.lenT (y := .t (.sl 1 (p1.map (eInt .u8)))) (e := 5) (eInt .u8) p1 1 rfl rfl rfl kr kr kr kr kr ?_
  refine Runs.alln ?_
  refine Wp.fg ⟨[(0, .t (.sl 1 (p0.map (eInt .u8)))), (1, .t (.sl 1 (p1.map (eInt .u8)))), (4, .t (.bool false)), (10, .t (.bool (((p0.length : Int)) != ((p1.length : Int)))))], [], []⟩ ?_
  refine Wp.cond2 (b := ((p0.length : Int)) != ((p1.length : Int))) kr (fun hc => ?_) (fun hc => ?_)
  · have h := cond_t h hc
    refine Wp.srg [] [] ?_
    refine Runs.alln ?_
    refine Wp.fg ⟨[(0, .t (.sl 1 (p0.map (eInt .u8)))), (1, .t (.sl 1 (p1.map (eInt .u8)))), (4, .t (.bool false))], [], []⟩ ?_
    refine Wp.ret ?_
    refine thenR ?_
    have hr := Option.some.inj h
    subst hr
    exact RetK [.t (.bool false)] (.one (.t (.bool false))) [] kr kr (.refl _) .nil
  · have h := cond_f h hc
    refine Wp.skip ?_
    refine thenN ?_
    refine Wp.seqJ (α := Unit) (fun a => ⟨[(4, .t (.bool false))], [], []⟩) (fun a => laws_eqByteS_j1 u = some r) ?_ ?_
    · rintro ⟨⟩ h
      change laws_eqByteS_j1 u = some r at h
      unfold laws_eqByteS_j1 at h
      refine Wp.srg [] [] ?_
      refine Runs.alln ?_
      refine Wp.fg ⟨[(4, .t (.bool true))], [], []⟩ ?_
      refine Wp.ret ?_
      have hr := Option.some.inj h
      subst hr
      exact RetK [.t (.bool true)] (.one (.t (.bool true))) [] kr kr (.refl _) .nil
    · refine Wp.srg [] [] ?_
      refine Runs.alln ?_
      refine Wp.fg ⟨[(0, .t (.sl 1 (p0.map (eInt .u8)))), (1, .t (.sl 1 (p1.map (eInt .u8)))), (4, .t (.bool false)), (5, .t (.int .i64 0))], [], []⟩ ?_
      refine Wp.block ?_
      refine Wp.loopF (α := (List Int) × (List Int) × Int) (fun a => ⟨[(0, .t (.sl 1 (a.1.map (eInt .u8)))), (1, .t (.sl 1 (a.2.1.map (eInt .u8)))), (4, .t (.bool false)), (5, .t (.int .i64 a.2.2))], [], []⟩) (fun k_laws_eqByteS_l2 a => laws_eqByteS_l2 u k_laws_eqByteS_l2 a.1 a.2.1 a.2.2 = some r) ?_ ?_ u (p0, p1, 0) h (Le.of (mo := []) (mr := []) kr kr kr kr)
      · intro a h; unfold laws_eqByteS_l2 at h; cases h
      · rintro k_laws_eqByteS_l2 ⟨p0, p1, x2⟩ h
        change laws_eqByteS_l2 u (k_laws_eqByteS_l2 + 1) p0 p1 x2 = some r at h
        rw [laws_eqByteS_l2] at h
        refine Wp.seq ?_
        refine Wp.srg [] [] ?_
        refine Runs.batch 2 kr ?_
        refine Runs.lenT (y := .t (.sl 1 (p0.map (eInt .u8)))) (e := 5) (eInt .u8) p0 1 rfl rfl rfl kr kr kr kr kr ?_
        refine Runs.alln ?_
        refine Wp.fg ⟨[(0, .t (.sl 1 (p0.map (eInt .u8)))), (1, .t (.sl 1 (p1.map (eInt .u8)))), (4, .t (.bool false)), (5, .t (.int .i64 x2)), (11, .t (.int .i64 x2)), (12, .t (.sl 1 (p0.map (eInt .u8)))), (13, .t (.int .i64 ((p0.length : Int)))), (14, .t (.bool (decide (x2 < ((p0.length : Int))))))], [], []⟩ ?_
        refine Wp.cond2 (b := decide (x2 < ((p0.length : Int)))) kr (fun hc => ?_) (fun hc => ?_)
        · have h := cond_t h hc
          refine Wp.skip ?_
          refine thenN ?_
          refine Wp.seq ?_
          refine Wp.block ?_
          refine Wp.seq ?_
          refine Wp.regionA (pOf []) (rhoOf [(0, .frz), (1, .frz), (5, .frz), (17, .frz), (18, .frz), (19, .frz), (20, .frz), (21, .frz), (22, .frz), (23, .frz), (24, .frz)]) kr kr ?_
          refine Runs.batch 2 kr ?_
          obtain ⟨y4, e_y4, h⟩ := bind_some h
          refine Runs.idxT (e := 5) (kk := .i64) (sz := 1) (eInt .u8) p0 x2 rfl kr kr kr kr kr kr e_y4 ?_
          refine Runs.batch 3 kr ?_
          obtain ⟨y5, e_y5, h⟩ := bind_some h
          refine Runs.idxT (e := 5) (kk := .i64) (sz := 1) (eInt .u8) p1 x2 rfl kr kr kr kr kr kr e_y5 ?_
          refine Runs.alln ?_
          refine Wp.fg ⟨[(0, .t (.sl 1 (p0.map (eInt .u8)))), (1, .t (.sl 1 (p1.map (eInt .u8)))), (4, .t (.bool false)), (5, .t (.int .i64 x2)), (11, .t (.int .i64 x2)), (12, .t (.sl 1 (p0.map (eInt .u8)))), (13, .t (.int .i64 ((p0.length : Int)))), (14, .t (.bool (decide (x2 < ((p0.length : Int)))))), (17, .t (.sl 1 (p0.map (eInt .u8)))), (18, .t (.int .i64 x2)), (19, .fadr [.int .u8 y4]), (20, .t (.int .u8 y4)), (21, .t (.sl 1 (p1.map (eInt .u8)))), (22, .t (.int .i64 x2)), (23, .fadr [.int .u8 y5]), (24, .t (.int .u8 y5)), (25, .t (.bool (y4 != y5)))], [], []⟩ ?_
          refine Wp.cond2 (b := y4 != y5) kr (fun hc => ?_) (fun hc => ?_)
          · have h := cond_t h hc
            refine Wp.srg [] [] ?_
            refine Runs.alln ?_
            refine Wp.fg ⟨[(0, .t (.sl 1 (p0.map (eInt .u8)))), (1, .t (.sl 1 (p1.map (eInt .u8)))), (4, .t (.bool false)), (5, .t (.int .i64 x2)), (11, .t (.int .i64 x2)), (12, .t (.sl 1 (p0.map (eInt .u8)))), (13, .t (.int .i64 ((p0.length : Int)))), (14, .t (.bool (decide (x2 < ((p0.length : Int)))))), (17, .t (.sl 1 (p0.map (eInt .u8)))), (18, .t (.int .i64 x2)), (19, .fadr [.int .u8 y4]), (20, .t (.int .u8 y4)), (21, .t (.sl 1 (p1.map (eInt .u8)))), (22, .t (.int .i64 x2)), (23, .fadr [.int .u8 y5]), (24, .t (.int .u8 y5)), (25, .t (.bool (y4 != y5)))], [], []⟩ ?_
            refine Wp.ret ?_
            refine blkR ?_
            refine thenR ?_
            refine thenR ?_
            refine blkR ?_
            refine thenR ?_
            have hr := Option.some.inj h
            subst hr
            exact RetK [.t (.bool false)] (.one (.t (.bool false))) [] kr kr (.refl _) .nil
          · have h := cond_f h hc
            refine Wp.skip ?_
            refine blkN ?_
            refine thenN ?_
            refine Wp.rg [] [] ?_
            refine Runs.alln ?_
            exact ⟨(p0, p1, bAdd .i64 x2 1), h, Le.of (mo := []) (mr := []) kr kr kr kr⟩
        · have h := cond_f h hc
          refine Wp.exit ?_
          refine thenE ?_
          refine thenE ?_
          refine blkE ?_
          refine thenN ?_
          exact ⟨(), h, Le.of (mo := []) (mr := []) kr kr kr kr⟩
theorem laws_eqImage_ok (u : Nat) (p0 : Image) (p1 : Image) (r : Bool) (h : laws_eqImage u p0 p1 = some r) : CallOK Tryz.prog 68 [.agg [.t (.sl 1 (p0.fB.map (eInt .u8)))], .agg [.t (.sl 1 (p1.fB.map (eInt .u8)))]] (.one (.t (.bool r))) [] := by
  unfold laws_eqImage at h
  refine CallOK.of_bodyK (fn := Tryz.f68) (m := false) [.agg [.t (.sl 1 (p0.fB.map (eInt .u8)))], .agg [.t (.sl 1 (p1.fB.map (eInt .u8)))]] kr rfl kr kr kr kr kr ?_
  refine Wp.srg [] [] ?_
  refine Runs.alln ?_
  refine Wp.fg ⟨[(2, .obj 2 0), (3, .obj 3 0), (4, .t (.bool false))], [(2, [.t (.sl 1 (p0.fB.map (eInt .u8)))]), (3, [.t (.sl 1 (p1.fB.map (eInt .u8)))])], []⟩ ?_
  refine Wp.seq ?_
  refine Wp.srg [] [] ?_
  refine Runs.batch 4 kr ?_
  obtain ⟨r1, e_r1, h⟩ := bind_some h
  refine Runs.callK false 9 33 [] [.t (.sl 1 (p0.fB.map (eInt .u8))), .t (.sl 1 (p1.fB.map (eInt .u8)))] [.one (.t (.sl 1 (p0.fB.map (eInt .u8)))), .one (.t (.sl 1 (p1.fB.map (eInt .u8))))] (.one (.t (.bool r1))) [] rfl rfl kr kr kr kr kr (laws_eqByteS_ok u p0.fB p1.fB r1 e_r1) kr ?_
  refine Runs.alln ?_
  refine Wp.fg ⟨[(4, .t (.bool false)), (10, .t (.bool (!r1)))], [], []⟩ ?_
  refine Wp.cond2 (b := !r1) kr (fun hc => ?_) (fun hc => ?_)
  · have h := cond_t h hc
    refine Wp.srg [] [] ?_
    refine Runs.alln ?_
    refine Wp.fg ⟨[(4, .t (.bool false))], [], []⟩ ?_
    refine Wp.ret ?_
    refine thenR ?_
    have hr := Option.some.inj h
    subst hr
    exact RetK [.t (.bool false)] (.one (.t (.bool false))) [] kr kr (.refl _) .nil
  · have h := cond_f h hc
    refine Wp.skip ?_
    refine thenN ?_
    refine Wp.srg [] [] ?_
    refine Runs.alln ?_
    refine Wp.fg ⟨[(4, .t (.bool true))], [], []⟩ ?_
    refine Wp.ret ?_
    have hr := Option.some.inj h
    subst hr
    exact RetK [.t (.bool true)] (.one (.t (.bool true))) [] kr kr (.refl _) .nil
theorem laws_eqImageS_ok (u : Nat) (p0 : List Image) (p1 : List Image) (r : Bool) (h : laws_eqImageS u p0 p1 = some r) : CallOK Tryz.prog 34 [.one (.t (.sl 1 (p0.map Image.enc))), .one (.t (.sl 1 (p1.map Image.enc)))] (.one (.t (.bool r))) [] := by
  unfold laws_eqImageS at h
  refine CallOK.of_bodyK (fn := Tryz.f34) (m := false) [.t (.sl 1 (p0.map Image.enc)), .t (.sl 1 (p1.map Image.enc))] kr rfl kr kr kr kr kr ?_
  refine Wp.srg [] [] ?_
  refine Runs.alln ?_
  refine Wp.fg ⟨[(0, .t (.sl 1 (p0.map Image.enc))), (1, .t (.sl 1 (p1.map Image.enc))), (4, .t (.bool false))], [], []⟩ ?_
  refine Wp.seq ?_
  refine Wp.srg [] [] ?_
  refine Runs.batch 1 kr ?_
  refine Runs.lenT (y := .t (.sl 1 (p0.map Image.enc))) (e := 105) Image.enc p0 1 rfl rfl rfl kr kr kr kr kr ?_
  refine Runs.batch 1 kr ?_
  refine Runs.lenT (y := .t (.sl 1 (p1.map Image.enc))) (e := 105) Image.enc p1 1 rfl rfl rfl kr kr kr kr kr ?_
  refine Runs.alln ?_
  refine Wp.fg ⟨[(0, .t (.sl 1 (p0.map Image.enc))), (1, .t (.sl 1 (p1.map Image.enc))), (4, .t (.bool false)), (10, .t (.bool (((p0.length : Int)) != ((p1.length : Int)))))], [], []⟩ ?_
  refine Wp.cond2 (b := ((p0.length : Int)) != ((p1.length : Int))) kr (fun hc => ?_) (fun hc => ?_)
  · have h := cond_t h hc
    refine Wp.srg [] [] ?_
    refine Runs.alln ?_
    refine Wp.fg ⟨[(0, .t (.sl 1 (p0.map Image.enc))), (1, .t (.sl 1 (p1.map Image.enc))), (4, .t (.bool false))], [], []⟩ ?_
    refine Wp.ret ?_
    refine thenR ?_
    have hr := Option.some.inj h
    subst hr
    exact RetK [.t (.bool false)] (.one (.t (.bool false))) [] kr kr (.refl _) .nil
  · have h := cond_f h hc
    refine Wp.skip ?_
    refine thenN ?_
    refine Wp.seqJ (α := Unit) (fun a => ⟨[(4, .t (.bool false))], [], []⟩) (fun a => laws_eqImageS_j1 u = some r) ?_ ?_
    · rintro ⟨⟩ h
      change laws_eqImageS_j1 u = some r at h
      unfold laws_eqImageS_j1 at h
      refine Wp.srg [] [] ?_
      refine Runs.alln ?_
      refine Wp.fg ⟨[(4, .t (.bool true))], [], []⟩ ?_
      refine Wp.ret ?_
      have hr := Option.some.inj h
      subst hr
      exact RetK [.t (.bool true)] (.one (.t (.bool true))) [] kr kr (.refl _) .nil
    · refine Wp.srg [] [] ?_
      refine Runs.alln ?_
      refine Wp.fg ⟨[(0, .t (.sl 1 (p0.map Image.enc))), (1, .t (.sl 1 (p1.map Image.enc))), (4, .t (.bool false)), (5, .t (.int .i64 0))], [], []⟩ ?_
      refine Wp.block ?_
      refine Wp.loopF (α := (List Image) × (List Image) × Int) (fun a => ⟨[(0, .t (.sl 1 (a.1.map Image.enc))), (1, .t (.sl 1 (a.2.1.map Image.enc))), (4, .t (.bool false)), (5, .t (.int .i64 a.2.2))], [], []⟩) (fun k_laws_eqImageS_l2 a => laws_eqImageS_l2 u k_laws_eqImageS_l2 a.1 a.2.1 a.2.2 = some r) ?_ ?_ u (p0, p1, 0) h (Le.of (mo := []) (mr := []) kr kr kr kr)
      · intro a h; unfold laws_eqImageS_l2 at h; cases h
      · rintro k_laws_eqImageS_l2 ⟨p0, p1, x2⟩ h
        change laws_eqImageS_l2 u (k_laws_eqImageS_l2 + 1) p0 p1 x2 = some r at h
        rw [laws_eqImageS_l2] at h
        refine Wp.seq ?_
        refine Wp.srg [] [] ?_
        refine Runs.batch 2 kr ?_
        refine Runs.lenT (y := .t (.sl 1 (p0.map Image.enc))) (e := 105) Image.enc p0 1 rfl rfl rfl kr kr kr kr kr ?_
        refine Runs.alln ?_
        refine Wp.fg ⟨[(0, .t (.sl 1 (p0.map Image.enc))), (1, .t (.sl 1 (p1.map Image.enc))), (4, .t (.bool false)), (5, .t (.int .i64 x2)), (11, .t (.int .i64 x2)), (12, .t (.sl 1 (p0.map Image.enc))), (13, .t (.int .i64 ((p0.length : Int)))), (14, .t (.bool (decide (x2 < ((p0.length : Int))))))], [], []⟩ ?_
        refine Wp.cond2 (b := decide (x2 < ((p0.length : Int)))) kr (fun hc => ?_) (fun hc => ?_)
        · have h := cond_t h hc
          refine Wp.skip ?_
          refine thenN ?_
          refine Wp.seq ?_
          refine Wp.block ?_
          refine Wp.seq ?_
          refine Wp.regionA (pOf []) (rhoOf [(0, .frz), (1, .frz), (5, .frz), (17, .frz), (18, .frz), (19, .frz), (20, .frz), (21, .frz), (22, .frz), (23, .frz), (24, .frz), (25, .frz)]) kr kr ?_
          refine Runs.batch 2 kr ?_
          obtain ⟨y4, e_y4, h⟩ := bind_some h
          refine Runs.idxT (e := 105) (kk := .i64) (sz := 1) Image.enc p0 x2 rfl kr kr kr kr kr kr e_y4 ?_
          refine Runs.batch 3 kr ?_
          obtain ⟨y5, e_y5, h⟩ := bind_some h
          refine Runs.idxT (e := 105) (kk := .i64) (sz := 1) Image.enc p1 x2 rfl kr kr kr kr kr kr e_y5 ?_
          refine Runs.batch 1 kr ?_
          obtain ⟨r6, e_r6, h⟩ := bind_some h
          refine Runs.callK false 25 68 [] [.agg [.t (.sl 1 (y4.fB.map (eInt .u8)))], .agg [.t (.sl 1 (y5.fB.map (eInt .u8)))]] [.agg [.t (.sl 1 (y4.fB.map (eInt .u8)))], .agg [.t (.sl 1 (y5.fB.map (eInt .u8)))]] (.one (.t (.bool r6))) [] rfl rfl kr kr kr kr kr (laws_eqImage_ok u y4 y5 r6 e_r6) kr ?_
          refine Runs.alln ?_
          refine Wp.fg ⟨[(0, .t (.sl 1 (p0.map Image.enc))), (1, .t (.sl 1 (p1.map Image.enc))), (4, .t (.bool false)), (5, .t (.int .i64 x2)), (11, .t (.int .i64 x2)), (12, .t (.sl 1 (p0.map Image.enc))), (13, .t (.int .i64 ((p0.length : Int)))), (14, .t (.bool (decide (x2 < ((p0.length : Int)))))), (17, .t (.sl 1 (p0.map Image.enc))), (18, .t (.int .i64 x2)), (19, .fadr [.sl 1 (y4.fB.map (eInt .u8))]), (20, .agg [.t (.sl 1 (y4.fB.map (eInt .u8)))]), (21, .t (.sl 1 (p1.map Image.enc))), (22, .t (.int .i64 x2)), (23, .fadr [.sl 1 (y5.fB.map (eInt .u8))]), (24, .agg [.t (.sl 1 (y5.fB.map (eInt .u8)))]), (25, .t (.bool r6)), (26, .t (.bool (!r6)))], [], []⟩ ?_
          refine Wp.cond2 (b := !r6) kr (fun hc => ?_) (fun hc => ?_)
          · have h := cond_t h hc
            refine Wp.srg [] [] ?_
            refine Runs.alln ?_
            refine Wp.fg ⟨[(0, .t (.sl 1 (p0.map Image.enc))), (1, .t (.sl 1 (p1.map Image.enc))), (4, .t (.bool false)), (5, .t (.int .i64 x2)), (11, .t (.int .i64 x2)), (12, .t (.sl 1 (p0.map Image.enc))), (13, .t (.int .i64 ((p0.length : Int)))), (14, .t (.bool (decide (x2 < ((p0.length : Int)))))), (17, .t (.sl 1 (p0.map Image.enc))), (18, .t (.int .i64 x2)), (19, .fadr [.sl 1 (y4.fB.map (eInt .u8))]), (20, .agg [.t (.sl 1 (y4.fB.map (eInt .u8)))]), (21, .t (.sl 1 (p1.map Image.enc))), (22, .t (.int .i64 x2)), (23, .fadr [.sl 1 (y5.fB.map (eInt .u8))]), (24, .agg [.t (.sl 1 (y5.fB.map (eInt .u8)))]), (25, .t (.bool r6)), (26, .t (.bool (!r6)))], [], []⟩ ?_
            refine Wp.ret ?_
            refine blkR ?_
            refine thenR ?_
            refine thenR ?_
            refine blkR ?_
            refine thenR ?_
            have hr := Option.some.inj h
            subst hr
            exact RetK [.t (.bool false)] (.one (.t (.bool false))) [] kr kr (.refl _) .nil
          · have h := cond_f h hc
            refine Wp.skip ?_
            refine blkN ?_
            refine thenN ?_
            refine Wp.rg [] [] ?_
            refine Runs.alln ?_
            exact ⟨(p0, p1, bAdd .i64 x2 1), h, Le.of (mo := []) (mr := []) kr kr kr kr⟩
        · have h := cond_f h hc
          refine Wp.exit ?_
          refine thenE ?_
          refine thenE ?_
          refine blkE ?_
          refine thenN ?_
          exact ⟨(), h, Le.of (mo := []) (mr := []) kr kr kr kr⟩
theorem laws_eqSum_ok (u : Nat) (p0 : Sum) (p1 : Sum) (r : Bool) (h : laws_eqSum u p0 p1 = some r) : CallOK Tryz.prog 118 [.agg [.t (.int .i64 p0.fW), .t (.int .i64 p0.fS)], .agg [.t (.int .i64 p1.fW), .t (.int .i64 p1.fS)]] (.one (.t (.bool r))) [] := by
  unfold laws_eqSum at h
  refine CallOK.of_bodyK (fn := Tryz.f118) (m := false) [.agg [.t (.int .i64 p0.fW), .t (.int .i64 p0.fS)], .agg [.t (.int .i64 p1.fW), .t (.int .i64 p1.fS)]] kr rfl kr kr kr kr kr ?_
  refine Wp.srg [] [] ?_
  refine Runs.alln ?_
  refine Wp.fg ⟨[(2, .obj 2 0), (3, .obj 3 0), (4, .t (.bool false))], [(2, [.t (.int .i64 p0.fW), .t (.int .i64 p0.fS)]), (3, [.t (.int .i64 p1.fW), .t (.int .i64 p1.fS)])], []⟩ ?_
  refine Wp.seq ?_
  refine Wp.srg [] [] ?_
  refine Runs.alln ?_
  refine Wp.fg ⟨[(2, .obj 2 0), (3, .obj 3 0), (4, .t (.bool false)), (9, .t (.bool (p0.fW != p1.fW)))], [(2, [.t (.int .i64 p0.fW), .t (.int .i64 p0.fS)]), (3, [.t (.int .i64 p1.fW), .t (.int .i64 p1.fS)])], []⟩ ?_
  refine Wp.cond2 (b := p0.fW != p1.fW) kr (fun hc => ?_) (fun hc => ?_)
  · have h := cond_t h hc
    refine Wp.srg [] [] ?_
    refine Runs.alln ?_
    refine Wp.fg ⟨[(2, .obj 2 0), (3, .obj 3 0), (4, .t (.bool false))], [(2, [.t (.int .i64 p0.fW), .t (.int .i64 p0.fS)]), (3, [.t (.int .i64 p1.fW), .t (.int .i64 p1.fS)])], []⟩ ?_
    refine Wp.ret ?_
    refine thenR ?_
    have hr := Option.some.inj h
    subst hr
    exact RetK [.t (.bool false)] (.one (.t (.bool false))) [] kr kr (.refl _) .nil
  · have h := cond_f h hc
    refine Wp.skip ?_
    refine thenN ?_
    refine Wp.seq ?_
    refine Wp.srg [] [] ?_
    refine Runs.alln ?_
    refine Wp.fg ⟨[(4, .t (.bool false)), (14, .t (.bool (p0.fS != p1.fS)))], [], []⟩ ?_
    refine Wp.cond2 (b := p0.fS != p1.fS) kr (fun hc => ?_) (fun hc => ?_)
    · have h := cond_t h hc
      refine Wp.srg [] [] ?_
      refine Runs.alln ?_
      refine Wp.fg ⟨[(4, .t (.bool false))], [], []⟩ ?_
      refine Wp.ret ?_
      refine thenR ?_
      have hr := Option.some.inj h
      subst hr
      exact RetK [.t (.bool false)] (.one (.t (.bool false))) [] kr kr (.refl _) .nil
    · have h := cond_f h hc
      refine Wp.skip ?_
      refine thenN ?_
      refine Wp.srg [] [] ?_
      refine Runs.alln ?_
      refine Wp.fg ⟨[(4, .t (.bool true))], [], []⟩ ?_
      refine Wp.ret ?_
      have hr := Option.some.inj h
      subst hr
      exact RetK [.t (.bool true)] (.one (.t (.bool true))) [] kr kr (.refl _) .nil
theorem laws_eqSumS_ok (u : Nat) (p0 : List Sum) (p1 : List Sum) (r : Bool) (h : laws_eqSumS u p0 p1 = some r) : CallOK Tryz.prog 112 [.one (.t (.sl 2 (p0.map Sum.enc))), .one (.t (.sl 2 (p1.map Sum.enc)))] (.one (.t (.bool r))) [] := by
  unfold laws_eqSumS at h
  refine CallOK.of_bodyK (fn := Tryz.f112) (m := false) [.t (.sl 2 (p0.map Sum.enc)), .t (.sl 2 (p1.map Sum.enc))] kr rfl kr kr kr kr kr ?_
  refine Wp.srg [] [] ?_
  refine Runs.alln ?_
  refine Wp.fg ⟨[(0, .t (.sl 2 (p0.map Sum.enc))), (1, .t (.sl 2 (p1.map Sum.enc))), (4, .t (.bool false))], [], []⟩ ?_
  refine Wp.seq ?_
  refine Wp.srg [] [] ?_
  refine Runs.batch 1 kr ?_
  refine Runs.lenT (y := .t (.sl 2 (p0.map Sum.enc))) (e := 150) Sum.enc p0 2 rfl rfl rfl kr kr kr kr kr ?_
  refine Runs.batch 1 kr ?_
  refine Runs.lenT (y := .t (.sl 2 (p1.map Sum.enc))) (e := 150) Sum.enc p1 2 rfl rfl rfl kr kr kr kr kr ?_
  refine Runs.alln ?_
  refine Wp.fg ⟨[(0, .t (.sl 2 (p0.map Sum.enc))), (1, .t (.sl 2 (p1.map Sum.enc))), (4, .t (.bool false)), (10, .t (.bool (((p0.length : Int)) != ((p1.length : Int)))))], [], []⟩ ?_
  refine Wp.cond2 (b := ((p0.length : Int)) != ((p1.length : Int))) kr (fun hc => ?_) (fun hc => ?_)
  · have h := cond_t h hc
    refine Wp.srg [] [] ?_
    refine Runs.alln ?_
    refine Wp.fg ⟨[(0, .t (.sl 2 (p0.map Sum.enc))), (1, .t (.sl 2 (p1.map Sum.enc))), (4, .t (.bool false))], [], []⟩ ?_
    refine Wp.ret ?_
    refine thenR ?_
    have hr := Option.some.inj h
    subst hr
    exact RetK [.t (.bool false)] (.one (.t (.bool false))) [] kr kr (.refl _) .nil
  · have h := cond_f h hc
    refine Wp.skip ?_
    refine thenN ?_
    refine Wp.seqJ (α := Unit) (fun a => ⟨[(4, .t (.bool false))], [], []⟩) (fun a => laws_eqSumS_j1 u = some r) ?_ ?_
    · rintro ⟨⟩ h
      change laws_eqSumS_j1 u = some r at h
      unfold laws_eqSumS_j1 at h
      refine Wp.srg [] [] ?_
      refine Runs.alln ?_
      refine Wp.fg ⟨[(4, .t (.bool true))], [], []⟩ ?_
      refine Wp.ret ?_
      have hr := Option.some.inj h
      subst hr
      exact RetK [.t (.bool true)] (.one (.t (.bool true))) [] kr kr (.refl _) .nil
    · refine Wp.srg [] [] ?_
      refine Runs.alln ?_
      refine Wp.fg ⟨[(0, .t (.sl 2 (p0.map Sum.enc))), (1, .t (.sl 2 (p1.map Sum.enc))), (4, .t (.bool false)), (5, .t (.int .i64 0))], [], []⟩ ?_
      refine Wp.block ?_
      refine Wp.loopF (α := (List Sum) × (List Sum) × Int) (fun a => ⟨[(0, .t (.sl 2 (a.1.map Sum.enc))), (1, .t (.sl 2 (a.2.1.map Sum.enc))), (4, .t (.bool false)), (5, .t (.int .i64 a.2.2))], [], []⟩) (fun k_laws_eqSumS_l2 a => laws_eqSumS_l2 u k_laws_eqSumS_l2 a.1 a.2.1 a.2.2 = some r) ?_ ?_ u (p0, p1, 0) h (Le.of (mo := []) (mr := []) kr kr kr kr)
      · intro a h; unfold laws_eqSumS_l2 at h; cases h
      · rintro k_laws_eqSumS_l2 ⟨p0, p1, x2⟩ h
        change laws_eqSumS_l2 u (k_laws_eqSumS_l2 + 1) p0 p1 x2 = some r at h
        rw [laws_eqSumS_l2] at h
        refine Wp.seq ?_
        refine Wp.srg [] [] ?_
        refine Runs.batch 2 kr ?_
        refine Runs.lenT (y := .t (.sl 2 (p0.map Sum.enc))) (e := 150) Sum.enc p0 2 rfl rfl rfl kr kr kr kr kr ?_
        refine Runs.alln ?_
        refine Wp.fg ⟨[(0, .t (.sl 2 (p0.map Sum.enc))), (1, .t (.sl 2 (p1.map Sum.enc))), (4, .t (.bool false)), (5, .t (.int .i64 x2)), (11, .t (.int .i64 x2)), (12, .t (.sl 2 (p0.map Sum.enc))), (13, .t (.int .i64 ((p0.length : Int)))), (14, .t (.bool (decide (x2 < ((p0.length : Int))))))], [], []⟩ ?_
        refine Wp.cond2 (b := decide (x2 < ((p0.length : Int)))) kr (fun hc => ?_) (fun hc => ?_)
        · have h := cond_t h hc
          refine Wp.skip ?_
          refine thenN ?_
          refine Wp.seq ?_
          refine Wp.block ?_
          refine Wp.seq ?_
          refine Wp.regionA (pOf []) (rhoOf [(0, .frz), (1, .frz), (5, .frz), (17, .frz), (18, .frz), (19, .frz), (20, .frz), (21, .frz), (22, .frz), (23, .frz), (24, .frz), (25, .frz)]) kr kr ?_
          refine Runs.batch 2 kr ?_
          obtain ⟨y4, e_y4, h⟩ := bind_some h
          refine Runs.idxT (e := 150) (kk := .i64) (sz := 2) Sum.enc p0 x2 rfl kr kr kr kr kr kr e_y4 ?_
          refine Runs.batch 3 kr ?_
          obtain ⟨y5, e_y5, h⟩ := bind_some h
          refine Runs.idxT (e := 150) (kk := .i64) (sz := 2) Sum.enc p1 x2 rfl kr kr kr kr kr kr e_y5 ?_
          refine Runs.batch 1 kr ?_
          obtain ⟨r6, e_r6, h⟩ := bind_some h
          refine Runs.callK false 25 118 [] [.agg [.t (.int .i64 y4.fW), .t (.int .i64 y4.fS)], .agg [.t (.int .i64 y5.fW), .t (.int .i64 y5.fS)]] [.agg [.t (.int .i64 y4.fW), .t (.int .i64 y4.fS)], .agg [.t (.int .i64 y5.fW), .t (.int .i64 y5.fS)]] (.one (.t (.bool r6))) [] rfl rfl kr kr kr kr kr (laws_eqSum_ok u y4 y5 r6 e_r6) kr ?_
          refine Runs.alln ?_
          refine Wp.fg ⟨[(0, .t (.sl 2 (p0.map Sum.enc))), (1, .t (.sl 2 (p1.map Sum.enc))), (4, .t (.bool false)), (5, .t (.int .i64 x2)), (11, .t (.int .i64 x2)), (12, .t (.sl 2 (p0.map Sum.enc))), (13, .t (.int .i64 ((p0.length : Int)))), (14, .t (.bool (decide (x2 < ((p0.length : Int)))))), (17, .t (.sl 2 (p0.map Sum.enc))), (18, .t (.int .i64 x2)), (19, .fadr [.int .i64 y4.fW, .int .i64 y4.fS]), (20, .agg [.t (.int .i64 y4.fW), .t (.int .i64 y4.fS)]), (21, .t (.sl 2 (p1.map Sum.enc))), (22, .t (.int .i64 x2)), (23, .fadr [.int .i64 y5.fW, .int .i64 y5.fS]), (24, .agg [.t (.int .i64 y5.fW), .t (.int .i64 y5.fS)]), (25, .t (.bool r6)), (26, .t (.bool (!r6)))], [], []⟩ ?_
          refine Wp.cond2 (b := !r6) kr (fun hc => ?_) (fun hc => ?_)
          · have h := cond_t h hc
            refine Wp.srg [] [] ?_
            refine Runs.alln ?_
            refine Wp.fg ⟨[(0, .t (.sl 2 (p0.map Sum.enc))), (1, .t (.sl 2 (p1.map Sum.enc))), (4, .t (.bool false)), (5, .t (.int .i64 x2)), (11, .t (.int .i64 x2)), (12, .t (.sl 2 (p0.map Sum.enc))), (13, .t (.int .i64 ((p0.length : Int)))), (14, .t (.bool (decide (x2 < ((p0.length : Int)))))), (17, .t (.sl 2 (p0.map Sum.enc))), (18, .t (.int .i64 x2)), (19, .fadr [.int .i64 y4.fW, .int .i64 y4.fS]), (20, .agg [.t (.int .i64 y4.fW), .t (.int .i64 y4.fS)]), (21, .t (.sl 2 (p1.map Sum.enc))), (22, .t (.int .i64 x2)), (23, .fadr [.int .i64 y5.fW, .int .i64 y5.fS]), (24, .agg [.t (.int .i64 y5.fW), .t (.int .i64 y5.fS)]), (25, .t (.bool r6)), (26, .t (.bool (!r6)))], [], []⟩ ?_
            refine Wp.ret ?_
            refine blkR ?_
            refine thenR ?_
            refine thenR ?_
            refine blkR ?_
            refine thenR ?_
            have hr := Option.some.inj h
            subst hr
            exact RetK [.t (.bool false)] (.one (.t (.bool false))) [] kr kr (.refl _) .nil
          · have h := cond_f h hc
            refine Wp.skip ?_
            refine blkN ?_
            refine thenN ?_
            refine Wp.rg [] [] ?_
            refine Runs.alln ?_
            exact ⟨(p0, p1, bAdd .i64 x2 1), h, Le.of (mo := []) (mr := []) kr kr kr kr⟩
        · have h := cond_f h hc
          refine Wp.exit ?_
          refine thenE ?_
          refine thenE ?_
          refine blkE ?_
          refine thenN ?_
          exact ⟨(), h, Le.of (mo := []) (mr := []) kr kr kr kr⟩
theorem laws_eqManifest_ok (u : Nat) (p0 : Manifest) (p1 : Manifest) (r : Bool) (h : laws_eqManifest u p0 p1 = some r) : CallOK Tryz.prog 94 [.agg [.t (.int .i64 p0.fGen), .t (.int .i64 p0.fSize), .t (.int .i64 p0.fLen), .t (.sl 2 (p0.fSums.map Sum.enc))], .agg [.t (.int .i64 p1.fGen), .t (.int .i64 p1.fSize), .t (.int .i64 p1.fLen), .t (.sl 2 (p1.fSums.map Sum.enc))]] (.one (.t (.bool r))) [] := by
  unfold laws_eqManifest at h
  refine CallOK.of_bodyK (fn := Tryz.f94) (m := false) [.agg ((Manifest.enc p0).map .t), .agg ((Manifest.enc p1).map .t)] kr rfl kr kr kr kr kr ?_
  refine Wp.srg [] [] ?_
  refine Runs.alln ?_
  refine Wp.fg ⟨[(2, .obj 2 0), (3, .obj 3 0), (4, .t (.bool false))], [(2, ((Manifest.enc p0).map .t)), (3, ((Manifest.enc p1).map .t))], []⟩ ?_
  refine Wp.seq ?_
  refine Wp.srg [] [] ?_
  refine Runs.alln ?_
  refine Wp.fg ⟨[(2, .obj 2 0), (3, .obj 3 0), (4, .t (.bool false)), (9, .t (.bool (p0.fGen != p1.fGen)))], [(2, ((Manifest.enc p0).map .t)), (3, ((Manifest.enc p1).map .t))], []⟩ ?_
  refine Wp.cond2 (b := p0.fGen != p1.fGen) kr (fun hc => ?_) (fun hc => ?_)
  · have h := cond_t h hc
    refine Wp.srg [] [] ?_
    refine Runs.alln ?_
    refine Wp.fg ⟨[(2, .obj 2 0), (3, .obj 3 0), (4, .t (.bool false))], [(2, ((Manifest.enc p0).map .t)), (3, ((Manifest.enc p1).map .t))], []⟩ ?_
    refine Wp.ret ?_
    refine thenR ?_
    have hr := Option.some.inj h
    subst hr
    exact RetK [.t (.bool false)] (.one (.t (.bool false))) [] kr kr (.refl _) .nil
  · have h := cond_f h hc
    refine Wp.skip ?_
    refine thenN ?_
    refine Wp.seq ?_
    refine Wp.srg [] [] ?_
    refine Runs.alln ?_
    refine Wp.fg ⟨[(2, .obj 2 0), (3, .obj 3 0), (4, .t (.bool false)), (14, .t (.bool (p0.fSize != p1.fSize)))], [(2, ((Manifest.enc p0).map .t)), (3, ((Manifest.enc p1).map .t))], []⟩ ?_
    refine Wp.cond2 (b := p0.fSize != p1.fSize) kr (fun hc => ?_) (fun hc => ?_)
    · have h := cond_t h hc
      refine Wp.srg [] [] ?_
      refine Runs.alln ?_
      refine Wp.fg ⟨[(2, .obj 2 0), (3, .obj 3 0), (4, .t (.bool false))], [(2, ((Manifest.enc p0).map .t)), (3, ((Manifest.enc p1).map .t))], []⟩ ?_
      refine Wp.ret ?_
      refine thenR ?_
      have hr := Option.some.inj h
      subst hr
      exact RetK [.t (.bool false)] (.one (.t (.bool false))) [] kr kr (.refl _) .nil
    · have h := cond_f h hc
      refine Wp.skip ?_
      refine thenN ?_
      refine Wp.seq ?_
      refine Wp.srg [] [] ?_
      refine Runs.alln ?_
      refine Wp.fg ⟨[(2, .obj 2 0), (3, .obj 3 0), (4, .t (.bool false)), (19, .t (.bool (p0.fLen != p1.fLen)))], [(2, ((Manifest.enc p0).map .t)), (3, ((Manifest.enc p1).map .t))], []⟩ ?_
      refine Wp.cond2 (b := p0.fLen != p1.fLen) kr (fun hc => ?_) (fun hc => ?_)
      · have h := cond_t h hc
        refine Wp.srg [] [] ?_
        refine Runs.alln ?_
        refine Wp.fg ⟨[(2, .obj 2 0), (3, .obj 3 0), (4, .t (.bool false))], [(2, ((Manifest.enc p0).map .t)), (3, ((Manifest.enc p1).map .t))], []⟩ ?_
        refine Wp.ret ?_
        refine thenR ?_
        have hr := Option.some.inj h
        subst hr
        exact RetK [.t (.bool false)] (.one (.t (.bool false))) [] kr kr (.refl _) .nil
      · have h := cond_f h hc
        refine Wp.skip ?_
        refine thenN ?_
        refine Wp.seq ?_
        refine Wp.srg [] [] ?_
        refine Runs.batch 4 kr ?_
        obtain ⟨r1, e_r1, h⟩ := bind_some h
        refine Runs.callK false 24 112 [] [.t (.sl 2 (p0.fSums.map Sum.enc)), .t (.sl 2 (p1.fSums.map Sum.enc))] [.one (.t (.sl 2 (p0.fSums.map Sum.enc))), .one (.t (.sl 2 (p1.fSums.map Sum.enc)))] (.one (.t (.bool r1))) [] rfl rfl kr kr kr kr kr (laws_eqSumS_ok u p0.fSums p1.fSums r1 e_r1) kr ?_
        refine Runs.alln ?_
        refine Wp.fg ⟨[(4, .t (.bool false)), (25, .t (.bool (!r1)))], [], []⟩ ?_
        refine Wp.cond2 (b := !r1) kr (fun hc => ?_) (fun hc => ?_)
        · have h := cond_t h hc
          refine Wp.srg [] [] ?_
          refine Runs.alln ?_
          refine Wp.fg ⟨[(4, .t (.bool false))], [], []⟩ ?_
          refine Wp.ret ?_
          refine thenR ?_
          have hr := Option.some.inj h
          subst hr
          exact RetK [.t (.bool false)] (.one (.t (.bool false))) [] kr kr (.refl _) .nil
        · have h := cond_f h hc
          refine Wp.skip ?_
          refine thenN ?_
          refine Wp.srg [] [] ?_
          refine Runs.alln ?_
          refine Wp.fg ⟨[(4, .t (.bool true))], [], []⟩ ?_
          refine Wp.ret ?_
          have hr := Option.some.inj h
          subst hr
          exact RetK [.t (.bool true)] (.one (.t (.bool true))) [] kr kr (.refl _) .nil
theorem laws_eqBuild_ok (u : Nat) (p0 : Build) (p1 : Build) (r : Bool) (h : laws_eqBuild u p0 p1 = some r) : CallOK Tryz.prog 95 [.agg [.t (.int .i64 p0.fHave), .t (.sl 1 (p0.fBuf.map (eInt .u8)))], .agg [.t (.int .i64 p1.fHave), .t (.sl 1 (p1.fBuf.map (eInt .u8)))]] (.one (.t (.bool r))) [] := by
  unfold laws_eqBuild at h
  refine CallOK.of_bodyK (fn := Tryz.f95) (m := false) [.agg [.t (.int .i64 p0.fHave), .t (.sl 1 (p0.fBuf.map (eInt .u8)))], .agg [.t (.int .i64 p1.fHave), .t (.sl 1 (p1.fBuf.map (eInt .u8)))]] kr rfl kr kr kr kr kr ?_
  refine Wp.srg [] [] ?_
  refine Runs.alln ?_
  refine Wp.fg ⟨[(2, .obj 2 0), (3, .obj 3 0), (4, .t (.bool false))], [(2, [.t (.int .i64 p0.fHave), .t (.sl 1 (p0.fBuf.map (eInt .u8)))]), (3, [.t (.int .i64 p1.fHave), .t (.sl 1 (p1.fBuf.map (eInt .u8)))])], []⟩ ?_
  refine Wp.seq ?_
  refine Wp.srg [] [] ?_
  refine Runs.alln ?_
  refine Wp.fg ⟨[(2, .obj 2 0), (3, .obj 3 0), (4, .t (.bool false)), (9, .t (.bool (p0.fHave != p1.fHave)))], [(2, [.t (.int .i64 p0.fHave), .t (.sl 1 (p0.fBuf.map (eInt .u8)))]), (3, [.t (.int .i64 p1.fHave), .t (.sl 1 (p1.fBuf.map (eInt .u8)))])], []⟩ ?_
  refine Wp.cond2 (b := p0.fHave != p1.fHave) kr (fun hc => ?_) (fun hc => ?_)
  · have h := cond_t h hc
    refine Wp.srg [] [] ?_
    refine Runs.alln ?_
    refine Wp.fg ⟨[(2, .obj 2 0), (3, .obj 3 0), (4, .t (.bool false))], [(2, [.t (.int .i64 p0.fHave), .t (.sl 1 (p0.fBuf.map (eInt .u8)))]), (3, [.t (.int .i64 p1.fHave), .t (.sl 1 (p1.fBuf.map (eInt .u8)))])], []⟩ ?_
    refine Wp.ret ?_
    refine thenR ?_
    have hr := Option.some.inj h
    subst hr
    exact RetK [.t (.bool false)] (.one (.t (.bool false))) [] kr kr (.refl _) .nil
  · have h := cond_f h hc
    refine Wp.skip ?_
    refine thenN ?_
    refine Wp.seq ?_
    refine Wp.srg [] [] ?_
    refine Runs.batch 4 kr ?_
    obtain ⟨r1, e_r1, h⟩ := bind_some h
    refine Runs.callK false 14 33 [] [.t (.sl 1 (p0.fBuf.map (eInt .u8))), .t (.sl 1 (p1.fBuf.map (eInt .u8)))] [.one (.t (.sl 1 (p0.fBuf.map (eInt .u8)))), .one (.t (.sl 1 (p1.fBuf.map (eInt .u8))))] (.one (.t (.bool r1))) [] rfl rfl kr kr kr kr kr (laws_eqByteS_ok u p0.fBuf p1.fBuf r1 e_r1) kr ?_
    refine Runs.alln ?_
    refine Wp.fg ⟨[(4, .t (.bool false)), (15, .t (.bool (!r1)))], [], []⟩ ?_
    refine Wp.cond2 (b := !r1) kr (fun hc => ?_) (fun hc => ?_)
    · have h := cond_t h hc
      refine Wp.srg [] [] ?_
      refine Runs.alln ?_
      refine Wp.fg ⟨[(4, .t (.bool false))], [], []⟩ ?_
      refine Wp.ret ?_
      refine thenR ?_
      have hr := Option.some.inj h
      subst hr
      exact RetK [.t (.bool false)] (.one (.t (.bool false))) [] kr kr (.refl _) .nil
    · have h := cond_f h hc
      refine Wp.skip ?_
      refine thenN ?_
      refine Wp.srg [] [] ?_
      refine Runs.alln ?_
      refine Wp.fg ⟨[(4, .t (.bool true))], [], []⟩ ?_
      refine Wp.ret ?_
      have hr := Option.some.inj h
      subst hr
      exact RetK [.t (.bool true)] (.one (.t (.bool true))) [] kr kr (.refl _) .nil
theorem laws_eqKid_ok (u : Nat) (p0 : Kid) (p1 : Kid) (r : Bool) (h : laws_eqKid u p0 p1 = some r) : CallOK Tryz.prog 113 [.agg [.t (.int .i64 p0.fId), .t (.int .i64 p0.fWant), .t (.int .i64 p0.fDone), .t (.int .i64 p0.fAge), .t (.int .i64 p0.fSent)], .agg [.t (.int .i64 p1.fId), .t (.int .i64 p1.fWant), .t (.int .i64 p1.fDone), .t (.int .i64 p1.fAge), .t (.int .i64 p1.fSent)]] (.one (.t (.bool r))) [] := by
  unfold laws_eqKid at h
  refine CallOK.of_bodyK (fn := Tryz.f113) (m := false) [.agg ((Kid.enc p0).map .t), .agg ((Kid.enc p1).map .t)] kr rfl kr kr kr kr kr ?_
  refine Wp.srg [] [] ?_
  refine Runs.alln ?_
  refine Wp.fg ⟨[(2, .obj 2 0), (3, .obj 3 0), (4, .t (.bool false))], [(2, ((Kid.enc p0).map .t)), (3, ((Kid.enc p1).map .t))], []⟩ ?_
  refine Wp.seq ?_
  refine Wp.srg [] [] ?_
  refine Runs.alln ?_
  refine Wp.fg ⟨[(2, .obj 2 0), (3, .obj 3 0), (4, .t (.bool false)), (9, .t (.bool (p0.fId != p1.fId)))], [(2, ((Kid.enc p0).map .t)), (3, ((Kid.enc p1).map .t))], []⟩ ?_
  refine Wp.cond2 (b := p0.fId != p1.fId) kr (fun hc => ?_) (fun hc => ?_)
  · have h := cond_t h hc
    refine Wp.srg [] [] ?_
    refine Runs.alln ?_
    refine Wp.fg ⟨[(2, .obj 2 0), (3, .obj 3 0), (4, .t (.bool false))], [(2, ((Kid.enc p0).map .t)), (3, ((Kid.enc p1).map .t))], []⟩ ?_
    refine Wp.ret ?_
    refine thenR ?_
    have hr := Option.some.inj h
    subst hr
    exact RetK [.t (.bool false)] (.one (.t (.bool false))) [] kr kr (.refl _) .nil
  · have h := cond_f h hc
    refine Wp.skip ?_
    refine thenN ?_
    refine Wp.seq ?_
    refine Wp.srg [] [] ?_
    refine Runs.alln ?_
    refine Wp.fg ⟨[(2, .obj 2 0), (3, .obj 3 0), (4, .t (.bool false)), (14, .t (.bool (p0.fWant != p1.fWant)))], [(2, ((Kid.enc p0).map .t)), (3, ((Kid.enc p1).map .t))], []⟩ ?_
    refine Wp.cond2 (b := p0.fWant != p1.fWant) kr (fun hc => ?_) (fun hc => ?_)
    · have h := cond_t h hc
      refine Wp.srg [] [] ?_
      refine Runs.alln ?_
      refine Wp.fg ⟨[(2, .obj 2 0), (3, .obj 3 0), (4, .t (.bool false))], [(2, ((Kid.enc p0).map .t)), (3, ((Kid.enc p1).map .t))], []⟩ ?_
      refine Wp.ret ?_
      refine thenR ?_
      have hr := Option.some.inj h
      subst hr
      exact RetK [.t (.bool false)] (.one (.t (.bool false))) [] kr kr (.refl _) .nil
    · have h := cond_f h hc
      refine Wp.skip ?_
      refine thenN ?_
      refine Wp.seq ?_
      refine Wp.srg [] [] ?_
      refine Runs.alln ?_
      refine Wp.fg ⟨[(2, .obj 2 0), (3, .obj 3 0), (4, .t (.bool false)), (19, .t (.bool (p0.fDone != p1.fDone)))], [(2, ((Kid.enc p0).map .t)), (3, ((Kid.enc p1).map .t))], []⟩ ?_
      refine Wp.cond2 (b := p0.fDone != p1.fDone) kr (fun hc => ?_) (fun hc => ?_)
      · have h := cond_t h hc
        refine Wp.srg [] [] ?_
        refine Runs.alln ?_
        refine Wp.fg ⟨[(2, .obj 2 0), (3, .obj 3 0), (4, .t (.bool false))], [(2, ((Kid.enc p0).map .t)), (3, ((Kid.enc p1).map .t))], []⟩ ?_
        refine Wp.ret ?_
        refine thenR ?_
        have hr := Option.some.inj h
        subst hr
        exact RetK [.t (.bool false)] (.one (.t (.bool false))) [] kr kr (.refl _) .nil
      · have h := cond_f h hc
        refine Wp.skip ?_
        refine thenN ?_
        refine Wp.seq ?_
        refine Wp.srg [] [] ?_
        refine Runs.alln ?_
        refine Wp.fg ⟨[(2, .obj 2 0), (3, .obj 3 0), (4, .t (.bool false)), (24, .t (.bool (p0.fAge != p1.fAge)))], [(2, ((Kid.enc p0).map .t)), (3, ((Kid.enc p1).map .t))], []⟩ ?_
        refine Wp.cond2 (b := p0.fAge != p1.fAge) kr (fun hc => ?_) (fun hc => ?_)
        · have h := cond_t h hc
          refine Wp.srg [] [] ?_
          refine Runs.alln ?_
          refine Wp.fg ⟨[(2, .obj 2 0), (3, .obj 3 0), (4, .t (.bool false))], [(2, ((Kid.enc p0).map .t)), (3, ((Kid.enc p1).map .t))], []⟩ ?_
          refine Wp.ret ?_
          refine thenR ?_
          have hr := Option.some.inj h
          subst hr
          exact RetK [.t (.bool false)] (.one (.t (.bool false))) [] kr kr (.refl _) .nil
        · have h := cond_f h hc
          refine Wp.skip ?_
          refine thenN ?_
          refine Wp.seq ?_
          refine Wp.srg [] [] ?_
          refine Runs.alln ?_
          refine Wp.fg ⟨[(4, .t (.bool false)), (29, .t (.bool (p0.fSent != p1.fSent)))], [], []⟩ ?_
          refine Wp.cond2 (b := p0.fSent != p1.fSent) kr (fun hc => ?_) (fun hc => ?_)
          · have h := cond_t h hc
            refine Wp.srg [] [] ?_
            refine Runs.alln ?_
            refine Wp.fg ⟨[(4, .t (.bool false))], [], []⟩ ?_
            refine Wp.ret ?_
            refine thenR ?_
            have hr := Option.some.inj h
            subst hr
            exact RetK [.t (.bool false)] (.one (.t (.bool false))) [] kr kr (.refl _) .nil
          · have h := cond_f h hc
            refine Wp.skip ?_
            refine thenN ?_
            refine Wp.srg [] [] ?_
            refine Runs.alln ?_
            refine Wp.fg ⟨[(4, .t (.bool true))], [], []⟩ ?_
            refine Wp.ret ?_
            have hr := Option.some.inj h
            subst hr
            exact RetK [.t (.bool true)] (.one (.t (.bool true))) [] kr kr (.refl _) .nil
theorem laws_eqKidS_ok (u : Nat) (p0 : List Kid) (p1 : List Kid) (r : Bool) (h : laws_eqKidS u p0 p1 = some r) : CallOK Tryz.prog 96 [.one (.t (.sl 5 (p0.map Kid.enc))), .one (.t (.sl 5 (p1.map Kid.enc)))] (.one (.t (.bool r))) [] := by
  unfold laws_eqKidS at h
  refine CallOK.of_bodyK (fn := Tryz.f96) (m := false) [.t (.sl 5 (p0.map Kid.enc)), .t (.sl 5 (p1.map Kid.enc))] kr rfl kr kr kr kr kr ?_
  refine Wp.srg [] [] ?_
  refine Runs.alln ?_
  refine Wp.fg ⟨[(0, .t (.sl 5 (p0.map Kid.enc))), (1, .t (.sl 5 (p1.map Kid.enc))), (4, .t (.bool false))], [], []⟩ ?_
  refine Wp.seq ?_
  refine Wp.srg [] [] ?_
  refine Runs.batch 1 kr ?_
  refine Runs.lenT (y := .t (.sl 5 (p0.map Kid.enc))) (e := 128) Kid.enc p0 5 rfl rfl rfl kr kr kr kr kr ?_
  refine Runs.batch 1 kr ?_
  refine Runs.lenT (y := .t (.sl 5 (p1.map Kid.enc))) (e := 128) Kid.enc p1 5 rfl rfl rfl kr kr kr kr kr ?_
  refine Runs.alln ?_
  refine Wp.fg ⟨[(0, .t (.sl 5 (p0.map Kid.enc))), (1, .t (.sl 5 (p1.map Kid.enc))), (4, .t (.bool false)), (10, .t (.bool (((p0.length : Int)) != ((p1.length : Int)))))], [], []⟩ ?_
  refine Wp.cond2 (b := ((p0.length : Int)) != ((p1.length : Int))) kr (fun hc => ?_) (fun hc => ?_)
  · have h := cond_t h hc
    refine Wp.srg [] [] ?_
    refine Runs.alln ?_
    refine Wp.fg ⟨[(0, .t (.sl 5 (p0.map Kid.enc))), (1, .t (.sl 5 (p1.map Kid.enc))), (4, .t (.bool false))], [], []⟩ ?_
    refine Wp.ret ?_
    refine thenR ?_
    have hr := Option.some.inj h
    subst hr
    exact RetK [.t (.bool false)] (.one (.t (.bool false))) [] kr kr (.refl _) .nil
  · have h := cond_f h hc
    refine Wp.skip ?_
    refine thenN ?_
    refine Wp.seqJ (α := Unit) (fun a => ⟨[(4, .t (.bool false))], [], []⟩) (fun a => laws_eqKidS_j1 u = some r) ?_ ?_
    · rintro ⟨⟩ h
      change laws_eqKidS_j1 u = some r at h
      unfold laws_eqKidS_j1 at h
      refine Wp.srg [] [] ?_
      refine Runs.alln ?_
      refine Wp.fg ⟨[(4, .t (.bool true))], [], []⟩ ?_
      refine Wp.ret ?_
      have hr := Option.some.inj h
      subst hr
      exact RetK [.t (.bool true)] (.one (.t (.bool true))) [] kr kr (.refl _) .nil
    · refine Wp.srg [] [] ?_
      refine Runs.alln ?_
      refine Wp.fg ⟨[(0, .t (.sl 5 (p0.map Kid.enc))), (1, .t (.sl 5 (p1.map Kid.enc))), (4, .t (.bool false)), (5, .t (.int .i64 0))], [], []⟩ ?_
      refine Wp.block ?_
      refine Wp.loopF (α := (List Kid) × (List Kid) × Int) (fun a => ⟨[(0, .t (.sl 5 (a.1.map Kid.enc))), (1, .t (.sl 5 (a.2.1.map Kid.enc))), (4, .t (.bool false)), (5, .t (.int .i64 a.2.2))], [], []⟩) (fun k_laws_eqKidS_l2 a => laws_eqKidS_l2 u k_laws_eqKidS_l2 a.1 a.2.1 a.2.2 = some r) ?_ ?_ u (p0, p1, 0) h (Le.of (mo := []) (mr := []) kr kr kr kr)
      · intro a h; unfold laws_eqKidS_l2 at h; cases h
      · rintro k_laws_eqKidS_l2 ⟨p0, p1, x2⟩ h
        change laws_eqKidS_l2 u (k_laws_eqKidS_l2 + 1) p0 p1 x2 = some r at h
        rw [laws_eqKidS_l2] at h
        refine Wp.seq ?_
        refine Wp.srg [] [] ?_
        refine Runs.batch 2 kr ?_
        refine Runs.lenT (y := .t (.sl 5 (p0.map Kid.enc))) (e := 128) Kid.enc p0 5 rfl rfl rfl kr kr kr kr kr ?_
        refine Runs.alln ?_
        refine Wp.fg ⟨[(0, .t (.sl 5 (p0.map Kid.enc))), (1, .t (.sl 5 (p1.map Kid.enc))), (4, .t (.bool false)), (5, .t (.int .i64 x2)), (11, .t (.int .i64 x2)), (12, .t (.sl 5 (p0.map Kid.enc))), (13, .t (.int .i64 ((p0.length : Int)))), (14, .t (.bool (decide (x2 < ((p0.length : Int))))))], [], []⟩ ?_
        refine Wp.cond2 (b := decide (x2 < ((p0.length : Int)))) kr (fun hc => ?_) (fun hc => ?_)
        · have h := cond_t h hc
          refine Wp.skip ?_
          refine thenN ?_
          refine Wp.seq ?_
          refine Wp.block ?_
          refine Wp.seq ?_
          refine Wp.regionA (pOf []) (rhoOf [(0, .frz), (1, .frz), (5, .frz), (17, .frz), (18, .frz), (19, .frz), (20, .frz), (21, .frz), (22, .frz), (23, .frz), (24, .frz), (25, .frz)]) kr kr ?_
          refine Runs.batch 2 kr ?_
          obtain ⟨y4, e_y4, h⟩ := bind_some h
          refine Runs.idxT (e := 128) (kk := .i64) (sz := 5) Kid.enc p0 x2 rfl kr kr kr kr kr kr e_y4 ?_
          refine Runs.batch 3 kr ?_
          obtain ⟨y5, e_y5, h⟩ := bind_some h
          refine Runs.idxT (e := 128) (kk := .i64) (sz := 5) Kid.enc p1 x2 rfl kr kr kr kr kr kr e_y5 ?_
          refine Runs.batch 1 kr ?_
          obtain ⟨r6, e_r6, h⟩ := bind_some h
          refine Runs.callK false 25 113 [] [.agg ((Kid.enc y4).map .t), .agg ((Kid.enc y5).map .t)] [.agg ((Kid.enc y4).map .t), .agg ((Kid.enc y5).map .t)] (.one (.t (.bool r6))) [] rfl rfl kr kr kr kr kr (laws_eqKid_ok u y4 y5 r6 e_r6) kr ?_
          refine Runs.alln ?_
          refine Wp.fg ⟨[(0, .t (.sl 5 (p0.map Kid.enc))), (1, .t (.sl 5 (p1.map Kid.enc))), (4, .t (.bool false)), (5, .t (.int .i64 x2)), (11, .t (.int .i64 x2)), (12, .t (.sl 5 (p0.map Kid.enc))), (13, .t (.int .i64 ((p0.length : Int)))), (14, .t (.bool (decide (x2 < ((p0.length : Int)))))), (17, .t (.sl 5 (p0.map Kid.enc))), (18, .t (.int .i64 x2)), (19, .fadr (Kid.enc y4)), (20, .agg ((Kid.enc y4).map .t)), (21, .t (.sl 5 (p1.map Kid.enc))), (22, .t (.int .i64 x2)), (23, .fadr (Kid.enc y5)), (24, .agg ((Kid.enc y5).map .t)), (25, .t (.bool r6)), (26, .t (.bool (!r6)))], [], []⟩ ?_
          refine Wp.cond2 (b := !r6) kr (fun hc => ?_) (fun hc => ?_)
          · have h := cond_t h hc
            refine Wp.srg [] [] ?_
            refine Runs.alln ?_
            refine Wp.fg ⟨[(0, .t (.sl 5 (p0.map Kid.enc))), (1, .t (.sl 5 (p1.map Kid.enc))), (4, .t (.bool false)), (5, .t (.int .i64 x2)), (11, .t (.int .i64 x2)), (12, .t (.sl 5 (p0.map Kid.enc))), (13, .t (.int .i64 ((p0.length : Int)))), (14, .t (.bool (decide (x2 < ((p0.length : Int)))))), (17, .t (.sl 5 (p0.map Kid.enc))), (18, .t (.int .i64 x2)), (19, .fadr (Kid.enc y4)), (20, .agg ((Kid.enc y4).map .t)), (21, .t (.sl 5 (p1.map Kid.enc))), (22, .t (.int .i64 x2)), (23, .fadr (Kid.enc y5)), (24, .agg ((Kid.enc y5).map .t)), (25, .t (.bool r6)), (26, .t (.bool (!r6)))], [], []⟩ ?_
            refine Wp.ret ?_
            refine blkR ?_
            refine thenR ?_
            refine thenR ?_
            refine blkR ?_
            refine thenR ?_
            have hr := Option.some.inj h
            subst hr
            exact RetK [.t (.bool false)] (.one (.t (.bool false))) [] kr kr (.refl _) .nil
          · have h := cond_f h hc
            refine Wp.skip ?_
            refine blkN ?_
            refine thenN ?_
            refine Wp.rg [] [] ?_
            refine Runs.alln ?_
            exact ⟨(p0, p1, bAdd .i64 x2 1), h, Le.of (mo := []) (mr := []) kr kr kr kr⟩
        · have h := cond_f h hc
          refine Wp.exit ?_
          refine thenE ?_
          refine thenE ?_
          refine blkE ?_
          refine thenN ?_
          exact ⟨(), h, Le.of (mo := []) (mr := []) kr kr kr kr⟩
theorem laws_eqNode_ok (u : Nat) (p0 : Node) (p1 : Node) (r : Bool) (h : laws_eqNode u p0 p1 = some r) : CallOK Tryz.prog 69 [.agg [.t (.bool p0.fOn), .t (.int .i64 p0.fBoss), .t (.int .i64 p0.fQuiet), .t (.int .i64 p0.fMan.fGen), .t (.int .i64 p0.fMan.fSize), .t (.int .i64 p0.fMan.fLen), .t (.sl 2 (p0.fMan.fSums.map Sum.enc)), .t (.int .i64 p0.fBld.fHave), .t (.sl 1 (p0.fBld.fBuf.map (eInt .u8))), .t (.int .i64 p0.fPhase), .t (.sl 5 (p0.fKids.map Kid.enc)), .t (.int .i64 p0.fDrops)], .agg [.t (.bool p1.fOn), .t (.int .i64 p1.fBoss), .t (.int .i64 p1.fQuiet), .t (.int .i64 p1.fMan.fGen), .t (.int .i64 p1.fMan.fSize), .t (.int .i64 p1.fMan.fLen), .t (.sl 2 (p1.fMan.fSums.map Sum.enc)), .t (.int .i64 p1.fBld.fHave), .t (.sl 1 (p1.fBld.fBuf.map (eInt .u8))), .t (.int .i64 p1.fPhase), .t (.sl 5 (p1.fKids.map Kid.enc)), .t (.int .i64 p1.fDrops)]] (.one (.t (.bool r))) [] := by
  unfold laws_eqNode at h
  refine CallOK.of_bodyK (fn := Tryz.f69) (m := false) [.agg ((Node.enc p0).map .t), .agg ((Node.enc p1).map .t)] kr rfl kr kr kr kr kr ?_
  refine Wp.srg [] [] ?_
  refine Runs.alln ?_
  refine Wp.fg ⟨[(2, .obj 2 0), (3, .obj 3 0), (4, .t (.bool false))], [(2, ((Node.enc p0).map .t)), (3, ((Node.enc p1).map .t))], []⟩ ?_
  refine Wp.seq ?_
  refine Wp.srg [] [] ?_
  refine Runs.alln ?_
  refine Wp.fg ⟨[(2, .obj 2 0), (3, .obj 3 0), (4, .t (.bool false)), (9, .t (.bool (!(p0.fOn == p1.fOn))))], [(2, ((Node.enc p0).map .t)), (3, ((Node.enc p1).map .t))], []⟩ ?_
  refine Wp.cond2 (b := !(p0.fOn == p1.fOn)) kr (fun hc => ?_) (fun hc => ?_)
  · have h := cond_t h hc
    refine Wp.srg [] [] ?_
    refine Runs.alln ?_
    refine Wp.fg ⟨[(2, .obj 2 0), (3, .obj 3 0), (4, .t (.bool false))], [(2, ((Node.enc p0).map .t)), (3, ((Node.enc p1).map .t))], []⟩ ?_
    refine Wp.ret ?_
    refine thenR ?_
    have hr := Option.some.inj h
    subst hr
    exact RetK [.t (.bool false)] (.one (.t (.bool false))) [] kr kr (.refl _) .nil
  · have h := cond_f h hc
    refine Wp.skip ?_
    refine thenN ?_
    refine Wp.seq ?_
    refine Wp.srg [] [] ?_
    refine Runs.alln ?_
    refine Wp.fg ⟨[(2, .obj 2 0), (3, .obj 3 0), (4, .t (.bool false)), (14, .t (.bool (p0.fBoss != p1.fBoss)))], [(2, ((Node.enc p0).map .t)), (3, ((Node.enc p1).map .t))], []⟩ ?_
    refine Wp.cond2 (b := p0.fBoss != p1.fBoss) kr (fun hc => ?_) (fun hc => ?_)
    · have h := cond_t h hc
      refine Wp.srg [] [] ?_
      refine Runs.alln ?_
      refine Wp.fg ⟨[(2, .obj 2 0), (3, .obj 3 0), (4, .t (.bool false))], [(2, ((Node.enc p0).map .t)), (3, ((Node.enc p1).map .t))], []⟩ ?_
      refine Wp.ret ?_
      refine thenR ?_
      have hr := Option.some.inj h
      subst hr
      exact RetK [.t (.bool false)] (.one (.t (.bool false))) [] kr kr (.refl _) .nil
    · have h := cond_f h hc
      refine Wp.skip ?_
      refine thenN ?_
      refine Wp.seq ?_
      refine Wp.srg [] [] ?_
      refine Runs.alln ?_
      refine Wp.fg ⟨[(2, .obj 2 0), (3, .obj 3 0), (4, .t (.bool false)), (19, .t (.bool (p0.fQuiet != p1.fQuiet)))], [(2, ((Node.enc p0).map .t)), (3, ((Node.enc p1).map .t))], []⟩ ?_
      refine Wp.cond2 (b := p0.fQuiet != p1.fQuiet) kr (fun hc => ?_) (fun hc => ?_)
      · have h := cond_t h hc
        refine Wp.srg [] [] ?_
        refine Runs.alln ?_
        refine Wp.fg ⟨[(2, .obj 2 0), (3, .obj 3 0), (4, .t (.bool false))], [(2, ((Node.enc p0).map .t)), (3, ((Node.enc p1).map .t))], []⟩ ?_
        refine Wp.ret ?_
        refine thenR ?_
        have hr := Option.some.inj h
        subst hr
        exact RetK [.t (.bool false)] (.one (.t (.bool false))) [] kr kr (.refl _) .nil
      · have h := cond_f h hc
        refine Wp.skip ?_
        refine thenN ?_
        refine Wp.seq ?_
        refine Wp.srg [] [] ?_
        refine Runs.batch 4 kr ?_
        obtain ⟨r1, e_r1, h⟩ := bind_some h
        refine Runs.callK false 24 94 [] [.agg ((Manifest.enc p0.fMan).map .t), .agg ((Manifest.enc p1.fMan).map .t)] [.agg ((Manifest.enc p0.fMan).map .t), .agg ((Manifest.enc p1.fMan).map .t)] (.one (.t (.bool r1))) [] rfl rfl kr kr kr kr kr (laws_eqManifest_ok u p0.fMan p1.fMan r1 e_r1) kr ?_
        refine Runs.alln ?_
        refine Wp.fg ⟨[(2, .obj 2 0), (3, .obj 3 0), (4, .t (.bool false)), (25, .t (.bool (!r1)))], [(2, ((Node.enc p0).map .t)), (3, ((Node.enc p1).map .t))], []⟩ ?_
        refine Wp.cond2 (b := !r1) kr (fun hc => ?_) (fun hc => ?_)
        · have h := cond_t h hc
          refine Wp.srg [] [] ?_
          refine Runs.alln ?_
          refine Wp.fg ⟨[(2, .obj 2 0), (3, .obj 3 0), (4, .t (.bool false))], [(2, ((Node.enc p0).map .t)), (3, ((Node.enc p1).map .t))], []⟩ ?_
          refine Wp.ret ?_
          refine thenR ?_
          have hr := Option.some.inj h
          subst hr
          exact RetK [.t (.bool false)] (.one (.t (.bool false))) [] kr kr (.refl _) .nil
        · have h := cond_f h hc
          refine Wp.skip ?_
          refine thenN ?_
          refine Wp.seq ?_
          refine Wp.srg [] [] ?_
          refine Runs.batch 4 kr ?_
          obtain ⟨r2, e_r2, h⟩ := bind_some h
          refine Runs.callK false 30 95 [] [.agg [.t (.int .i64 p0.fBld.fHave), .t (.sl 1 (p0.fBld.fBuf.map (eInt .u8)))], .agg [.t (.int .i64 p1.fBld.fHave), .t (.sl 1 (p1.fBld.fBuf.map (eInt .u8)))]] [.agg [.t (.int .i64 p0.fBld.fHave), .t (.sl 1 (p0.fBld.fBuf.map (eInt .u8)))], .agg [.t (.int .i64 p1.fBld.fHave), .t (.sl 1 (p1.fBld.fBuf.map (eInt .u8)))]] (.one (.t (.bool r2))) [] rfl rfl kr kr kr kr kr (laws_eqBuild_ok u p0.fBld p1.fBld r2 e_r2) kr ?_
          refine Runs.alln ?_
          refine Wp.fg ⟨[(2, .obj 2 0), (3, .obj 3 0), (4, .t (.bool false)), (31, .t (.bool (!r2)))], [(2, ((Node.enc p0).map .t)), (3, ((Node.enc p1).map .t))], []⟩ ?_
          refine Wp.cond2 (b := !r2) kr (fun hc => ?_) (fun hc => ?_)
          · have h := cond_t h hc
            refine Wp.srg [] [] ?_
            refine Runs.alln ?_
            refine Wp.fg ⟨[(2, .obj 2 0), (3, .obj 3 0), (4, .t (.bool false))], [(2, ((Node.enc p0).map .t)), (3, ((Node.enc p1).map .t))], []⟩ ?_
            refine Wp.ret ?_
            refine thenR ?_
            have hr := Option.some.inj h
            subst hr
            exact RetK [.t (.bool false)] (.one (.t (.bool false))) [] kr kr (.refl _) .nil
          · have h := cond_f h hc
            refine Wp.skip ?_
            refine thenN ?_
            refine Wp.seq ?_
            refine Wp.srg [] [] ?_
            refine Runs.alln ?_
            refine Wp.fg ⟨[(2, .obj 2 0), (3, .obj 3 0), (4, .t (.bool false)), (36, .t (.bool (p0.fPhase != p1.fPhase)))], [(2, ((Node.enc p0).map .t)), (3, ((Node.enc p1).map .t))], []⟩ ?_
            refine Wp.cond2 (b := p0.fPhase != p1.fPhase) kr (fun hc => ?_) (fun hc => ?_)
            · have h := cond_t h hc
              refine Wp.srg [] [] ?_
              refine Runs.alln ?_
              refine Wp.fg ⟨[(2, .obj 2 0), (3, .obj 3 0), (4, .t (.bool false))], [(2, ((Node.enc p0).map .t)), (3, ((Node.enc p1).map .t))], []⟩ ?_
              refine Wp.ret ?_
              refine thenR ?_
              have hr := Option.some.inj h
              subst hr
              exact RetK [.t (.bool false)] (.one (.t (.bool false))) [] kr kr (.refl _) .nil
            · have h := cond_f h hc
              refine Wp.skip ?_
              refine thenN ?_
              refine Wp.seq ?_
              refine Wp.srg [] [] ?_
              refine Runs.batch 4 kr ?_
              obtain ⟨r3, e_r3, h⟩ := bind_some h
              refine Runs.callK false 41 96 [] [.t (.sl 5 (p0.fKids.map Kid.enc)), .t (.sl 5 (p1.fKids.map Kid.enc))] [.one (.t (.sl 5 (p0.fKids.map Kid.enc))), .one (.t (.sl 5 (p1.fKids.map Kid.enc)))] (.one (.t (.bool r3))) [] rfl rfl kr kr kr kr kr (laws_eqKidS_ok u p0.fKids p1.fKids r3 e_r3) kr ?_
              refine Runs.alln ?_
              refine Wp.fg ⟨[(2, .obj 2 0), (3, .obj 3 0), (4, .t (.bool false)), (42, .t (.bool (!r3)))], [(2, ((Node.enc p0).map .t)), (3, ((Node.enc p1).map .t))], []⟩ ?_
              refine Wp.cond2 (b := !r3) kr (fun hc => ?_) (fun hc => ?_)
              · have h := cond_t h hc
                refine Wp.srg [] [] ?_
                refine Runs.alln ?_
                refine Wp.fg ⟨[(2, .obj 2 0), (3, .obj 3 0), (4, .t (.bool false))], [(2, ((Node.enc p0).map .t)), (3, ((Node.enc p1).map .t))], []⟩ ?_
                refine Wp.ret ?_
                refine thenR ?_
                have hr := Option.some.inj h
                subst hr
                exact RetK [.t (.bool false)] (.one (.t (.bool false))) [] kr kr (.refl _) .nil
              · have h := cond_f h hc
                refine Wp.skip ?_
                refine thenN ?_
                refine Wp.seq ?_
                refine Wp.srg [] [] ?_
                refine Runs.alln ?_
                refine Wp.fg ⟨[(4, .t (.bool false)), (47, .t (.bool (p0.fDrops != p1.fDrops)))], [], []⟩ ?_
                refine Wp.cond2 (b := p0.fDrops != p1.fDrops) kr (fun hc => ?_) (fun hc => ?_)
                · have h := cond_t h hc
                  refine Wp.srg [] [] ?_
                  refine Runs.alln ?_
                  refine Wp.fg ⟨[(4, .t (.bool false))], [], []⟩ ?_
                  refine Wp.ret ?_
                  refine thenR ?_
                  have hr := Option.some.inj h
                  subst hr
                  exact RetK [.t (.bool false)] (.one (.t (.bool false))) [] kr kr (.refl _) .nil
                · have h := cond_f h hc
                  refine Wp.skip ?_
                  refine thenN ?_
                  refine Wp.srg [] [] ?_
                  refine Runs.alln ?_
                  refine Wp.fg ⟨[(4, .t (.bool true))], [], []⟩ ?_
                  refine Wp.ret ?_
                  have hr := Option.some.inj h
                  subst hr
                  exact RetK [.t (.bool true)] (.one (.t (.bool true))) [] kr kr (.refl _) .nil
theorem laws_eqNodeS_ok (u : Nat) (p0 : List Node) (p1 : List Node) (r : Bool) (h : laws_eqNodeS u p0 p1 = some r) : CallOK Tryz.prog 35 [.one (.t (.sl 12 (p0.map Node.enc))), .one (.t (.sl 12 (p1.map Node.enc)))] (.one (.t (.bool r))) [] := by
  unfold laws_eqNodeS at h
  refine CallOK.of_bodyK (fn := Tryz.f35) (m := false) [.t (.sl 12 (p0.map Node.enc)), .t (.sl 12 (p1.map Node.enc))] kr rfl kr kr kr kr kr ?_
  refine Wp.srg [] [] ?_
  refine Runs.alln ?_
  refine Wp.fg ⟨[(0, .t (.sl 12 (p0.map Node.enc))), (1, .t (.sl 12 (p1.map Node.enc))), (4, .t (.bool false))], [], []⟩ ?_
  refine Wp.seq ?_
  refine Wp.srg [] [] ?_
  refine Runs.batch 1 kr ?_
  refine Runs.lenT (y := .t (.sl 12 (p0.map Node.enc))) (e := 64) Node.enc p0 12 rfl rfl rfl kr kr kr kr kr ?_
  refine Runs.batch 1 kr ?_
  refine Runs.lenT (y := .t (.sl 12 (p1.map Node.enc))) (e := 64) Node.enc p1 12 rfl rfl rfl kr kr kr kr kr ?_
  refine Runs.alln ?_
  refine Wp.fg ⟨[(0, .t (.sl 12 (p0.map Node.enc))), (1, .t (.sl 12 (p1.map Node.enc))), (4, .t (.bool false)), (10, .t (.bool (((p0.length : Int)) != ((p1.length : Int)))))], [], []⟩ ?_
  refine Wp.cond2 (b := ((p0.length : Int)) != ((p1.length : Int))) kr (fun hc => ?_) (fun hc => ?_)
  · have h := cond_t h hc
    refine Wp.srg [] [] ?_
    refine Runs.alln ?_
    refine Wp.fg ⟨[(0, .t (.sl 12 (p0.map Node.enc))), (1, .t (.sl 12 (p1.map Node.enc))), (4, .t (.bool false))], [], []⟩ ?_
    refine Wp.ret ?_
    refine thenR ?_
    have hr := Option.some.inj h
    subst hr
    exact RetK [.t (.bool false)] (.one (.t (.bool false))) [] kr kr (.refl _) .nil
  · have h := cond_f h hc
    refine Wp.skip ?_
    refine thenN ?_
    refine Wp.seqJ (α := Unit) (fun a => ⟨[(4, .t (.bool false))], [], []⟩) (fun a => laws_eqNodeS_j1 u = some r) ?_ ?_
    · rintro ⟨⟩ h
      change laws_eqNodeS_j1 u = some r at h
      unfold laws_eqNodeS_j1 at h
      refine Wp.srg [] [] ?_
      refine Runs.alln ?_
      refine Wp.fg ⟨[(4, .t (.bool true))], [], []⟩ ?_
      refine Wp.ret ?_
      have hr := Option.some.inj h
      subst hr
      exact RetK [.t (.bool true)] (.one (.t (.bool true))) [] kr kr (.refl _) .nil
    · refine Wp.srg [] [] ?_
      refine Runs.alln ?_
      refine Wp.fg ⟨[(0, .t (.sl 12 (p0.map Node.enc))), (1, .t (.sl 12 (p1.map Node.enc))), (4, .t (.bool false)), (5, .t (.int .i64 0))], [], []⟩ ?_
      refine Wp.block ?_
      refine Wp.loopF (α := (List Node) × (List Node) × Int) (fun a => ⟨[(0, .t (.sl 12 (a.1.map Node.enc))), (1, .t (.sl 12 (a.2.1.map Node.enc))), (4, .t (.bool false)), (5, .t (.int .i64 a.2.2))], [], []⟩) (fun k_laws_eqNodeS_l2 a => laws_eqNodeS_l2 u k_laws_eqNodeS_l2 a.1 a.2.1 a.2.2 = some r) ?_ ?_ u (p0, p1, 0) h (Le.of (mo := []) (mr := []) kr kr kr kr)
      · intro a h; unfold laws_eqNodeS_l2 at h; cases h
      · rintro k_laws_eqNodeS_l2 ⟨p0, p1, x2⟩ h
        change laws_eqNodeS_l2 u (k_laws_eqNodeS_l2 + 1) p0 p1 x2 = some r at h
        rw [laws_eqNodeS_l2] at h
        refine Wp.seq ?_
        refine Wp.srg [] [] ?_
        refine Runs.batch 2 kr ?_
        refine Runs.lenT (y := .t (.sl 12 (p0.map Node.enc))) (e := 64) Node.enc p0 12 rfl rfl rfl kr kr kr kr kr ?_
        refine Runs.alln ?_
        refine Wp.fg ⟨[(0, .t (.sl 12 (p0.map Node.enc))), (1, .t (.sl 12 (p1.map Node.enc))), (4, .t (.bool false)), (5, .t (.int .i64 x2)), (11, .t (.int .i64 x2)), (12, .t (.sl 12 (p0.map Node.enc))), (13, .t (.int .i64 ((p0.length : Int)))), (14, .t (.bool (decide (x2 < ((p0.length : Int))))))], [], []⟩ ?_
        refine Wp.cond2 (b := decide (x2 < ((p0.length : Int)))) kr (fun hc => ?_) (fun hc => ?_)
        · have h := cond_t h hc
          refine Wp.skip ?_
          refine thenN ?_
          refine Wp.seq ?_
          refine Wp.block ?_
          refine Wp.seq ?_
          refine Wp.regionA (pOf []) (rhoOf [(0, .frz), (1, .frz), (5, .frz), (17, .frz), (18, .frz), (19, .frz), (20, .frz), (21, .frz), (22, .frz), (23, .frz), (24, .frz), (25, .frz)]) kr kr ?_
          refine Runs.batch 2 kr ?_
          obtain ⟨y4, e_y4, h⟩ := bind_some h
          refine Runs.idxT (e := 64) (kk := .i64) (sz := 12) Node.enc p0 x2 rfl kr kr kr kr kr kr e_y4 ?_
          refine Runs.batch 3 kr ?_
          obtain ⟨y5, e_y5, h⟩ := bind_some h
          refine Runs.idxT (e := 64) (kk := .i64) (sz := 12) Node.enc p1 x2 rfl kr kr kr kr kr kr e_y5 ?_
          refine Runs.batch 1 kr ?_
          obtain ⟨r6, e_r6, h⟩ := bind_some h
          refine Runs.callK false 25 69 [] [.agg ((Node.enc y4).map .t), .agg ((Node.enc y5).map .t)] [.agg ((Node.enc y4).map .t), .agg ((Node.enc y5).map .t)] (.one (.t (.bool r6))) [] rfl rfl kr kr kr kr kr (laws_eqNode_ok u y4 y5 r6 e_r6) kr ?_
          refine Runs.alln ?_
          refine Wp.fg ⟨[(0, .t (.sl 12 (p0.map Node.enc))), (1, .t (.sl 12 (p1.map Node.enc))), (4, .t (.bool false)), (5, .t (.int .i64 x2)), (11, .t (.int .i64 x2)), (12, .t (.sl 12 (p0.map Node.enc))), (13, .t (.int .i64 ((p0.length : Int)))), (14, .t (.bool (decide (x2 < ((p0.length : Int)))))), (17, .t (.sl 12 (p0.map Node.enc))), (18, .t (.int .i64 x2)), (19, .fadr (Node.enc y4)), (20, .agg ((Node.enc y4).map .t)), (21, .t (.sl 12 (p1.map Node.enc))), (22, .t (.int .i64 x2)), (23, .fadr (Node.enc y5)), (24, .agg ((Node.enc y5).map .t)), (25, .t (.bool r6)), (26, .t (.bool (!r6)))], [], []⟩ ?_
          refine Wp.cond2 (b := !r6) kr (fun hc => ?_) (fun hc => ?_)
          · have h := cond_t h hc
            refine Wp.srg [] [] ?_
            refine Runs.alln ?_
            refine Wp.fg ⟨[(0, .t (.sl 12 (p0.map Node.enc))), (1, .t (.sl 12 (p1.map Node.enc))), (4, .t (.bool false)), (5, .t (.int .i64 x2)), (11, .t (.int .i64 x2)), (12, .t (.sl 12 (p0.map Node.enc))), (13, .t (.int .i64 ((p0.length : Int)))), (14, .t (.bool (decide (x2 < ((p0.length : Int)))))), (17, .t (.sl 12 (p0.map Node.enc))), (18, .t (.int .i64 x2)), (19, .fadr (Node.enc y4)), (20, .agg ((Node.enc y4).map .t)), (21, .t (.sl 12 (p1.map Node.enc))), (22, .t (.int .i64 x2)), (23, .fadr (Node.enc y5)), (24, .agg ((Node.enc y5).map .t)), (25, .t (.bool r6)), (26, .t (.bool (!r6)))], [], []⟩ ?_
            refine Wp.ret ?_
            refine blkR ?_
            refine thenR ?_
            refine thenR ?_
            refine blkR ?_
            refine thenR ?_
            have hr := Option.some.inj h
            subst hr
            exact RetK [.t (.bool false)] (.one (.t (.bool false))) [] kr kr (.refl _) .nil
          · have h := cond_f h hc
            refine Wp.skip ?_
            refine blkN ?_
            refine thenN ?_
            refine Wp.rg [] [] ?_
            refine Runs.alln ?_
            exact ⟨(p0, p1, bAdd .i64 x2 1), h, Le.of (mo := []) (mr := []) kr kr kr kr⟩
        · have h := cond_f h hc
          refine Wp.exit ?_
          refine thenE ?_
          refine thenE ?_
          refine blkE ?_
          refine thenN ?_
          exact ⟨(), h, Le.of (mo := []) (mr := []) kr kr kr kr⟩
theorem laws_eqRecord_ok (u : Nat) (p0 : Record) (p1 : Record) (r : Bool) (h : laws_eqRecord u p0 p1 = some r) : CallOK Tryz.prog 97 [.agg [.t (.int .i64 p0.fGen), .t (.int .i64 p0.fSlot), .t (.int .i64 p0.fLen)], .agg [.t (.int .i64 p1.fGen), .t (.int .i64 p1.fSlot), .t (.int .i64 p1.fLen)]] (.one (.t (.bool r))) [] := by
  unfold laws_eqRecord at h
  refine CallOK.of_bodyK (fn := Tryz.f97) (m := false) [.agg ((Record.enc p0).map .t), .agg ((Record.enc p1).map .t)] kr rfl kr kr kr kr kr ?_
  refine Wp.srg [] [] ?_
  refine Runs.alln ?_
  refine Wp.fg ⟨[(2, .obj 2 0), (3, .obj 3 0), (4, .t (.bool false))], [(2, ((Record.enc p0).map .t)), (3, ((Record.enc p1).map .t))], []⟩ ?_
  refine Wp.seq ?_
  refine Wp.srg [] [] ?_
  refine Runs.alln ?_
  refine Wp.fg ⟨[(2, .obj 2 0), (3, .obj 3 0), (4, .t (.bool false)), (9, .t (.bool (p0.fGen != p1.fGen)))], [(2, ((Record.enc p0).map .t)), (3, ((Record.enc p1).map .t))], []⟩ ?_
  refine Wp.cond2 (b := p0.fGen != p1.fGen) kr (fun hc => ?_) (fun hc => ?_)
  · have h := cond_t h hc
    refine Wp.srg [] [] ?_
    refine Runs.alln ?_
    refine Wp.fg ⟨[(2, .obj 2 0), (3, .obj 3 0), (4, .t (.bool false))], [(2, ((Record.enc p0).map .t)), (3, ((Record.enc p1).map .t))], []⟩ ?_
    refine Wp.ret ?_
    refine thenR ?_
    have hr := Option.some.inj h
    subst hr
    exact RetK [.t (.bool false)] (.one (.t (.bool false))) [] kr kr (.refl _) .nil
  · have h := cond_f h hc
    refine Wp.skip ?_
    refine thenN ?_
    refine Wp.seq ?_
    refine Wp.srg [] [] ?_
    refine Runs.alln ?_
    refine Wp.fg ⟨[(2, .obj 2 0), (3, .obj 3 0), (4, .t (.bool false)), (14, .t (.bool (p0.fSlot != p1.fSlot)))], [(2, ((Record.enc p0).map .t)), (3, ((Record.enc p1).map .t))], []⟩ ?_
    refine Wp.cond2 (b := p0.fSlot != p1.fSlot) kr (fun hc => ?_) (fun hc => ?_)
    · have h := cond_t h hc
      refine Wp.srg [] [] ?_
      refine Runs.alln ?_
      refine Wp.fg ⟨[(2, .obj 2 0), (3, .obj 3 0), (4, .t (.bool false))], [(2, ((Record.enc p0).map .t)), (3, ((Record.enc p1).map .t))], []⟩ ?_
      refine Wp.ret ?_
      refine thenR ?_
      have hr := Option.some.inj h
      subst hr
      exact RetK [.t (.bool false)] (.one (.t (.bool false))) [] kr kr (.refl _) .nil
    · have h := cond_f h hc
      refine Wp.skip ?_
      refine thenN ?_
      refine Wp.seq ?_
      refine Wp.srg [] [] ?_
      refine Runs.alln ?_
      refine Wp.fg ⟨[(4, .t (.bool false)), (19, .t (.bool (p0.fLen != p1.fLen)))], [], []⟩ ?_
      refine Wp.cond2 (b := p0.fLen != p1.fLen) kr (fun hc => ?_) (fun hc => ?_)
      · have h := cond_t h hc
        refine Wp.srg [] [] ?_
        refine Runs.alln ?_
        refine Wp.fg ⟨[(4, .t (.bool false))], [], []⟩ ?_
        refine Wp.ret ?_
        refine thenR ?_
        have hr := Option.some.inj h
        subst hr
        exact RetK [.t (.bool false)] (.one (.t (.bool false))) [] kr kr (.refl _) .nil
      · have h := cond_f h hc
        refine Wp.skip ?_
        refine thenN ?_
        refine Wp.srg [] [] ?_
        refine Runs.alln ?_
        refine Wp.fg ⟨[(4, .t (.bool true))], [], []⟩ ?_
        refine Wp.ret ?_
        have hr := Option.some.inj h
        subst hr
        exact RetK [.t (.bool true)] (.one (.t (.bool true))) [] kr kr (.refl _) .nil
theorem laws_eqPut_ok (u : Nat) (p0 : Put) (p1 : Put) (r : Bool) (h : laws_eqPut u p0 p1 = some r) : CallOK Tryz.prog 114 [.agg [.t (.int .i64 p0.fWhat), .t (.int .i64 p0.fAt), .t (.sl 1 (p0.fB.map (eInt .u8))), .t (.int .i64 p0.fR.fGen), .t (.int .i64 p0.fR.fSlot), .t (.int .i64 p0.fR.fLen)], .agg [.t (.int .i64 p1.fWhat), .t (.int .i64 p1.fAt), .t (.sl 1 (p1.fB.map (eInt .u8))), .t (.int .i64 p1.fR.fGen), .t (.int .i64 p1.fR.fSlot), .t (.int .i64 p1.fR.fLen)]] (.one (.t (.bool r))) [] := by
  unfold laws_eqPut at h
  refine CallOK.of_bodyK (fn := Tryz.f114) (m := false) [.agg ((Put.enc p0).map .t), .agg ((Put.enc p1).map .t)] kr rfl kr kr kr kr kr ?_
  refine Wp.srg [] [] ?_
  refine Runs.alln ?_
  refine Wp.fg ⟨[(2, .obj 2 0), (3, .obj 3 0), (4, .t (.bool false))], [(2, ((Put.enc p0).map .t)), (3, ((Put.enc p1).map .t))], []⟩ ?_
  refine Wp.seq ?_
  refine Wp.srg [] [] ?_
  refine Runs.alln ?_
  refine Wp.fg ⟨[(2, .obj 2 0), (3, .obj 3 0), (4, .t (.bool false)), (9, .t (.bool (p0.fWhat != p1.fWhat)))], [(2, ((Put.enc p0).map .t)), (3, ((Put.enc p1).map .t))], []⟩ ?_
  refine Wp.cond2 (b := p0.fWhat != p1.fWhat) kr (fun hc => ?_) (fun hc => ?_)
  · have h := cond_t h hc
    refine Wp.srg [] [] ?_
    refine Runs.alln ?_
    refine Wp.fg ⟨[(2, .obj 2 0), (3, .obj 3 0), (4, .t (.bool false))], [(2, ((Put.enc p0).map .t)), (3, ((Put.enc p1).map .t))], []⟩ ?_
    refine Wp.ret ?_
    refine thenR ?_
    have hr := Option.some.inj h
    subst hr
    exact RetK [.t (.bool false)] (.one (.t (.bool false))) [] kr kr (.refl _) .nil
  · have h := cond_f h hc
    refine Wp.skip ?_
    refine thenN ?_
    refine Wp.seq ?_
    refine Wp.srg [] [] ?_
    refine Runs.alln ?_
    refine Wp.fg ⟨[(2, .obj 2 0), (3, .obj 3 0), (4, .t (.bool false)), (14, .t (.bool (p0.fAt != p1.fAt)))], [(2, ((Put.enc p0).map .t)), (3, ((Put.enc p1).map .t))], []⟩ ?_
    refine Wp.cond2 (b := p0.fAt != p1.fAt) kr (fun hc => ?_) (fun hc => ?_)
    · have h := cond_t h hc
      refine Wp.srg [] [] ?_
      refine Runs.alln ?_
      refine Wp.fg ⟨[(2, .obj 2 0), (3, .obj 3 0), (4, .t (.bool false))], [(2, ((Put.enc p0).map .t)), (3, ((Put.enc p1).map .t))], []⟩ ?_
      refine Wp.ret ?_
      refine thenR ?_
      have hr := Option.some.inj h
      subst hr
      exact RetK [.t (.bool false)] (.one (.t (.bool false))) [] kr kr (.refl _) .nil
    · have h := cond_f h hc
      refine Wp.skip ?_
      refine thenN ?_
      refine Wp.seq ?_
      refine Wp.srg [] [] ?_
      refine Runs.batch 4 kr ?_
      obtain ⟨r1, e_r1, h⟩ := bind_some h
      refine Runs.callK false 19 33 [] [.t (.sl 1 (p0.fB.map (eInt .u8))), .t (.sl 1 (p1.fB.map (eInt .u8)))] [.one (.t (.sl 1 (p0.fB.map (eInt .u8)))), .one (.t (.sl 1 (p1.fB.map (eInt .u8))))] (.one (.t (.bool r1))) [] rfl rfl kr kr kr kr kr (laws_eqByteS_ok u p0.fB p1.fB r1 e_r1) kr ?_
      refine Runs.alln ?_
      refine Wp.fg ⟨[(2, .obj 2 0), (3, .obj 3 0), (4, .t (.bool false)), (20, .t (.bool (!r1)))], [(2, ((Put.enc p0).map .t)), (3, ((Put.enc p1).map .t))], []⟩ ?_
      refine Wp.cond2 (b := !r1) kr (fun hc => ?_) (fun hc => ?_)
      · have h := cond_t h hc
        refine Wp.srg [] [] ?_
        refine Runs.alln ?_
        refine Wp.fg ⟨[(2, .obj 2 0), (3, .obj 3 0), (4, .t (.bool false))], [(2, ((Put.enc p0).map .t)), (3, ((Put.enc p1).map .t))], []⟩ ?_
        refine Wp.ret ?_
        refine thenR ?_
        have hr := Option.some.inj h
        subst hr
        exact RetK [.t (.bool false)] (.one (.t (.bool false))) [] kr kr (.refl _) .nil
      · have h := cond_f h hc
        refine Wp.skip ?_
        refine thenN ?_
        refine Wp.seq ?_
        refine Wp.srg [] [] ?_
        refine Runs.batch 4 kr ?_
        obtain ⟨r2, e_r2, h⟩ := bind_some h
        refine Runs.callK false 25 97 [] [.agg ((Record.enc p0.fR).map .t), .agg ((Record.enc p1.fR).map .t)] [.agg ((Record.enc p0.fR).map .t), .agg ((Record.enc p1.fR).map .t)] (.one (.t (.bool r2))) [] rfl rfl kr kr kr kr kr (laws_eqRecord_ok u p0.fR p1.fR r2 e_r2) kr ?_
        refine Runs.alln ?_
        refine Wp.fg ⟨[(4, .t (.bool false)), (26, .t (.bool (!r2)))], [], []⟩ ?_
        refine Wp.cond2 (b := !r2) kr (fun hc => ?_) (fun hc => ?_)
        · have h := cond_t h hc
          refine Wp.srg [] [] ?_
          refine Runs.alln ?_
          refine Wp.fg ⟨[(4, .t (.bool false))], [], []⟩ ?_
          refine Wp.ret ?_
          refine thenR ?_
          have hr := Option.some.inj h
          subst hr
          exact RetK [.t (.bool false)] (.one (.t (.bool false))) [] kr kr (.refl _) .nil
        · have h := cond_f h hc
          refine Wp.skip ?_
          refine thenN ?_
          refine Wp.srg [] [] ?_
          refine Runs.alln ?_
          refine Wp.fg ⟨[(4, .t (.bool true))], [], []⟩ ?_
          refine Wp.ret ?_
          have hr := Option.some.inj h
          subst hr
          exact RetK [.t (.bool true)] (.one (.t (.bool true))) [] kr kr (.refl _) .nil
theorem laws_eqPutS_ok (u : Nat) (p0 : List Put) (p1 : List Put) (r : Bool) (h : laws_eqPutS u p0 p1 = some r) : CallOK Tryz.prog 98 [.one (.t (.sl 6 (p0.map Put.enc))), .one (.t (.sl 6 (p1.map Put.enc)))] (.one (.t (.bool r))) [] := by
  unfold laws_eqPutS at h
  refine CallOK.of_bodyK (fn := Tryz.f98) (m := false) [.t (.sl 6 (p0.map Put.enc)), .t (.sl 6 (p1.map Put.enc))] kr rfl kr kr kr kr kr ?_
  refine Wp.srg [] [] ?_
  refine Runs.alln ?_
  refine Wp.fg ⟨[(0, .t (.sl 6 (p0.map Put.enc))), (1, .t (.sl 6 (p1.map Put.enc))), (4, .t (.bool false))], [], []⟩ ?_
  refine Wp.seq ?_
  refine Wp.srg [] [] ?_
  refine Runs.batch 1 kr ?_
  refine Runs.lenT (y := .t (.sl 6 (p0.map Put.enc))) (e := 139) Put.enc p0 6 rfl rfl rfl kr kr kr kr kr ?_
  refine Runs.batch 1 kr ?_
  refine Runs.lenT (y := .t (.sl 6 (p1.map Put.enc))) (e := 139) Put.enc p1 6 rfl rfl rfl kr kr kr kr kr ?_
  refine Runs.alln ?_
  refine Wp.fg ⟨[(0, .t (.sl 6 (p0.map Put.enc))), (1, .t (.sl 6 (p1.map Put.enc))), (4, .t (.bool false)), (10, .t (.bool (((p0.length : Int)) != ((p1.length : Int)))))], [], []⟩ ?_
  refine Wp.cond2 (b := ((p0.length : Int)) != ((p1.length : Int))) kr (fun hc => ?_) (fun hc => ?_)
  · have h := cond_t h hc
    refine Wp.srg [] [] ?_
    refine Runs.alln ?_
    refine Wp.fg ⟨[(0, .t (.sl 6 (p0.map Put.enc))), (1, .t (.sl 6 (p1.map Put.enc))), (4, .t (.bool false))], [], []⟩ ?_
    refine Wp.ret ?_
    refine thenR ?_
    have hr := Option.some.inj h
    subst hr
    exact RetK [.t (.bool false)] (.one (.t (.bool false))) [] kr kr (.refl _) .nil
  · have h := cond_f h hc
    refine Wp.skip ?_
    refine thenN ?_
    refine Wp.seqJ (α := Unit) (fun a => ⟨[(4, .t (.bool false))], [], []⟩) (fun a => laws_eqPutS_j1 u = some r) ?_ ?_
    · rintro ⟨⟩ h
      change laws_eqPutS_j1 u = some r at h
      unfold laws_eqPutS_j1 at h
      refine Wp.srg [] [] ?_
      refine Runs.alln ?_
      refine Wp.fg ⟨[(4, .t (.bool true))], [], []⟩ ?_
      refine Wp.ret ?_
      have hr := Option.some.inj h
      subst hr
      exact RetK [.t (.bool true)] (.one (.t (.bool true))) [] kr kr (.refl _) .nil
    · refine Wp.srg [] [] ?_
      refine Runs.alln ?_
      refine Wp.fg ⟨[(0, .t (.sl 6 (p0.map Put.enc))), (1, .t (.sl 6 (p1.map Put.enc))), (4, .t (.bool false)), (5, .t (.int .i64 0))], [], []⟩ ?_
      refine Wp.block ?_
      refine Wp.loopF (α := (List Put) × (List Put) × Int) (fun a => ⟨[(0, .t (.sl 6 (a.1.map Put.enc))), (1, .t (.sl 6 (a.2.1.map Put.enc))), (4, .t (.bool false)), (5, .t (.int .i64 a.2.2))], [], []⟩) (fun k_laws_eqPutS_l2 a => laws_eqPutS_l2 u k_laws_eqPutS_l2 a.1 a.2.1 a.2.2 = some r) ?_ ?_ u (p0, p1, 0) h (Le.of (mo := []) (mr := []) kr kr kr kr)
      · intro a h; unfold laws_eqPutS_l2 at h; cases h
      · rintro k_laws_eqPutS_l2 ⟨p0, p1, x2⟩ h
        change laws_eqPutS_l2 u (k_laws_eqPutS_l2 + 1) p0 p1 x2 = some r at h
        rw [laws_eqPutS_l2] at h
        refine Wp.seq ?_
        refine Wp.srg [] [] ?_
        refine Runs.batch 2 kr ?_
        refine Runs.lenT (y := .t (.sl 6 (p0.map Put.enc))) (e := 139) Put.enc p0 6 rfl rfl rfl kr kr kr kr kr ?_
        refine Runs.alln ?_
        refine Wp.fg ⟨[(0, .t (.sl 6 (p0.map Put.enc))), (1, .t (.sl 6 (p1.map Put.enc))), (4, .t (.bool false)), (5, .t (.int .i64 x2)), (11, .t (.int .i64 x2)), (12, .t (.sl 6 (p0.map Put.enc))), (13, .t (.int .i64 ((p0.length : Int)))), (14, .t (.bool (decide (x2 < ((p0.length : Int))))))], [], []⟩ ?_
        refine Wp.cond2 (b := decide (x2 < ((p0.length : Int)))) kr (fun hc => ?_) (fun hc => ?_)
        · have h := cond_t h hc
          refine Wp.skip ?_
          refine thenN ?_
          refine Wp.seq ?_
          refine Wp.block ?_
          refine Wp.seq ?_
          refine Wp.regionA (pOf []) (rhoOf [(0, .frz), (1, .frz), (5, .frz), (17, .frz), (18, .frz), (19, .frz), (20, .frz), (21, .frz), (22, .frz), (23, .frz), (24, .frz), (25, .frz)]) kr kr ?_
          refine Runs.batch 2 kr ?_
          obtain ⟨y4, e_y4, h⟩ := bind_some h
          refine Runs.idxT (e := 139) (kk := .i64) (sz := 6) Put.enc p0 x2 rfl kr kr kr kr kr kr e_y4 ?_
          refine Runs.batch 3 kr ?_
          obtain ⟨y5, e_y5, h⟩ := bind_some h
          refine Runs.idxT (e := 139) (kk := .i64) (sz := 6) Put.enc p1 x2 rfl kr kr kr kr kr kr e_y5 ?_
          refine Runs.batch 1 kr ?_
          obtain ⟨r6, e_r6, h⟩ := bind_some h
          refine Runs.callK false 25 114 [] [.agg ((Put.enc y4).map .t), .agg ((Put.enc y5).map .t)] [.agg ((Put.enc y4).map .t), .agg ((Put.enc y5).map .t)] (.one (.t (.bool r6))) [] rfl rfl kr kr kr kr kr (laws_eqPut_ok u y4 y5 r6 e_r6) kr ?_
          refine Runs.alln ?_
          refine Wp.fg ⟨[(0, .t (.sl 6 (p0.map Put.enc))), (1, .t (.sl 6 (p1.map Put.enc))), (4, .t (.bool false)), (5, .t (.int .i64 x2)), (11, .t (.int .i64 x2)), (12, .t (.sl 6 (p0.map Put.enc))), (13, .t (.int .i64 ((p0.length : Int)))), (14, .t (.bool (decide (x2 < ((p0.length : Int)))))), (17, .t (.sl 6 (p0.map Put.enc))), (18, .t (.int .i64 x2)), (19, .fadr (Put.enc y4)), (20, .agg ((Put.enc y4).map .t)), (21, .t (.sl 6 (p1.map Put.enc))), (22, .t (.int .i64 x2)), (23, .fadr (Put.enc y5)), (24, .agg ((Put.enc y5).map .t)), (25, .t (.bool r6)), (26, .t (.bool (!r6)))], [], []⟩ ?_
          refine Wp.cond2 (b := !r6) kr (fun hc => ?_) (fun hc => ?_)
          · have h := cond_t h hc
            refine Wp.srg [] [] ?_
            refine Runs.alln ?_
            refine Wp.fg ⟨[(0, .t (.sl 6 (p0.map Put.enc))), (1, .t (.sl 6 (p1.map Put.enc))), (4, .t (.bool false)), (5, .t (.int .i64 x2)), (11, .t (.int .i64 x2)), (12, .t (.sl 6 (p0.map Put.enc))), (13, .t (.int .i64 ((p0.length : Int)))), (14, .t (.bool (decide (x2 < ((p0.length : Int)))))), (17, .t (.sl 6 (p0.map Put.enc))), (18, .t (.int .i64 x2)), (19, .fadr (Put.enc y4)), (20, .agg ((Put.enc y4).map .t)), (21, .t (.sl 6 (p1.map Put.enc))), (22, .t (.int .i64 x2)), (23, .fadr (Put.enc y5)), (24, .agg ((Put.enc y5).map .t)), (25, .t (.bool r6)), (26, .t (.bool (!r6)))], [], []⟩ ?_
            refine Wp.ret ?_
            refine blkR ?_
            refine thenR ?_
            refine thenR ?_
            refine blkR ?_
            refine thenR ?_
            have hr := Option.some.inj h
            subst hr
            exact RetK [.t (.bool false)] (.one (.t (.bool false))) [] kr kr (.refl _) .nil
          · have h := cond_f h hc
            refine Wp.skip ?_
            refine blkN ?_
            refine thenN ?_
            refine Wp.rg [] [] ?_
            refine Runs.alln ?_
            exact ⟨(p0, p1, bAdd .i64 x2 1), h, Le.of (mo := []) (mr := []) kr kr kr kr⟩
        · have h := cond_f h hc
          refine Wp.exit ?_
          refine thenE ?_
          refine thenE ?_
          refine blkE ?_
          refine thenN ?_
          exact ⟨(), h, Le.of (mo := []) (mr := []) kr kr kr kr⟩
theorem laws_eqDisk_ok (u : Nat) (p0 : Disk) (p1 : Disk) (r : Bool) (h : laws_eqDisk u p0 p1 = some r) : CallOK Tryz.prog 70 [.agg [.t (.sl 1 (p0.fA.map (eInt .u8))), .t (.sl 1 (p0.fB.map (eInt .u8))), .t (.int .i64 p0.fR.fGen), .t (.int .i64 p0.fR.fSlot), .t (.int .i64 p0.fR.fLen), .t (.sl 6 (p0.fP.map Put.enc))], .agg [.t (.sl 1 (p1.fA.map (eInt .u8))), .t (.sl 1 (p1.fB.map (eInt .u8))), .t (.int .i64 p1.fR.fGen), .t (.int .i64 p1.fR.fSlot), .t (.int .i64 p1.fR.fLen), .t (.sl 6 (p1.fP.map Put.enc))]] (.one (.t (.bool r))) [] := by
  unfold laws_eqDisk at h
  refine CallOK.of_bodyK (fn := Tryz.f70) (m := false) [.agg ((Disk.enc p0).map .t), .agg ((Disk.enc p1).map .t)] kr rfl kr kr kr kr kr ?_
  refine Wp.srg [] [] ?_
  refine Runs.alln ?_
  refine Wp.fg ⟨[(2, .obj 2 0), (3, .obj 3 0), (4, .t (.bool false))], [(2, ((Disk.enc p0).map .t)), (3, ((Disk.enc p1).map .t))], []⟩ ?_
  refine Wp.seq ?_
  refine Wp.srg [] [] ?_
  refine Runs.batch 4 kr ?_
  obtain ⟨r1, e_r1, h⟩ := bind_some h
  refine Runs.callK false 9 33 [] [.t (.sl 1 (p0.fA.map (eInt .u8))), .t (.sl 1 (p1.fA.map (eInt .u8)))] [.one (.t (.sl 1 (p0.fA.map (eInt .u8)))), .one (.t (.sl 1 (p1.fA.map (eInt .u8))))] (.one (.t (.bool r1))) [] rfl rfl kr kr kr kr kr (laws_eqByteS_ok u p0.fA p1.fA r1 e_r1) kr ?_
  refine Runs.alln ?_
  refine Wp.fg ⟨[(2, .obj 2 0), (3, .obj 3 0), (4, .t (.bool false)), (10, .t (.bool (!r1)))], [(2, ((Disk.enc p0).map .t)), (3, ((Disk.enc p1).map .t))], []⟩ ?_
  refine Wp.cond2 (b := !r1) kr (fun hc => ?_) (fun hc => ?_)
  · have h := cond_t h hc
    refine Wp.srg [] [] ?_
    refine Runs.alln ?_
    refine Wp.fg ⟨[(2, .obj 2 0), (3, .obj 3 0), (4, .t (.bool false))], [(2, ((Disk.enc p0).map .t)), (3, ((Disk.enc p1).map .t))], []⟩ ?_
    refine Wp.ret ?_
    refine thenR ?_
    have hr := Option.some.inj h
    subst hr
    exact RetK [.t (.bool false)] (.one (.t (.bool false))) [] kr kr (.refl _) .nil
  · have h := cond_f h hc
    refine Wp.skip ?_
    refine thenN ?_
    refine Wp.seq ?_
    refine Wp.srg [] [] ?_
    refine Runs.batch 4 kr ?_
    obtain ⟨r2, e_r2, h⟩ := bind_some h
    refine Runs.callK false 15 33 [] [.t (.sl 1 (p0.fB.map (eInt .u8))), .t (.sl 1 (p1.fB.map (eInt .u8)))] [.one (.t (.sl 1 (p0.fB.map (eInt .u8)))), .one (.t (.sl 1 (p1.fB.map (eInt .u8))))] (.one (.t (.bool r2))) [] rfl rfl kr kr kr kr kr (laws_eqByteS_ok u p0.fB p1.fB r2 e_r2) kr ?_
    refine Runs.alln ?_
    refine Wp.fg ⟨[(2, .obj 2 0), (3, .obj 3 0), (4, .t (.bool false)), (16, .t (.bool (!r2)))], [(2, ((Disk.enc p0).map .t)), (3, ((Disk.enc p1).map .t))], []⟩ ?_
    refine Wp.cond2 (b := !r2) kr (fun hc => ?_) (fun hc => ?_)
    · have h := cond_t h hc
      refine Wp.srg [] [] ?_
      refine Runs.alln ?_
      refine Wp.fg ⟨[(2, .obj 2 0), (3, .obj 3 0), (4, .t (.bool false))], [(2, ((Disk.enc p0).map .t)), (3, ((Disk.enc p1).map .t))], []⟩ ?_
      refine Wp.ret ?_
      refine thenR ?_
      have hr := Option.some.inj h
      subst hr
      exact RetK [.t (.bool false)] (.one (.t (.bool false))) [] kr kr (.refl _) .nil
    · have h := cond_f h hc
      refine Wp.skip ?_
      refine thenN ?_
      refine Wp.seq ?_
      refine Wp.srg [] [] ?_
      refine Runs.batch 4 kr ?_
      obtain ⟨r3, e_r3, h⟩ := bind_some h
      refine Runs.callK false 21 97 [] [.agg ((Record.enc p0.fR).map .t), .agg ((Record.enc p1.fR).map .t)] [.agg ((Record.enc p0.fR).map .t), .agg ((Record.enc p1.fR).map .t)] (.one (.t (.bool r3))) [] rfl rfl kr kr kr kr kr (laws_eqRecord_ok u p0.fR p1.fR r3 e_r3) kr ?_
      refine Runs.alln ?_
      refine Wp.fg ⟨[(2, .obj 2 0), (3, .obj 3 0), (4, .t (.bool false)), (22, .t (.bool (!r3)))], [(2, ((Disk.enc p0).map .t)), (3, ((Disk.enc p1).map .t))], []⟩ ?_
      refine Wp.cond2 (b := !r3) kr (fun hc => ?_) (fun hc => ?_)
      · have h := cond_t h hc
        refine Wp.srg [] [] ?_
        refine Runs.alln ?_
        refine Wp.fg ⟨[(2, .obj 2 0), (3, .obj 3 0), (4, .t (.bool false))], [(2, ((Disk.enc p0).map .t)), (3, ((Disk.enc p1).map .t))], []⟩ ?_
        refine Wp.ret ?_
        refine thenR ?_
        have hr := Option.some.inj h
        subst hr
        exact RetK [.t (.bool false)] (.one (.t (.bool false))) [] kr kr (.refl _) .nil
      · have h := cond_f h hc
        refine Wp.skip ?_
        refine thenN ?_
        refine Wp.seq ?_
        refine Wp.srg [] [] ?_
        refine Runs.batch 4 kr ?_
        obtain ⟨r4, e_r4, h⟩ := bind_some h
        refine Runs.callK false 27 98 [] [.t (.sl 6 (p0.fP.map Put.enc)), .t (.sl 6 (p1.fP.map Put.enc))] [.one (.t (.sl 6 (p0.fP.map Put.enc))), .one (.t (.sl 6 (p1.fP.map Put.enc)))] (.one (.t (.bool r4))) [] rfl rfl kr kr kr kr kr (laws_eqPutS_ok u p0.fP p1.fP r4 e_r4) kr ?_
        refine Runs.alln ?_
        refine Wp.fg ⟨[(4, .t (.bool false)), (28, .t (.bool (!r4)))], [], []⟩ ?_
        refine Wp.cond2 (b := !r4) kr (fun hc => ?_) (fun hc => ?_)
        · have h := cond_t h hc
          refine Wp.srg [] [] ?_
          refine Runs.alln ?_
          refine Wp.fg ⟨[(4, .t (.bool false))], [], []⟩ ?_
          refine Wp.ret ?_
          refine thenR ?_
          have hr := Option.some.inj h
          subst hr
          exact RetK [.t (.bool false)] (.one (.t (.bool false))) [] kr kr (.refl _) .nil
        · have h := cond_f h hc
          refine Wp.skip ?_
          refine thenN ?_
          refine Wp.srg [] [] ?_
          refine Runs.alln ?_
          refine Wp.fg ⟨[(4, .t (.bool true))], [], []⟩ ?_
          refine Wp.ret ?_
          have hr := Option.some.inj h
          subst hr
          exact RetK [.t (.bool true)] (.one (.t (.bool true))) [] kr kr (.refl _) .nil
theorem laws_eqDiskS_ok (u : Nat) (p0 : List Disk) (p1 : List Disk) (r : Bool) (h : laws_eqDiskS u p0 p1 = some r) : CallOK Tryz.prog 36 [.one (.t (.sl 6 (p0.map Disk.enc))), .one (.t (.sl 6 (p1.map Disk.enc)))] (.one (.t (.bool r))) [] := by
  unfold laws_eqDiskS at h
  refine CallOK.of_bodyK (fn := Tryz.f36) (m := false) [.t (.sl 6 (p0.map Disk.enc)), .t (.sl 6 (p1.map Disk.enc))] kr rfl kr kr kr kr kr ?_
  refine Wp.srg [] [] ?_
  refine Runs.alln ?_
  refine Wp.fg ⟨[(0, .t (.sl 6 (p0.map Disk.enc))), (1, .t (.sl 6 (p1.map Disk.enc))), (4, .t (.bool false))], [], []⟩ ?_
  refine Wp.seq ?_
  refine Wp.srg [] [] ?_
  refine Runs.batch 1 kr ?_
  refine Runs.lenT (y := .t (.sl 6 (p0.map Disk.enc))) (e := 110) Disk.enc p0 6 rfl rfl rfl kr kr kr kr kr ?_
  refine Runs.batch 1 kr ?_
  refine Runs.lenT (y := .t (.sl 6 (p1.map Disk.enc))) (e := 110) Disk.enc p1 6 rfl rfl rfl kr kr kr kr kr ?_
  refine Runs.alln ?_
  refine Wp.fg ⟨[(0, .t (.sl 6 (p0.map Disk.enc))), (1, .t (.sl 6 (p1.map Disk.enc))), (4, .t (.bool false)), (10, .t (.bool (((p0.length : Int)) != ((p1.length : Int)))))], [], []⟩ ?_
  refine Wp.cond2 (b := ((p0.length : Int)) != ((p1.length : Int))) kr (fun hc => ?_) (fun hc => ?_)
  · have h := cond_t h hc
    refine Wp.srg [] [] ?_
    refine Runs.alln ?_
    refine Wp.fg ⟨[(0, .t (.sl 6 (p0.map Disk.enc))), (1, .t (.sl 6 (p1.map Disk.enc))), (4, .t (.bool false))], [], []⟩ ?_
    refine Wp.ret ?_
    refine thenR ?_
    have hr := Option.some.inj h
    subst hr
    exact RetK [.t (.bool false)] (.one (.t (.bool false))) [] kr kr (.refl _) .nil
  · have h := cond_f h hc
    refine Wp.skip ?_
    refine thenN ?_
    refine Wp.seqJ (α := Unit) (fun a => ⟨[(4, .t (.bool false))], [], []⟩) (fun a => laws_eqDiskS_j1 u = some r) ?_ ?_
    · rintro ⟨⟩ h
      change laws_eqDiskS_j1 u = some r at h
      unfold laws_eqDiskS_j1 at h
      refine Wp.srg [] [] ?_
      refine Runs.alln ?_
      refine Wp.fg ⟨[(4, .t (.bool true))], [], []⟩ ?_
      refine Wp.ret ?_
      have hr := Option.some.inj h
      subst hr
      exact RetK [.t (.bool true)] (.one (.t (.bool true))) [] kr kr (.refl _) .nil
    · refine Wp.srg [] [] ?_
      refine Runs.alln ?_
      refine Wp.fg ⟨[(0, .t (.sl 6 (p0.map Disk.enc))), (1, .t (.sl 6 (p1.map Disk.enc))), (4, .t (.bool false)), (5, .t (.int .i64 0))], [], []⟩ ?_
      refine Wp.block ?_
      refine Wp.loopF (α := (List Disk) × (List Disk) × Int) (fun a => ⟨[(0, .t (.sl 6 (a.1.map Disk.enc))), (1, .t (.sl 6 (a.2.1.map Disk.enc))), (4, .t (.bool false)), (5, .t (.int .i64 a.2.2))], [], []⟩) (fun k_laws_eqDiskS_l2 a => laws_eqDiskS_l2 u k_laws_eqDiskS_l2 a.1 a.2.1 a.2.2 = some r) ?_ ?_ u (p0, p1, 0) h (Le.of (mo := []) (mr := []) kr kr kr kr)
      · intro a h; unfold laws_eqDiskS_l2 at h; cases h
      · rintro k_laws_eqDiskS_l2 ⟨p0, p1, x2⟩ h
        change laws_eqDiskS_l2 u (k_laws_eqDiskS_l2 + 1) p0 p1 x2 = some r at h
        rw [laws_eqDiskS_l2] at h
        refine Wp.seq ?_
        refine Wp.srg [] [] ?_
        refine Runs.batch 2 kr ?_
        refine Runs.lenT (y := .t (.sl 6 (p0.map Disk.enc))) (e := 110) Disk.enc p0 6 rfl rfl rfl kr kr kr kr kr ?_
        refine Runs.alln ?_
        refine Wp.fg ⟨[(0, .t (.sl 6 (p0.map Disk.enc))), (1, .t (.sl 6 (p1.map Disk.enc))), (4, .t (.bool false)), (5, .t (.int .i64 x2)), (11, .t (.int .i64 x2)), (12, .t (.sl 6 (p0.map Disk.enc))), (13, .t (.int .i64 ((p0.length : Int)))), (14, .t (.bool (decide (x2 < ((p0.length : Int))))))], [], []⟩ ?_
        refine Wp.cond2 (b := decide (x2 < ((p0.length : Int)))) kr (fun hc => ?_) (fun hc => ?_)
        · have h := cond_t h hc
          refine Wp.skip ?_
          refine thenN ?_
          refine Wp.seq ?_
          refine Wp.block ?_
          refine Wp.seq ?_
          refine Wp.regionA (pOf []) (rhoOf [(0, .frz), (1, .frz), (5, .frz), (17, .frz), (18, .frz), (19, .frz), (20, .frz), (21, .frz), (22, .frz), (23, .frz), (24, .frz), (25, .frz)]) kr kr ?_
          refine Runs.batch 2 kr ?_
          obtain ⟨y4, e_y4, h⟩ := bind_some h
          refine Runs.idxT (e := 110) (kk := .i64) (sz := 6) Disk.enc p0 x2 rfl kr kr kr kr kr kr e_y4 ?_
          refine Runs.batch 3 kr ?_
          obtain ⟨y5, e_y5, h⟩ := bind_some h
          refine Runs.idxT (e := 110) (kk := .i64) (sz := 6) Disk.enc p1 x2 rfl kr kr kr kr kr kr e_y5 ?_
          refine Runs.batch 1 kr ?_
          obtain ⟨r6, e_r6, h⟩ := bind_some h
          refine Runs.callK false 25 70 [] [.agg ((Disk.enc y4).map .t), .agg ((Disk.enc y5).map .t)] [.agg ((Disk.enc y4).map .t), .agg ((Disk.enc y5).map .t)] (.one (.t (.bool r6))) [] rfl rfl kr kr kr kr kr (laws_eqDisk_ok u y4 y5 r6 e_r6) kr ?_
          refine Runs.alln ?_
          refine Wp.fg ⟨[(0, .t (.sl 6 (p0.map Disk.enc))), (1, .t (.sl 6 (p1.map Disk.enc))), (4, .t (.bool false)), (5, .t (.int .i64 x2)), (11, .t (.int .i64 x2)), (12, .t (.sl 6 (p0.map Disk.enc))), (13, .t (.int .i64 ((p0.length : Int)))), (14, .t (.bool (decide (x2 < ((p0.length : Int)))))), (17, .t (.sl 6 (p0.map Disk.enc))), (18, .t (.int .i64 x2)), (19, .fadr (Disk.enc y4)), (20, .agg ((Disk.enc y4).map .t)), (21, .t (.sl 6 (p1.map Disk.enc))), (22, .t (.int .i64 x2)), (23, .fadr (Disk.enc y5)), (24, .agg ((Disk.enc y5).map .t)), (25, .t (.bool r6)), (26, .t (.bool (!r6)))], [], []⟩ ?_
          refine Wp.cond2 (b := !r6) kr (fun hc => ?_) (fun hc => ?_)
          · have h := cond_t h hc
            refine Wp.srg [] [] ?_
            refine Runs.alln ?_
            refine Wp.fg ⟨[(0, .t (.sl 6 (p0.map Disk.enc))), (1, .t (.sl 6 (p1.map Disk.enc))), (4, .t (.bool false)), (5, .t (.int .i64 x2)), (11, .t (.int .i64 x2)), (12, .t (.sl 6 (p0.map Disk.enc))), (13, .t (.int .i64 ((p0.length : Int)))), (14, .t (.bool (decide (x2 < ((p0.length : Int)))))), (17, .t (.sl 6 (p0.map Disk.enc))), (18, .t (.int .i64 x2)), (19, .fadr (Disk.enc y4)), (20, .agg ((Disk.enc y4).map .t)), (21, .t (.sl 6 (p1.map Disk.enc))), (22, .t (.int .i64 x2)), (23, .fadr (Disk.enc y5)), (24, .agg ((Disk.enc y5).map .t)), (25, .t (.bool r6)), (26, .t (.bool (!r6)))], [], []⟩ ?_
            refine Wp.ret ?_
            refine blkR ?_
            refine thenR ?_
            refine thenR ?_
            refine blkR ?_
            refine thenR ?_
            have hr := Option.some.inj h
            subst hr
            exact RetK [.t (.bool false)] (.one (.t (.bool false))) [] kr kr (.refl _) .nil
          · have h := cond_f h hc
            refine Wp.skip ?_
            refine blkN ?_
            refine thenN ?_
            refine Wp.rg [] [] ?_
            refine Runs.alln ?_
            exact ⟨(p0, p1, bAdd .i64 x2 1), h, Le.of (mo := []) (mr := []) kr kr kr kr⟩
        · have h := cond_f h hc
          refine Wp.exit ?_
          refine thenE ?_
          refine thenE ?_
          refine blkE ?_
          refine thenN ?_
          exact ⟨(), h, Le.of (mo := []) (mr := []) kr kr kr kr⟩
theorem laws_eqPacket_ok (u : Nat) (p0 : Packet) (p1 : Packet) (r : Bool) (h : laws_eqPacket u p0 p1 = some r) : CallOK Tryz.prog 71 [.agg [.t (.int .i64 p0.fFrom), .t (.int .i64 p0.fTo), .t (.sl 1 (p0.fB.map (eInt .u8)))], .agg [.t (.int .i64 p1.fFrom), .t (.int .i64 p1.fTo), .t (.sl 1 (p1.fB.map (eInt .u8)))]] (.one (.t (.bool r))) [] := by
  unfold laws_eqPacket at h
  refine CallOK.of_bodyK (fn := Tryz.f71) (m := false) [.agg ((Packet.enc p0).map .t), .agg ((Packet.enc p1).map .t)] kr rfl kr kr kr kr kr ?_
  refine Wp.srg [] [] ?_
  refine Runs.alln ?_
  refine Wp.fg ⟨[(2, .obj 2 0), (3, .obj 3 0), (4, .t (.bool false))], [(2, ((Packet.enc p0).map .t)), (3, ((Packet.enc p1).map .t))], []⟩ ?_
  refine Wp.seq ?_
  refine Wp.srg [] [] ?_
  refine Runs.alln ?_
  refine Wp.fg ⟨[(2, .obj 2 0), (3, .obj 3 0), (4, .t (.bool false)), (9, .t (.bool (p0.fFrom != p1.fFrom)))], [(2, ((Packet.enc p0).map .t)), (3, ((Packet.enc p1).map .t))], []⟩ ?_
  refine Wp.cond2 (b := p0.fFrom != p1.fFrom) kr (fun hc => ?_) (fun hc => ?_)
  · have h := cond_t h hc
    refine Wp.srg [] [] ?_
    refine Runs.alln ?_
    refine Wp.fg ⟨[(2, .obj 2 0), (3, .obj 3 0), (4, .t (.bool false))], [(2, ((Packet.enc p0).map .t)), (3, ((Packet.enc p1).map .t))], []⟩ ?_
    refine Wp.ret ?_
    refine thenR ?_
    have hr := Option.some.inj h
    subst hr
    exact RetK [.t (.bool false)] (.one (.t (.bool false))) [] kr kr (.refl _) .nil
  · have h := cond_f h hc
    refine Wp.skip ?_
    refine thenN ?_
    refine Wp.seq ?_
    refine Wp.srg [] [] ?_
    refine Runs.alln ?_
    refine Wp.fg ⟨[(2, .obj 2 0), (3, .obj 3 0), (4, .t (.bool false)), (14, .t (.bool (p0.fTo != p1.fTo)))], [(2, ((Packet.enc p0).map .t)), (3, ((Packet.enc p1).map .t))], []⟩ ?_
    refine Wp.cond2 (b := p0.fTo != p1.fTo) kr (fun hc => ?_) (fun hc => ?_)
    · have h := cond_t h hc
      refine Wp.srg [] [] ?_
      refine Runs.alln ?_
      refine Wp.fg ⟨[(2, .obj 2 0), (3, .obj 3 0), (4, .t (.bool false))], [(2, ((Packet.enc p0).map .t)), (3, ((Packet.enc p1).map .t))], []⟩ ?_
      refine Wp.ret ?_
      refine thenR ?_
      have hr := Option.some.inj h
      subst hr
      exact RetK [.t (.bool false)] (.one (.t (.bool false))) [] kr kr (.refl _) .nil
    · have h := cond_f h hc
      refine Wp.skip ?_
      refine thenN ?_
      refine Wp.seq ?_
      refine Wp.srg [] [] ?_
      refine Runs.batch 4 kr ?_
      obtain ⟨r1, e_r1, h⟩ := bind_some h
      refine Runs.callK false 19 33 [] [.t (.sl 1 (p0.fB.map (eInt .u8))), .t (.sl 1 (p1.fB.map (eInt .u8)))] [.one (.t (.sl 1 (p0.fB.map (eInt .u8)))), .one (.t (.sl 1 (p1.fB.map (eInt .u8))))] (.one (.t (.bool r1))) [] rfl rfl kr kr kr kr kr (laws_eqByteS_ok u p0.fB p1.fB r1 e_r1) kr ?_
      refine Runs.alln ?_
      refine Wp.fg ⟨[(4, .t (.bool false)), (20, .t (.bool (!r1)))], [], []⟩ ?_
      refine Wp.cond2 (b := !r1) kr (fun hc => ?_) (fun hc => ?_)
      · have h := cond_t h hc
        refine Wp.srg [] [] ?_
        refine Runs.alln ?_
        refine Wp.fg ⟨[(4, .t (.bool false))], [], []⟩ ?_
        refine Wp.ret ?_
        refine thenR ?_
        have hr := Option.some.inj h
        subst hr
        exact RetK [.t (.bool false)] (.one (.t (.bool false))) [] kr kr (.refl _) .nil
      · have h := cond_f h hc
        refine Wp.skip ?_
        refine thenN ?_
        refine Wp.srg [] [] ?_
        refine Runs.alln ?_
        refine Wp.fg ⟨[(4, .t (.bool true))], [], []⟩ ?_
        refine Wp.ret ?_
        have hr := Option.some.inj h
        subst hr
        exact RetK [.t (.bool true)] (.one (.t (.bool true))) [] kr kr (.refl _) .nil
theorem laws_eqPacketS_ok (u : Nat) (p0 : List Packet) (p1 : List Packet) (r : Bool) (h : laws_eqPacketS u p0 p1 = some r) : CallOK Tryz.prog 37 [.one (.t (.sl 3 (p0.map Packet.enc))), .one (.t (.sl 3 (p1.map Packet.enc)))] (.one (.t (.bool r))) [] := by
  unfold laws_eqPacketS at h
  refine CallOK.of_bodyK (fn := Tryz.f37) (m := false) [.t (.sl 3 (p0.map Packet.enc)), .t (.sl 3 (p1.map Packet.enc))] kr rfl kr kr kr kr kr ?_
  refine Wp.srg [] [] ?_
  refine Runs.alln ?_
  refine Wp.fg ⟨[(0, .t (.sl 3 (p0.map Packet.enc))), (1, .t (.sl 3 (p1.map Packet.enc))), (4, .t (.bool false))], [], []⟩ ?_
  refine Wp.seq ?_
  refine Wp.srg [] [] ?_
  refine Runs.batch 1 kr ?_
  refine Runs.lenT (y := .t (.sl 3 (p0.map Packet.enc))) (e := 117) Packet.enc p0 3 rfl rfl rfl kr kr kr kr kr ?_
  refine Runs.batch 1 kr ?_
  refine Runs.lenT (y := .t (.sl 3 (p1.map Packet.enc))) (e := 117) Packet.enc p1 3 rfl rfl rfl kr kr kr kr kr ?_
  refine Runs.alln ?_
  refine Wp.fg ⟨[(0, .t (.sl 3 (p0.map Packet.enc))), (1, .t (.sl 3 (p1.map Packet.enc))), (4, .t (.bool false)), (10, .t (.bool (((p0.length : Int)) != ((p1.length : Int)))))], [], []⟩ ?_
  refine Wp.cond2 (b := ((p0.length : Int)) != ((p1.length : Int))) kr (fun hc => ?_) (fun hc => ?_)
  · have h := cond_t h hc
    refine Wp.srg [] [] ?_
    refine Runs.alln ?_
    refine Wp.fg ⟨[(0, .t (.sl 3 (p0.map Packet.enc))), (1, .t (.sl 3 (p1.map Packet.enc))), (4, .t (.bool false))], [], []⟩ ?_
    refine Wp.ret ?_
    refine thenR ?_
    have hr := Option.some.inj h
    subst hr
    exact RetK [.t (.bool false)] (.one (.t (.bool false))) [] kr kr (.refl _) .nil
  · have h := cond_f h hc
    refine Wp.skip ?_
    refine thenN ?_
    refine Wp.seqJ (α := Unit) (fun a => ⟨[(4, .t (.bool false))], [], []⟩) (fun a => laws_eqPacketS_j1 u = some r) ?_ ?_
    · rintro ⟨⟩ h
      change laws_eqPacketS_j1 u = some r at h
      unfold laws_eqPacketS_j1 at h
      refine Wp.srg [] [] ?_
      refine Runs.alln ?_
      refine Wp.fg ⟨[(4, .t (.bool true))], [], []⟩ ?_
      refine Wp.ret ?_
      have hr := Option.some.inj h
      subst hr
      exact RetK [.t (.bool true)] (.one (.t (.bool true))) [] kr kr (.refl _) .nil
    · refine Wp.srg [] [] ?_
      refine Runs.alln ?_
      refine Wp.fg ⟨[(0, .t (.sl 3 (p0.map Packet.enc))), (1, .t (.sl 3 (p1.map Packet.enc))), (4, .t (.bool false)), (5, .t (.int .i64 0))], [], []⟩ ?_
      refine Wp.block ?_
      refine Wp.loopF (α := (List Packet) × (List Packet) × Int) (fun a => ⟨[(0, .t (.sl 3 (a.1.map Packet.enc))), (1, .t (.sl 3 (a.2.1.map Packet.enc))), (4, .t (.bool false)), (5, .t (.int .i64 a.2.2))], [], []⟩) (fun k_laws_eqPacketS_l2 a => laws_eqPacketS_l2 u k_laws_eqPacketS_l2 a.1 a.2.1 a.2.2 = some r) ?_ ?_ u (p0, p1, 0) h (Le.of (mo := []) (mr := []) kr kr kr kr)
      · intro a h; unfold laws_eqPacketS_l2 at h; cases h
      · rintro k_laws_eqPacketS_l2 ⟨p0, p1, x2⟩ h
        change laws_eqPacketS_l2 u (k_laws_eqPacketS_l2 + 1) p0 p1 x2 = some r at h
        rw [laws_eqPacketS_l2] at h
        refine Wp.seq ?_
        refine Wp.srg [] [] ?_
        refine Runs.batch 2 kr ?_
        refine Runs.lenT (y := .t (.sl 3 (p0.map Packet.enc))) (e := 117) Packet.enc p0 3 rfl rfl rfl kr kr kr kr kr ?_
        refine Runs.alln ?_
        refine Wp.fg ⟨[(0, .t (.sl 3 (p0.map Packet.enc))), (1, .t (.sl 3 (p1.map Packet.enc))), (4, .t (.bool false)), (5, .t (.int .i64 x2)), (11, .t (.int .i64 x2)), (12, .t (.sl 3 (p0.map Packet.enc))), (13, .t (.int .i64 ((p0.length : Int)))), (14, .t (.bool (decide (x2 < ((p0.length : Int))))))], [], []⟩ ?_
        refine Wp.cond2 (b := decide (x2 < ((p0.length : Int)))) kr (fun hc => ?_) (fun hc => ?_)
        · have h := cond_t h hc
          refine Wp.skip ?_
          refine thenN ?_
          refine Wp.seq ?_
          refine Wp.block ?_
          refine Wp.seq ?_
          refine Wp.regionA (pOf []) (rhoOf [(0, .frz), (1, .frz), (5, .frz), (17, .frz), (18, .frz), (19, .frz), (20, .frz), (21, .frz), (22, .frz), (23, .frz), (24, .frz), (25, .frz)]) kr kr ?_
          refine Runs.batch 2 kr ?_
          obtain ⟨y4, e_y4, h⟩ := bind_some h
          refine Runs.idxT (e := 117) (kk := .i64) (sz := 3) Packet.enc p0 x2 rfl kr kr kr kr kr kr e_y4 ?_
          refine Runs.batch 3 kr ?_
          obtain ⟨y5, e_y5, h⟩ := bind_some h
          refine Runs.idxT (e := 117) (kk := .i64) (sz := 3) Packet.enc p1 x2 rfl kr kr kr kr kr kr e_y5 ?_
          refine Runs.batch 1 kr ?_
          obtain ⟨r6, e_r6, h⟩ := bind_some h
          refine Runs.callK false 25 71 [] [.agg ((Packet.enc y4).map .t), .agg ((Packet.enc y5).map .t)] [.agg ((Packet.enc y4).map .t), .agg ((Packet.enc y5).map .t)] (.one (.t (.bool r6))) [] rfl rfl kr kr kr kr kr (laws_eqPacket_ok u y4 y5 r6 e_r6) kr ?_
          refine Runs.alln ?_
          refine Wp.fg ⟨[(0, .t (.sl 3 (p0.map Packet.enc))), (1, .t (.sl 3 (p1.map Packet.enc))), (4, .t (.bool false)), (5, .t (.int .i64 x2)), (11, .t (.int .i64 x2)), (12, .t (.sl 3 (p0.map Packet.enc))), (13, .t (.int .i64 ((p0.length : Int)))), (14, .t (.bool (decide (x2 < ((p0.length : Int)))))), (17, .t (.sl 3 (p0.map Packet.enc))), (18, .t (.int .i64 x2)), (19, .fadr (Packet.enc y4)), (20, .agg ((Packet.enc y4).map .t)), (21, .t (.sl 3 (p1.map Packet.enc))), (22, .t (.int .i64 x2)), (23, .fadr (Packet.enc y5)), (24, .agg ((Packet.enc y5).map .t)), (25, .t (.bool r6)), (26, .t (.bool (!r6)))], [], []⟩ ?_
          refine Wp.cond2 (b := !r6) kr (fun hc => ?_) (fun hc => ?_)
          · have h := cond_t h hc
            refine Wp.srg [] [] ?_
            refine Runs.alln ?_
            refine Wp.fg ⟨[(0, .t (.sl 3 (p0.map Packet.enc))), (1, .t (.sl 3 (p1.map Packet.enc))), (4, .t (.bool false)), (5, .t (.int .i64 x2)), (11, .t (.int .i64 x2)), (12, .t (.sl 3 (p0.map Packet.enc))), (13, .t (.int .i64 ((p0.length : Int)))), (14, .t (.bool (decide (x2 < ((p0.length : Int)))))), (17, .t (.sl 3 (p0.map Packet.enc))), (18, .t (.int .i64 x2)), (19, .fadr (Packet.enc y4)), (20, .agg ((Packet.enc y4).map .t)), (21, .t (.sl 3 (p1.map Packet.enc))), (22, .t (.int .i64 x2)), (23, .fadr (Packet.enc y5)), (24, .agg ((Packet.enc y5).map .t)), (25, .t (.bool r6)), (26, .t (.bool (!r6)))], [], []⟩ ?_
            refine Wp.ret ?_
            refine blkR ?_
            refine thenR ?_
            refine thenR ?_
            refine blkR ?_
            refine thenR ?_
            have hr := Option.some.inj h
            subst hr
            exact RetK [.t (.bool false)] (.one (.t (.bool false))) [] kr kr (.refl _) .nil
          · have h := cond_f h hc
            refine Wp.skip ?_
            refine blkN ?_
            refine thenN ?_
            refine Wp.rg [] [] ?_
            refine Runs.alln ?_
            exact ⟨(p0, p1, bAdd .i64 x2 1), h, Le.of (mo := []) (mr := []) kr kr kr kr⟩
        · have h := cond_f h hc
          refine Wp.exit ?_
          refine thenE ?_
          refine thenE ?_
          refine blkE ?_
          refine thenN ?_
          exact ⟨(), h, Le.of (mo := []) (mr := []) kr kr kr kr⟩
theorem laws_eqSent_ok (u : Nat) (p0 : Sent) (p1 : Sent) (r : Bool) (h : laws_eqSent u p0 p1 = some r) : CallOK Tryz.prog 72 [.agg [.t (.int .i64 p0.fFrom), .t (.int .i64 p0.fTo), .t (.int .i64 p0.fI)], .agg [.t (.int .i64 p1.fFrom), .t (.int .i64 p1.fTo), .t (.int .i64 p1.fI)]] (.one (.t (.bool r))) [] := by
  unfold laws_eqSent at h
  refine CallOK.of_bodyK (fn := Tryz.f72) (m := false) [.agg ((Sent.enc p0).map .t), .agg ((Sent.enc p1).map .t)] kr rfl kr kr kr kr kr ?_
  refine Wp.srg [] [] ?_
  refine Runs.alln ?_
  refine Wp.fg ⟨[(2, .obj 2 0), (3, .obj 3 0), (4, .t (.bool false))], [(2, ((Sent.enc p0).map .t)), (3, ((Sent.enc p1).map .t))], []⟩ ?_
  refine Wp.seq ?_
  refine Wp.srg [] [] ?_
  refine Runs.alln ?_
  refine Wp.fg ⟨[(2, .obj 2 0), (3, .obj 3 0), (4, .t (.bool false)), (9, .t (.bool (p0.fFrom != p1.fFrom)))], [(2, ((Sent.enc p0).map .t)), (3, ((Sent.enc p1).map .t))], []⟩ ?_
  refine Wp.cond2 (b := p0.fFrom != p1.fFrom) kr (fun hc => ?_) (fun hc => ?_)
  · have h := cond_t h hc
    refine Wp.srg [] [] ?_
    refine Runs.alln ?_
    refine Wp.fg ⟨[(2, .obj 2 0), (3, .obj 3 0), (4, .t (.bool false))], [(2, ((Sent.enc p0).map .t)), (3, ((Sent.enc p1).map .t))], []⟩ ?_
    refine Wp.ret ?_
    refine thenR ?_
    have hr := Option.some.inj h
    subst hr
    exact RetK [.t (.bool false)] (.one (.t (.bool false))) [] kr kr (.refl _) .nil
  · have h := cond_f h hc
    refine Wp.skip ?_
    refine thenN ?_
    refine Wp.seq ?_
    refine Wp.srg [] [] ?_
    refine Runs.alln ?_
    refine Wp.fg ⟨[(2, .obj 2 0), (3, .obj 3 0), (4, .t (.bool false)), (14, .t (.bool (p0.fTo != p1.fTo)))], [(2, ((Sent.enc p0).map .t)), (3, ((Sent.enc p1).map .t))], []⟩ ?_
    refine Wp.cond2 (b := p0.fTo != p1.fTo) kr (fun hc => ?_) (fun hc => ?_)
    · have h := cond_t h hc
      refine Wp.srg [] [] ?_
      refine Runs.alln ?_
      refine Wp.fg ⟨[(2, .obj 2 0), (3, .obj 3 0), (4, .t (.bool false))], [(2, ((Sent.enc p0).map .t)), (3, ((Sent.enc p1).map .t))], []⟩ ?_
      refine Wp.ret ?_
      refine thenR ?_
      have hr := Option.some.inj h
      subst hr
      exact RetK [.t (.bool false)] (.one (.t (.bool false))) [] kr kr (.refl _) .nil
    · have h := cond_f h hc
      refine Wp.skip ?_
      refine thenN ?_
      refine Wp.seq ?_
      refine Wp.srg [] [] ?_
      refine Runs.alln ?_
      refine Wp.fg ⟨[(4, .t (.bool false)), (19, .t (.bool (p0.fI != p1.fI)))], [], []⟩ ?_
      refine Wp.cond2 (b := p0.fI != p1.fI) kr (fun hc => ?_) (fun hc => ?_)
      · have h := cond_t h hc
        refine Wp.srg [] [] ?_
        refine Runs.alln ?_
        refine Wp.fg ⟨[(4, .t (.bool false))], [], []⟩ ?_
        refine Wp.ret ?_
        refine thenR ?_
        have hr := Option.some.inj h
        subst hr
        exact RetK [.t (.bool false)] (.one (.t (.bool false))) [] kr kr (.refl _) .nil
      · have h := cond_f h hc
        refine Wp.skip ?_
        refine thenN ?_
        refine Wp.srg [] [] ?_
        refine Runs.alln ?_
        refine Wp.fg ⟨[(4, .t (.bool true))], [], []⟩ ?_
        refine Wp.ret ?_
        have hr := Option.some.inj h
        subst hr
        exact RetK [.t (.bool true)] (.one (.t (.bool true))) [] kr kr (.refl _) .nil
theorem laws_eqSentS_ok (u : Nat) (p0 : List Sent) (p1 : List Sent) (r : Bool) (h : laws_eqSentS u p0 p1 = some r) : CallOK Tryz.prog 38 [.one (.t (.sl 3 (p0.map Sent.enc))), .one (.t (.sl 3 (p1.map Sent.enc)))] (.one (.t (.bool r))) [] := by
  unfold laws_eqSentS at h
  refine CallOK.of_bodyK (fn := Tryz.f38) (m := false) [.t (.sl 3 (p0.map Sent.enc)), .t (.sl 3 (p1.map Sent.enc))] kr rfl kr kr kr kr kr ?_
  refine Wp.srg [] [] ?_
  refine Runs.alln ?_
  refine Wp.fg ⟨[(0, .t (.sl 3 (p0.map Sent.enc))), (1, .t (.sl 3 (p1.map Sent.enc))), (4, .t (.bool false))], [], []⟩ ?_
  refine Wp.seq ?_
  refine Wp.srg [] [] ?_
  refine Runs.batch 1 kr ?_
  refine Runs.lenT (y := .t (.sl 3 (p0.map Sent.enc))) (e := 112) Sent.enc p0 3 rfl rfl rfl kr kr kr kr kr ?_
  refine Runs.batch 1 kr ?_
  refine Runs.lenT (y := .t (.sl 3 (p1.map Sent.enc))) (e := 112) Sent.enc p1 3 rfl rfl rfl kr kr kr kr kr ?_
  refine Runs.alln ?_
  refine Wp.fg ⟨[(0, .t (.sl 3 (p0.map Sent.enc))), (1, .t (.sl 3 (p1.map Sent.enc))), (4, .t (.bool false)), (10, .t (.bool (((p0.length : Int)) != ((p1.length : Int)))))], [], []⟩ ?_
  refine Wp.cond2 (b := ((p0.length : Int)) != ((p1.length : Int))) kr (fun hc => ?_) (fun hc => ?_)
  · have h := cond_t h hc
    refine Wp.srg [] [] ?_
    refine Runs.alln ?_
    refine Wp.fg ⟨[(0, .t (.sl 3 (p0.map Sent.enc))), (1, .t (.sl 3 (p1.map Sent.enc))), (4, .t (.bool false))], [], []⟩ ?_
    refine Wp.ret ?_
    refine thenR ?_
    have hr := Option.some.inj h
    subst hr
    exact RetK [.t (.bool false)] (.one (.t (.bool false))) [] kr kr (.refl _) .nil
  · have h := cond_f h hc
    refine Wp.skip ?_
    refine thenN ?_
    refine Wp.seqJ (α := Unit) (fun a => ⟨[(4, .t (.bool false))], [], []⟩) (fun a => laws_eqSentS_j1 u = some r) ?_ ?_
    · rintro ⟨⟩ h
      change laws_eqSentS_j1 u = some r at h
      unfold laws_eqSentS_j1 at h
      refine Wp.srg [] [] ?_
      refine Runs.alln ?_
      refine Wp.fg ⟨[(4, .t (.bool true))], [], []⟩ ?_
      refine Wp.ret ?_
      have hr := Option.some.inj h
      subst hr
      exact RetK [.t (.bool true)] (.one (.t (.bool true))) [] kr kr (.refl _) .nil
    · refine Wp.srg [] [] ?_
      refine Runs.alln ?_
      refine Wp.fg ⟨[(0, .t (.sl 3 (p0.map Sent.enc))), (1, .t (.sl 3 (p1.map Sent.enc))), (4, .t (.bool false)), (5, .t (.int .i64 0))], [], []⟩ ?_
      refine Wp.block ?_
      refine Wp.loopF (α := (List Sent) × (List Sent) × Int) (fun a => ⟨[(0, .t (.sl 3 (a.1.map Sent.enc))), (1, .t (.sl 3 (a.2.1.map Sent.enc))), (4, .t (.bool false)), (5, .t (.int .i64 a.2.2))], [], []⟩) (fun k_laws_eqSentS_l2 a => laws_eqSentS_l2 u k_laws_eqSentS_l2 a.1 a.2.1 a.2.2 = some r) ?_ ?_ u (p0, p1, 0) h (Le.of (mo := []) (mr := []) kr kr kr kr)
      · intro a h; unfold laws_eqSentS_l2 at h; cases h
      · rintro k_laws_eqSentS_l2 ⟨p0, p1, x2⟩ h
        change laws_eqSentS_l2 u (k_laws_eqSentS_l2 + 1) p0 p1 x2 = some r at h
        rw [laws_eqSentS_l2] at h
        refine Wp.seq ?_
        refine Wp.srg [] [] ?_
        refine Runs.batch 2 kr ?_
        refine Runs.lenT (y := .t (.sl 3 (p0.map Sent.enc))) (e := 112) Sent.enc p0 3 rfl rfl rfl kr kr kr kr kr ?_
        refine Runs.alln ?_
        refine Wp.fg ⟨[(0, .t (.sl 3 (p0.map Sent.enc))), (1, .t (.sl 3 (p1.map Sent.enc))), (4, .t (.bool false)), (5, .t (.int .i64 x2)), (11, .t (.int .i64 x2)), (12, .t (.sl 3 (p0.map Sent.enc))), (13, .t (.int .i64 ((p0.length : Int)))), (14, .t (.bool (decide (x2 < ((p0.length : Int))))))], [], []⟩ ?_
        refine Wp.cond2 (b := decide (x2 < ((p0.length : Int)))) kr (fun hc => ?_) (fun hc => ?_)
        · have h := cond_t h hc
          refine Wp.skip ?_
          refine thenN ?_
          refine Wp.seq ?_
          refine Wp.block ?_
          refine Wp.seq ?_
          refine Wp.regionA (pOf []) (rhoOf [(0, .frz), (1, .frz), (5, .frz), (17, .frz), (18, .frz), (19, .frz), (20, .frz), (21, .frz), (22, .frz), (23, .frz), (24, .frz), (25, .frz)]) kr kr ?_
          refine Runs.batch 2 kr ?_
          obtain ⟨y4, e_y4, h⟩ := bind_some h
          refine Runs.idxT (e := 112) (kk := .i64) (sz := 3) Sent.enc p0 x2 rfl kr kr kr kr kr kr e_y4 ?_
          refine Runs.batch 3 kr ?_
          obtain ⟨y5, e_y5, h⟩ := bind_some h
          refine Runs.idxT (e := 112) (kk := .i64) (sz := 3) Sent.enc p1 x2 rfl kr kr kr kr kr kr e_y5 ?_
          refine Runs.batch 1 kr ?_
          obtain ⟨r6, e_r6, h⟩ := bind_some h
          refine Runs.callK false 25 72 [] [.agg ((Sent.enc y4).map .t), .agg ((Sent.enc y5).map .t)] [.agg ((Sent.enc y4).map .t), .agg ((Sent.enc y5).map .t)] (.one (.t (.bool r6))) [] rfl rfl kr kr kr kr kr (laws_eqSent_ok u y4 y5 r6 e_r6) kr ?_
          refine Runs.alln ?_
          refine Wp.fg ⟨[(0, .t (.sl 3 (p0.map Sent.enc))), (1, .t (.sl 3 (p1.map Sent.enc))), (4, .t (.bool false)), (5, .t (.int .i64 x2)), (11, .t (.int .i64 x2)), (12, .t (.sl 3 (p0.map Sent.enc))), (13, .t (.int .i64 ((p0.length : Int)))), (14, .t (.bool (decide (x2 < ((p0.length : Int)))))), (17, .t (.sl 3 (p0.map Sent.enc))), (18, .t (.int .i64 x2)), (19, .fadr (Sent.enc y4)), (20, .agg ((Sent.enc y4).map .t)), (21, .t (.sl 3 (p1.map Sent.enc))), (22, .t (.int .i64 x2)), (23, .fadr (Sent.enc y5)), (24, .agg ((Sent.enc y5).map .t)), (25, .t (.bool r6)), (26, .t (.bool (!r6)))], [], []⟩ ?_
          refine Wp.cond2 (b := !r6) kr (fun hc => ?_) (fun hc => ?_)
          · have h := cond_t h hc
            refine Wp.srg [] [] ?_
            refine Runs.alln ?_
            refine Wp.fg ⟨[(0, .t (.sl 3 (p0.map Sent.enc))), (1, .t (.sl 3 (p1.map Sent.enc))), (4, .t (.bool false)), (5, .t (.int .i64 x2)), (11, .t (.int .i64 x2)), (12, .t (.sl 3 (p0.map Sent.enc))), (13, .t (.int .i64 ((p0.length : Int)))), (14, .t (.bool (decide (x2 < ((p0.length : Int)))))), (17, .t (.sl 3 (p0.map Sent.enc))), (18, .t (.int .i64 x2)), (19, .fadr (Sent.enc y4)), (20, .agg ((Sent.enc y4).map .t)), (21, .t (.sl 3 (p1.map Sent.enc))), (22, .t (.int .i64 x2)), (23, .fadr (Sent.enc y5)), (24, .agg ((Sent.enc y5).map .t)), (25, .t (.bool r6)), (26, .t (.bool (!r6)))], [], []⟩ ?_
            refine Wp.ret ?_
            refine blkR ?_
            refine thenR ?_
            refine thenR ?_
            refine blkR ?_
            refine thenR ?_
            have hr := Option.some.inj h
            subst hr
            exact RetK [.t (.bool false)] (.one (.t (.bool false))) [] kr kr (.refl _) .nil
          · have h := cond_f h hc
            refine Wp.skip ?_
            refine blkN ?_
            refine thenN ?_
            refine Wp.rg [] [] ?_
            refine Runs.alln ?_
            exact ⟨(p0, p1, bAdd .i64 x2 1), h, Le.of (mo := []) (mr := []) kr kr kr kr⟩
        · have h := cond_f h hc
          refine Wp.exit ?_
          refine thenE ?_
          refine thenE ?_
          refine blkE ?_
          refine thenN ?_
          exact ⟨(), h, Le.of (mo := []) (mr := []) kr kr kr kr⟩
theorem laws_eqWorld_ok (u : Nat) (p0 : World) (p1 : World) (r : Bool) (h : laws_eqWorld u p0 p1 = some r) : CallOK Tryz.prog 9 [.agg [.t (.int .i64 p0.fC.fSize), .t (.int .i64 p0.fC.fWindow), .t (.int .i64 p0.fC.fSuspect), .t (.int .i64 p0.fC.fForget), .t (.sl 1 (p0.fT.fUp.map (eInt .i64))), .t (.sl 1 (p0.fNew.map (eInt .u8))), .t (.sl 1 (p0.fOld.map Image.enc)), .t (.sl 12 (p0.fN.map Node.enc)), .t (.sl 6 (p0.fD.map Disk.enc)), .t (.sl 3 (p0.fNet.map Packet.enc)), .t (.sl 3 (p0.fLog.map Sent.enc)), .t (.int .i64 p0.fLost)], .agg [.t (.int .i64 p1.fC.fSize), .t (.int .i64 p1.fC.fWindow), .t (.int .i64 p1.fC.fSuspect), .t (.int .i64 p1.fC.fForget), .t (.sl 1 (p1.fT.fUp.map (eInt .i64))), .t (.sl 1 (p1.fNew.map (eInt .u8))), .t (.sl 1 (p1.fOld.map Image.enc)), .t (.sl 12 (p1.fN.map Node.enc)), .t (.sl 6 (p1.fD.map Disk.enc)), .t (.sl 3 (p1.fNet.map Packet.enc)), .t (.sl 3 (p1.fLog.map Sent.enc)), .t (.int .i64 p1.fLost)]] (.one (.t (.bool r))) [] := by
  unfold laws_eqWorld at h
  refine CallOK.of_bodyK (fn := Tryz.f9) (m := false) [.agg ((World.enc p0).map .t), .agg ((World.enc p1).map .t)] kr rfl kr kr kr kr kr ?_
  refine Wp.srg [] [] ?_
  refine Runs.alln ?_
  refine Wp.fg ⟨[(2, .obj 2 0), (3, .obj 3 0), (4, .t (.bool false))], [(2, ((World.enc p0).map .t)), (3, ((World.enc p1).map .t))], []⟩ ?_
  refine Wp.seq ?_
  refine Wp.srg [] [] ?_
  refine Runs.batch 4 kr ?_
  obtain ⟨r1, e_r1, h⟩ := bind_some h
  refine Runs.callK false 9 31 [] [.agg ((Conf.enc p0.fC).map .t), .agg ((Conf.enc p1.fC).map .t)] [.agg ((Conf.enc p0.fC).map .t), .agg ((Conf.enc p1.fC).map .t)] (.one (.t (.bool r1))) [] rfl rfl kr kr kr kr kr (laws_eqConf_ok u p0.fC p1.fC r1 e_r1) kr ?_
  refine Runs.alln ?_
  refine Wp.fg ⟨[(2, .obj 2 0), (3, .obj 3 0), (4, .t (.bool false)), (10, .t (.bool (!r1)))], [(2, ((World.enc p0).map .t)), (3, ((World.enc p1).map .t))], []⟩ ?_
  refine Wp.cond2 (b := !r1) kr (fun hc => ?_) (fun hc => ?_)
  · have h := cond_t h hc
    refine Wp.srg [] [] ?_
    refine Runs.alln ?_
    refine Wp.fg ⟨[(2, .obj 2 0), (3, .obj 3 0), (4, .t (.bool false))], [(2, ((World.enc p0).map .t)), (3, ((World.enc p1).map .t))], []⟩ ?_
    refine Wp.ret ?_
    refine thenR ?_
    have hr := Option.some.inj h
    subst hr
    exact RetK [.t (.bool false)] (.one (.t (.bool false))) [] kr kr (.refl _) .nil
  · have h := cond_f h hc
    refine Wp.skip ?_
    refine thenN ?_
    refine Wp.seq ?_
    refine Wp.srg [] [] ?_
    refine Runs.batch 4 kr ?_
    obtain ⟨r2, e_r2, h⟩ := bind_some h
    refine Runs.callK false 15 32 [] [.agg [.t (.sl 1 (p0.fT.fUp.map (eInt .i64)))], .agg [.t (.sl 1 (p1.fT.fUp.map (eInt .i64)))]] [.agg [.t (.sl 1 (p0.fT.fUp.map (eInt .i64)))], .agg [.t (.sl 1 (p1.fT.fUp.map (eInt .i64)))]] (.one (.t (.bool r2))) [] rfl rfl kr kr kr kr kr (laws_eqTree_ok u p0.fT p1.fT r2 e_r2) kr ?_
    refine Runs.alln ?_
    refine Wp.fg ⟨[(2, .obj 2 0), (3, .obj 3 0), (4, .t (.bool false)), (16, .t (.bool (!r2)))], [(2, ((World.enc p0).map .t)), (3, ((World.enc p1).map .t))], []⟩ ?_
    refine Wp.cond2 (b := !r2) kr (fun hc => ?_) (fun hc => ?_)
    · have h := cond_t h hc
      refine Wp.srg [] [] ?_
      refine Runs.alln ?_
      refine Wp.fg ⟨[(2, .obj 2 0), (3, .obj 3 0), (4, .t (.bool false))], [(2, ((World.enc p0).map .t)), (3, ((World.enc p1).map .t))], []⟩ ?_
      refine Wp.ret ?_
      refine thenR ?_
      have hr := Option.some.inj h
      subst hr
      exact RetK [.t (.bool false)] (.one (.t (.bool false))) [] kr kr (.refl _) .nil
    · have h := cond_f h hc
      refine Wp.skip ?_
      refine thenN ?_
      refine Wp.seq ?_
      refine Wp.srg [] [] ?_
      refine Runs.batch 4 kr ?_
      obtain ⟨r3, e_r3, h⟩ := bind_some h
      refine Runs.callK false 21 33 [] [.t (.sl 1 (p0.fNew.map (eInt .u8))), .t (.sl 1 (p1.fNew.map (eInt .u8)))] [.one (.t (.sl 1 (p0.fNew.map (eInt .u8)))), .one (.t (.sl 1 (p1.fNew.map (eInt .u8))))] (.one (.t (.bool r3))) [] rfl rfl kr kr kr kr kr (laws_eqByteS_ok u p0.fNew p1.fNew r3 e_r3) kr ?_
      refine Runs.alln ?_
      refine Wp.fg ⟨[(2, .obj 2 0), (3, .obj 3 0), (4, .t (.bool false)), (22, .t (.bool (!r3)))], [(2, ((World.enc p0).map .t)), (3, ((World.enc p1).map .t))], []⟩ ?_
      refine Wp.cond2 (b := !r3) kr (fun hc => ?_) (fun hc => ?_)
      · have h := cond_t h hc
        refine Wp.srg [] [] ?_
        refine Runs.alln ?_
        refine Wp.fg ⟨[(2, .obj 2 0), (3, .obj 3 0), (4, .t (.bool false))], [(2, ((World.enc p0).map .t)), (3, ((World.enc p1).map .t))], []⟩ ?_
        refine Wp.ret ?_
        refine thenR ?_
        have hr := Option.some.inj h
        subst hr
        exact RetK [.t (.bool false)] (.one (.t (.bool false))) [] kr kr (.refl _) .nil
      · have h := cond_f h hc
        refine Wp.skip ?_
        refine thenN ?_
        refine Wp.seq ?_
        refine Wp.srg [] [] ?_
        refine Runs.batch 4 kr ?_
        obtain ⟨r4, e_r4, h⟩ := bind_some h
        refine Runs.callK false 27 34 [] [.t (.sl 1 (p0.fOld.map Image.enc)), .t (.sl 1 (p1.fOld.map Image.enc))] [.one (.t (.sl 1 (p0.fOld.map Image.enc))), .one (.t (.sl 1 (p1.fOld.map Image.enc)))] (.one (.t (.bool r4))) [] rfl rfl kr kr kr kr kr (laws_eqImageS_ok u p0.fOld p1.fOld r4 e_r4) kr ?_
        refine Runs.alln ?_
        refine Wp.fg ⟨[(2, .obj 2 0), (3, .obj 3 0), (4, .t (.bool false)), (28, .t (.bool (!r4)))], [(2, ((World.enc p0).map .t)), (3, ((World.enc p1).map .t))], []⟩ ?_
        refine Wp.cond2 (b := !r4) kr (fun hc => ?_) (fun hc => ?_)
        · have h := cond_t h hc
          refine Wp.srg [] [] ?_
          refine Runs.alln ?_
          refine Wp.fg ⟨[(2, .obj 2 0), (3, .obj 3 0), (4, .t (.bool false))], [(2, ((World.enc p0).map .t)), (3, ((World.enc p1).map .t))], []⟩ ?_
          refine Wp.ret ?_
          refine thenR ?_
          have hr := Option.some.inj h
          subst hr
          exact RetK [.t (.bool false)] (.one (.t (.bool false))) [] kr kr (.refl _) .nil
        · have h := cond_f h hc
          refine Wp.skip ?_
          refine thenN ?_
          refine Wp.seq ?_
          refine Wp.srg [] [] ?_
          refine Runs.batch 4 kr ?_
          obtain ⟨r5, e_r5, h⟩ := bind_some h
          refine Runs.callK false 33 35 [] [.t (.sl 12 (p0.fN.map Node.enc)), .t (.sl 12 (p1.fN.map Node.enc))] [.one (.t (.sl 12 (p0.fN.map Node.enc))), .one (.t (.sl 12 (p1.fN.map Node.enc)))] (.one (.t (.bool r5))) [] rfl rfl kr kr kr kr kr (laws_eqNodeS_ok u p0.fN p1.fN r5 e_r5) kr ?_
          refine Runs.alln ?_
          refine Wp.fg ⟨[(2, .obj 2 0), (3, .obj 3 0), (4, .t (.bool false)), (34, .t (.bool (!r5)))], [(2, ((World.enc p0).map .t)), (3, ((World.enc p1).map .t))], []⟩ ?_
          refine Wp.cond2 (b := !r5) kr (fun hc => ?_) (fun hc => ?_)
          · have h := cond_t h hc
            refine Wp.srg [] [] ?_
            refine Runs.alln ?_
            refine Wp.fg ⟨[(2, .obj 2 0), (3, .obj 3 0), (4, .t (.bool false))], [(2, ((World.enc p0).map .t)), (3, ((World.enc p1).map .t))], []⟩ ?_
            refine Wp.ret ?_
            refine thenR ?_
            have hr := Option.some.inj h
            subst hr
            exact RetK [.t (.bool false)] (.one (.t (.bool false))) [] kr kr (.refl _) .nil
          · have h := cond_f h hc
            refine Wp.skip ?_
            refine thenN ?_
            refine Wp.seq ?_
            refine Wp.srg [] [] ?_
            refine Runs.batch 4 kr ?_
            obtain ⟨r6, e_r6, h⟩ := bind_some h
            refine Runs.callK false 39 36 [] [.t (.sl 6 (p0.fD.map Disk.enc)), .t (.sl 6 (p1.fD.map Disk.enc))] [.one (.t (.sl 6 (p0.fD.map Disk.enc))), .one (.t (.sl 6 (p1.fD.map Disk.enc)))] (.one (.t (.bool r6))) [] rfl rfl kr kr kr kr kr (laws_eqDiskS_ok u p0.fD p1.fD r6 e_r6) kr ?_
            refine Runs.alln ?_
            refine Wp.fg ⟨[(2, .obj 2 0), (3, .obj 3 0), (4, .t (.bool false)), (40, .t (.bool (!r6)))], [(2, ((World.enc p0).map .t)), (3, ((World.enc p1).map .t))], []⟩ ?_
            refine Wp.cond2 (b := !r6) kr (fun hc => ?_) (fun hc => ?_)
            · have h := cond_t h hc
              refine Wp.srg [] [] ?_
              refine Runs.alln ?_
              refine Wp.fg ⟨[(2, .obj 2 0), (3, .obj 3 0), (4, .t (.bool false))], [(2, ((World.enc p0).map .t)), (3, ((World.enc p1).map .t))], []⟩ ?_
              refine Wp.ret ?_
              refine thenR ?_
              have hr := Option.some.inj h
              subst hr
              exact RetK [.t (.bool false)] (.one (.t (.bool false))) [] kr kr (.refl _) .nil
            · have h := cond_f h hc
              refine Wp.skip ?_
              refine thenN ?_
              refine Wp.seq ?_
              refine Wp.srg [] [] ?_
              refine Runs.batch 4 kr ?_
              obtain ⟨r7, e_r7, h⟩ := bind_some h
              refine Runs.callK false 45 37 [] [.t (.sl 3 (p0.fNet.map Packet.enc)), .t (.sl 3 (p1.fNet.map Packet.enc))] [.one (.t (.sl 3 (p0.fNet.map Packet.enc))), .one (.t (.sl 3 (p1.fNet.map Packet.enc)))] (.one (.t (.bool r7))) [] rfl rfl kr kr kr kr kr (laws_eqPacketS_ok u p0.fNet p1.fNet r7 e_r7) kr ?_
              refine Runs.alln ?_
              refine Wp.fg ⟨[(2, .obj 2 0), (3, .obj 3 0), (4, .t (.bool false)), (46, .t (.bool (!r7)))], [(2, ((World.enc p0).map .t)), (3, ((World.enc p1).map .t))], []⟩ ?_
              refine Wp.cond2 (b := !r7) kr (fun hc => ?_) (fun hc => ?_)
              · have h := cond_t h hc
                refine Wp.srg [] [] ?_
                refine Runs.alln ?_
                refine Wp.fg ⟨[(2, .obj 2 0), (3, .obj 3 0), (4, .t (.bool false))], [(2, ((World.enc p0).map .t)), (3, ((World.enc p1).map .t))], []⟩ ?_
                refine Wp.ret ?_
                refine thenR ?_
                have hr := Option.some.inj h
                subst hr
                exact RetK [.t (.bool false)] (.one (.t (.bool false))) [] kr kr (.refl _) .nil
              · have h := cond_f h hc
                refine Wp.skip ?_
                refine thenN ?_
                refine Wp.seq ?_
                refine Wp.srg [] [] ?_
                refine Runs.batch 4 kr ?_
                obtain ⟨r8, e_r8, h⟩ := bind_some h
                refine Runs.callK false 51 38 [] [.t (.sl 3 (p0.fLog.map Sent.enc)), .t (.sl 3 (p1.fLog.map Sent.enc))] [.one (.t (.sl 3 (p0.fLog.map Sent.enc))), .one (.t (.sl 3 (p1.fLog.map Sent.enc)))] (.one (.t (.bool r8))) [] rfl rfl kr kr kr kr kr (laws_eqSentS_ok u p0.fLog p1.fLog r8 e_r8) kr ?_
                refine Runs.alln ?_
                refine Wp.fg ⟨[(2, .obj 2 0), (3, .obj 3 0), (4, .t (.bool false)), (52, .t (.bool (!r8)))], [(2, ((World.enc p0).map .t)), (3, ((World.enc p1).map .t))], []⟩ ?_
                refine Wp.cond2 (b := !r8) kr (fun hc => ?_) (fun hc => ?_)
                · have h := cond_t h hc
                  refine Wp.srg [] [] ?_
                  refine Runs.alln ?_
                  refine Wp.fg ⟨[(2, .obj 2 0), (3, .obj 3 0), (4, .t (.bool false))], [(2, ((World.enc p0).map .t)), (3, ((World.enc p1).map .t))], []⟩ ?_
                  refine Wp.ret ?_
                  refine thenR ?_
                  have hr := Option.some.inj h
                  subst hr
                  exact RetK [.t (.bool false)] (.one (.t (.bool false))) [] kr kr (.refl _) .nil
                · have h := cond_f h hc
                  refine Wp.skip ?_
                  refine thenN ?_
                  refine Wp.seq ?_
                  refine Wp.srg [] [] ?_
                  refine Runs.alln ?_
                  refine Wp.fg ⟨[(4, .t (.bool false)), (57, .t (.bool (p0.fLost != p1.fLost)))], [], []⟩ ?_
                  refine Wp.cond2 (b := p0.fLost != p1.fLost) kr (fun hc => ?_) (fun hc => ?_)
                  · have h := cond_t h hc
                    refine Wp.srg [] [] ?_
                    refine Runs.alln ?_
                    refine Wp.fg ⟨[(4, .t (.bool false))], [], []⟩ ?_
                    refine Wp.ret ?_
                    refine thenR ?_
                    have hr := Option.some.inj h
                    subst hr
                    exact RetK [.t (.bool false)] (.one (.t (.bool false))) [] kr kr (.refl _) .nil
                  · have h := cond_f h hc
                    refine Wp.skip ?_
                    refine thenN ?_
                    refine Wp.srg [] [] ?_
                    refine Runs.alln ?_
                    refine Wp.fg ⟨[(4, .t (.bool true))], [], []⟩ ?_
                    refine Wp.ret ?_
                    have hr := Option.some.inj h
                    subst hr
                    exact RetK [.t (.bool true)] (.one (.t (.bool true))) [] kr kr (.refl _) .nil
theorem laws_FnExactAllNew_ok (u : Nat) (p0 : World) (r : Bool) (h : laws_FnExactAllNew u p0 = some r) : CallOK Tryz.prog 4 [.agg [.t (.int .i64 p0.fC.fSize), .t (.int .i64 p0.fC.fWindow), .t (.int .i64 p0.fC.fSuspect), .t (.int .i64 p0.fC.fForget), .t (.sl 1 (p0.fT.fUp.map (eInt .i64))), .t (.sl 1 (p0.fNew.map (eInt .u8))), .t (.sl 1 (p0.fOld.map Image.enc)), .t (.sl 12 (p0.fN.map Node.enc)), .t (.sl 6 (p0.fD.map Disk.enc)), .t (.sl 3 (p0.fNet.map Packet.enc)), .t (.sl 3 (p0.fLog.map Sent.enc)), .t (.int .i64 p0.fLost)]] (.one (.t (.bool r))) [] := by
  unfold laws_FnExactAllNew at h
  refine CallOK.of_bodyK (fn := Tryz.f4) (m := false) [.agg ((World.enc p0).map .t)] kr rfl kr kr kr kr kr ?_
  refine Wp.srg [] [] ?_
  refine Runs.alln ?_
  refine Wp.fg ⟨[(1, .obj 1 0), (2, .t (.bool false))], [(1, ((World.enc p0).map .t))], []⟩ ?_
  refine Wp.srg [] [] ?_
  refine Runs.alln ?_
  refine Wp.fg ⟨[(1, .obj 1 0), (2, .t (.bool false)), (3, .t (.int .i64 1048576))], [(1, ((World.enc p0).map .t))], []⟩ ?_
  refine Wp.srg [] [] ?_
  refine Runs.batch 2 kr ?_
  obtain ⟨r1, e_r1, h⟩ := bind_some h
  refine Runs.callK false 9 5 [] [.agg ((World.enc p0).map .t), .t (.int .i64 1048576)] [.agg ((World.enc p0).map .t), .one (.t (.int .i64 1048576))] (.one (.t (.int .i64 r1))) [] rfl rfl kr kr kr kr kr (laws_szWorld_ok u p0 1048576 r1 e_r1) kr ?_
  refine Runs.alln ?_
  refine Wp.fg ⟨[(1, .obj 1 0), (2, .t (.bool false)), (3, .t (.int .i64 r1))], [(1, ((World.enc p0).map .t))], []⟩ ?_
  refine Wp.seq ?_
  refine Wp.srg [] [] ?_
  refine Runs.alln ?_
  refine Wp.fg ⟨[(1, .obj 1 0), (2, .t (.bool false)), (11, .t (.bool (decide (r1 < 0))))], [(1, ((World.enc p0).map .t))], []⟩ ?_
  refine Wp.cond2 (b := decide (r1 < 0)) kr (fun hc => ?_) (fun hc => ?_)
  · have h := cond_t h hc
    refine Wp.srg [] [] ?_
    refine Runs.alln ?_
    refine Wp.fg ⟨[(1, .obj 1 0), (2, .t (.bool true))], [(1, ((World.enc p0).map .t))], []⟩ ?_
    refine Wp.ret ?_
    refine thenR ?_
    have hr := Option.some.inj h
    subst hr
    exact RetK [.t (.bool true)] (.one (.t (.bool true))) [] kr kr (.refl _) .nil
  · have h := cond_f h hc
    refine Wp.skip ?_
    refine thenN ?_
    refine Wp.srg [] [] ?_
    refine Runs.batch 1 kr ?_
    obtain ⟨r2, e_r2, h⟩ := bind_some h
    refine Runs.callK false 13 7 [] [.agg ((World.enc p0).map .t)] [.agg ((World.enc p0).map .t)] (.agg [.t (.int .i64 r2.fC.fSize), .t (.int .i64 r2.fC.fWindow), .t (.int .i64 r2.fC.fSuspect), .t (.int .i64 r2.fC.fForget), .ow 3 1 (r2.fT.fUp.map (eInt .i64)), .ow 5 1 (r2.fNew.map (eInt .u8)), .ow 105 1 (r2.fOld.map Image.enc), .ow 64 12 (r2.fN.map Node.enc), .ow 110 6 (r2.fD.map Disk.enc), .ow 117 3 (r2.fNet.map Packet.enc), .ow 112 3 (r2.fLog.map Sent.enc), .t (.int .i64 r2.fLost)]) [] rfl rfl kr kr kr kr kr (laws_toWorld_ok u p0 r2 e_r2) kr ?_
    obtain ⟨r3, e_r3, h⟩ := bind_some h
    refine Runs.callBK 14 10 [] [.agg [.t (.int .i64 r2.fC.fSize), .t (.int .i64 r2.fC.fWindow), .t (.int .i64 r2.fC.fSuspect), .t (.int .i64 r2.fC.fForget), .own 851972, .own 851973, .own 851974, .own 851975, .own 851976, .own 851977, .own 851978, .t (.int .i64 r2.fLost)]] [.agg ((World.enc r2).map .t)] (.one (.t (.bool r3))) rfl rfl kr kr kr kr kr (spec_AllNew_ok u r2 r3 e_r3) (by simp [V.plain, V.plains, C.plain, T.sc]) kr ?_
    refine Runs.alln ?_
    refine Wp.fg ⟨[(1, .obj 1 0), (2, .t (.bool false)), (4, .t (.bool r3))], [(1, ((World.enc p0).map .t))], []⟩ ?_
    refine Wp.srg [] [] ?_
    refine Runs.batch 1 kr ?_
    obtain ⟨r4, e_r4, h⟩ := bind_some h
    refine Runs.callK false 16 7 [] [.agg ((World.enc p0).map .t)] [.agg ((World.enc p0).map .t)] (.agg [.t (.int .i64 r4.fC.fSize), .t (.int .i64 r4.fC.fWindow), .t (.int .i64 r4.fC.fSuspect), .t (.int .i64 r4.fC.fForget), .ow 3 1 (r4.fT.fUp.map (eInt .i64)), .ow 5 1 (r4.fNew.map (eInt .u8)), .ow 105 1 (r4.fOld.map Image.enc), .ow 64 12 (r4.fN.map Node.enc), .ow 110 6 (r4.fD.map Disk.enc), .ow 117 3 (r4.fNet.map Packet.enc), .ow 112 3 (r4.fLog.map Sent.enc), .t (.int .i64 r4.fLost)]) [] rfl rfl kr kr kr kr kr (laws_toWorld_ok u p0 r4 e_r4) kr ?_
    refine Runs.alln ?_
    refine Wp.fg ⟨[(1, .obj 1 0), (2, .t (.bool false)), (4, .t (.bool r3)), (5, .obj 5 0)], [(1, ((World.enc p0).map .t)), (5, [.t (.int .i64 r4.fC.fSize), .t (.int .i64 r4.fC.fWindow), .t (.int .i64 r4.fC.fSuspect), .t (.int .i64 r4.fC.fForget), .own 1048580, .own 1048581, .own 1048582, .own 1048583, .own 1048584, .own 1048585, .own 1048586, .t (.int .i64 r4.fLost)])], [(1048580, .live 3 1 (r4.fT.fUp.map (eInt .i64))), (1048581, .live 5 1 (r4.fNew.map (eInt .u8))), (1048582, .live 105 1 (r4.fOld.map Image.enc)), (1048583, .live 64 12 (r4.fN.map Node.enc)), (1048584, .live 110 6 (r4.fD.map Disk.enc)), (1048585, .live 117 3 (r4.fNet.map Packet.enc)), (1048586, .live 112 3 (r4.fLog.map Sent.enc))]⟩ ?_
    refine Wp.srg [] [] ?_
    refine Runs.batch 1 kr ?_
    obtain ⟨r5, e_r5, h⟩ := bind_some h
    refine Runs.callBK 18 11 [] [.agg [.t (.int .i64 r4.fC.fSize), .t (.int .i64 r4.fC.fWindow), .t (.int .i64 r4.fC.fSuspect), .t (.int .i64 r4.fC.fForget), .own 1048580, .own 1048581, .own 1048582, .own 1048583, .own 1048584, .own 1048585, .own 1048586, .t (.int .i64 r4.fLost)]] [.agg ((World.enc r4).map .t)] (.one (.t (.bool r5))) rfl rfl kr kr kr kr kr (impl_AllNew_ok u r4 r5 e_r5) (by simp [V.plain, V.plains, C.plain, T.sc]) kr ?_
    refine Runs.alln ?_
    refine Wp.fg ⟨[(1, .obj 1 0), (2, .t (.bool false)), (4, .t (.bool r3)), (5, .obj 5 0), (6, .t (.bool r5))], [(1, ((World.enc p0).map .t)), (5, [.t (.int .i64 r4.fC.fSize), .t (.int .i64 r4.fC.fWindow), .t (.int .i64 r4.fC.fSuspect), .t (.int .i64 r4.fC.fForget), .own 1048580, .own 1048581, .own 1048582, .own 1048583, .own 1048584, .own 1048585, .own 1048586, .t (.int .i64 r4.fLost)])], [(1048580, .live 3 1 (r4.fT.fUp.map (eInt .i64))), (1048581, .live 5 1 (r4.fNew.map (eInt .u8))), (1048582, .live 105 1 (r4.fOld.map Image.enc)), (1048583, .live 64 12 (r4.fN.map Node.enc)), (1048584, .live 110 6 (r4.fD.map Disk.enc)), (1048585, .live 117 3 (r4.fNet.map Packet.enc)), (1048586, .live 112 3 (r4.fLog.map Sent.enc))]⟩ ?_
    refine Wp.seq ?_
    refine Wp.srg [] [] ?_
    refine Runs.alln ?_
    refine Wp.fg ⟨[(1, .obj 1 0), (2, .t (.bool false)), (5, .obj 5 0), (21, .t (.bool (!(r5 == r3))))], [(1, ((World.enc p0).map .t)), (5, [.t (.int .i64 r4.fC.fSize), .t (.int .i64 r4.fC.fWindow), .t (.int .i64 r4.fC.fSuspect), .t (.int .i64 r4.fC.fForget), .own 1048580, .own 1048581, .own 1048582, .own 1048583, .own 1048584, .own 1048585, .own 1048586, .t (.int .i64 r4.fLost)])], [(1048580, .live 3 1 (r4.fT.fUp.map (eInt .i64))), (1048581, .live 5 1 (r4.fNew.map (eInt .u8))), (1048582, .live 105 1 (r4.fOld.map Image.enc)), (1048583, .live 64 12 (r4.fN.map Node.enc)), (1048584, .live 110 6 (r4.fD.map Disk.enc)), (1048585, .live 117 3 (r4.fNet.map Packet.enc)), (1048586, .live 112 3 (r4.fLog.map Sent.enc))]⟩ ?_
    refine Wp.cond2 (b := !(r5 == r3)) kr (fun hc => ?_) (fun hc => ?_)
    · have h := cond_t h hc
      refine Wp.srg [] [] ?_
      refine Runs.alln ?_
      refine Wp.fg ⟨[(1, .obj 1 0), (2, .t (.bool false)), (5, .obj 5 0)], [(1, ((World.enc p0).map .t)), (5, [.t (.int .i64 r4.fC.fSize), .t (.int .i64 r4.fC.fWindow), .t (.int .i64 r4.fC.fSuspect), .t (.int .i64 r4.fC.fForget), .own 1048580, .own 1048581, .own 1048582, .own 1048583, .own 1048584, .own 1048585, .own 1048586, .t (.int .i64 r4.fLost)])], [(1048580, .live 3 1 (r4.fT.fUp.map (eInt .i64))), (1048581, .live 5 1 (r4.fNew.map (eInt .u8))), (1048582, .live 105 1 (r4.fOld.map Image.enc)), (1048583, .live 64 12 (r4.fN.map Node.enc)), (1048584, .live 110 6 (r4.fD.map Disk.enc)), (1048585, .live 117 3 (r4.fNet.map Packet.enc)), (1048586, .live 112 3 (r4.fLog.map Sent.enc))]⟩ ?_
      refine Wp.ret ?_
      refine thenR ?_
      have hr := Option.some.inj h
      subst hr
      exact RetK [.t (.bool false)] (.one (.t (.bool false))) [] kr kr (.refl _) .nil
    · have h := cond_f h hc
      refine Wp.skip ?_
      refine thenN ?_
      refine Wp.seq ?_
      refine Wp.seq ?_
      refine Wp.le (Le.trans (Le.frzO 5 4 1048580 3 1 [.t (.int .i64 r4.fC.fSize), .t (.int .i64 r4.fC.fWindow), .t (.int .i64 r4.fC.fSuspect), .t (.int .i64 r4.fC.fForget), .own 1048580, .own 1048581, .own 1048582, .own 1048583, .own 1048584, .own 1048585, .own 1048586, .t (.int .i64 r4.fLost)] (r4.fT.fUp.map (eInt .i64)) kr kr kr) (Le.trans (Le.frzO 5 5 1048581 5 1 [.t (.int .i64 r4.fC.fSize), .t (.int .i64 r4.fC.fWindow), .t (.int .i64 r4.fC.fSuspect), .t (.int .i64 r4.fC.fForget), .t (.sl 1 (r4.fT.fUp.map (eInt .i64))), .own 1048581, .own 1048582, .own 1048583, .own 1048584, .own 1048585, .own 1048586, .t (.int .i64 r4.fLost)] (r4.fNew.map (eInt .u8)) kr kr kr) (Le.trans (Le.frzO 5 6 1048582 105 1 [.t (.int .i64 r4.fC.fSize), .t (.int .i64 r4.fC.fWindow), .t (.int .i64 r4.fC.fSuspect), .t (.int .i64 r4.fC.fForget), .t (.sl 1 (r4.fT.fUp.map (eInt .i64))), .t (.sl 1 (r4.fNew.map (eInt .u8))), .own 1048582, .own 1048583, .own 1048584, .own 1048585, .own 1048586, .t (.int .i64 r4.fLost)] (r4.fOld.map Image.enc) kr kr kr) (Le.trans (Le.frzO 5 7 1048583 64 12 [.t (.int .i64 r4.fC.fSize), .t (.int .i64 r4.fC.fWindow), .t (.int .i64 r4.fC.fSuspect), .t (.int .i64 r4.fC.fForget), .t (.sl 1 (r4.fT.fUp.map (eInt .i64))), .t (.sl 1 (r4.fNew.map (eInt .u8))), .t (.sl 1 (r4.fOld.map Image.enc)), .own 1048583, .own 1048584, .own 1048585, .own 1048586, .t (.int .i64 r4.fLost)] (r4.fN.map Node.enc) kr kr kr) (Le.trans (Le.frzO 5 8 1048584 110 6 [.t (.int .i64 r4.fC.fSize), .t (.int .i64 r4.fC.fWindow), .t (.int .i64 r4.fC.fSuspect), .t (.int .i64 r4.fC.fForget), .t (.sl 1 (r4.fT.fUp.map (eInt .i64))), .t (.sl 1 (r4.fNew.map (eInt .u8))), .t (.sl 1 (r4.fOld.map Image.enc)), .t (.sl 12 (r4.fN.map Node.enc)), .own 1048584, .own 1048585, .own 1048586, .t (.int .i64 r4.fLost)] (r4.fD.map Disk.enc) kr kr kr) (Le.trans (Le.frzO 5 9 1048585 117 3 [.t (.int .i64 r4.fC.fSize), .t (.int .i64 r4.fC.fWindow), .t (.int .i64 r4.fC.fSuspect), .t (.int .i64 r4.fC.fForget), .t (.sl 1 (r4.fT.fUp.map (eInt .i64))), .t (.sl 1 (r4.fNew.map (eInt .u8))), .t (.sl 1 (r4.fOld.map Image.enc)), .t (.sl 12 (r4.fN.map Node.enc)), .t (.sl 6 (r4.fD.map Disk.enc)), .own 1048585, .own 1048586, .t (.int .i64 r4.fLost)] (r4.fNet.map Packet.enc) kr kr kr) (Le.trans (Le.frzO 5 10 1048586 112 3 [.t (.int .i64 r4.fC.fSize), .t (.int .i64 r4.fC.fWindow), .t (.int .i64 r4.fC.fSuspect), .t (.int .i64 r4.fC.fForget), .t (.sl 1 (r4.fT.fUp.map (eInt .i64))), .t (.sl 1 (r4.fNew.map (eInt .u8))), .t (.sl 1 (r4.fOld.map Image.enc)), .t (.sl 12 (r4.fN.map Node.enc)), .t (.sl 6 (r4.fD.map Disk.enc)), .t (.sl 3 (r4.fNet.map Packet.enc)), .own 1048586, .t (.int .i64 r4.fLost)] (r4.fLog.map Sent.enc) kr kr kr) (Le.of (s := ⟨[(1, .obj 1 0), (2, .t (.bool false)), (5, .obj 5 0)], [(1, ((World.enc p0).map .t)), (5, ((World.enc r4).map .t))], []⟩) (mo := []) (mr := []) kr kr kr kr)))))))) ?_
      refine Wp.regionA (pOf []) (rhoOf [(1, .obj 1), (5, .obj 5), (22, .frz), (23, .frz), (25, .frz)]) kr kr ?_
      refine Runs.batch 2 kr ?_
      obtain ⟨r6, e_r6, h⟩ := bind_some h
      refine Runs.callK false 24 7 [] [.agg ((World.enc p0).map .t)] [.agg ((World.enc p0).map .t)] (.agg [.t (.int .i64 r6.fC.fSize), .t (.int .i64 r6.fC.fWindow), .t (.int .i64 r6.fC.fSuspect), .t (.int .i64 r6.fC.fForget), .ow 3 1 (r6.fT.fUp.map (eInt .i64)), .ow 5 1 (r6.fNew.map (eInt .u8)), .ow 105 1 (r6.fOld.map Image.enc), .ow 64 12 (r6.fN.map Node.enc), .ow 110 6 (r6.fD.map Disk.enc), .ow 117 3 (r6.fNet.map Packet.enc), .ow 112 3 (r6.fLog.map Sent.enc), .t (.int .i64 r6.fLost)]) [] rfl rfl kr kr kr kr kr (laws_toWorld_ok u p0 r6 e_r6) kr ?_
      obtain ⟨r7, e_r7, h⟩ := bind_some h
      refine Runs.callBK 25 9 [] [.agg ((World.enc r4).map .t), .agg [.t (.int .i64 r6.fC.fSize), .t (.int .i64 r6.fC.fWindow), .t (.int .i64 r6.fC.fSuspect), .t (.int .i64 r6.fC.fForget), .own 1572868, .own 1572869, .own 1572870, .own 1572871, .own 1572872, .own 1572873, .own 1572874, .t (.int .i64 r6.fLost)]] [.agg ((World.enc r4).map .t), .agg ((World.enc r6).map .t)] (.one (.t (.bool r7))) rfl rfl kr kr kr kr kr (laws_eqWorld_ok u r4 r6 r7 e_r7) (by simp [V.plain, V.plains, C.plain, T.sc]) kr ?_
      refine Runs.alln ?_
      refine Wp.fg ⟨[(2, .t (.bool false)), (26, .t (.bool (!r7)))], [], []⟩ ?_
      refine Wp.cond2 (b := !r7) kr (fun hc => ?_) (fun hc => ?_)
      · have h := cond_t h hc
        refine Wp.srg [] [] ?_
        refine Runs.alln ?_
        refine Wp.fg ⟨[(2, .t (.bool false))], [], []⟩ ?_
        refine Wp.ret ?_
        refine thenR ?_
        have hr := Option.some.inj h
        subst hr
        exact RetK [.t (.bool false)] (.one (.t (.bool false))) [] kr kr (.refl _) .nil
      · have h := cond_f h hc
        refine Wp.skip ?_
        refine thenN ?_
        refine Wp.srg [] [] ?_
        refine Runs.alln ?_
        refine Wp.fg ⟨[(2, .t (.bool true))], [], []⟩ ?_
        refine Wp.ret ?_
        have hr := Option.some.inj h
        subst hr
        exact RetK [.t (.bool true)] (.one (.t (.bool true))) [] kr kr (.refl _) .nil
end Go.Tm
