/- The functions as they are translated do what the pure functions say (printed). -/
import Derived.Test.YtdgkjbcglhekoaaGreatCSafeInK1
import Derived.Test.YtdgkjbcglhekoaaGreatTm40
import Derived.Test.YtdgkjbcglhekoaaGreatProg
set_option maxRecDepth 100000
set_option linter.unusedVariables false
set_option linter.unusedSimpArgs false
namespace Go.Tm
open Go.Proofs
theorem spec_SafeFall_ok (u : Nat) (p0 : Disk) (p1 : List Int) (p2 : Int) (p3 : List Int) (r : Bool) (h : spec_SafeFall u p0 p1 p2 p3 = some r) : CallOK Tryz.prog 66 [.agg [.t (.sl 1 (p0.fA.map (eInt .u8))), .t (.sl 1 (p0.fB.map (eInt .u8))), .t (.int .i64 p0.fR.fGen), .t (.int .i64 p0.fR.fSlot), .t (.int .i64 p0.fR.fLen), .t (.sl 6 (p0.fP.map Put.enc))], .one (.t (.sl 1 (p1.map (eInt .u8)))), .one (.t (.int .i64 p2)), .one (.t (.sl 1 (p3.map (eInt .u8))))] (.one (.t (.bool r))) [] := by
  unfold spec_SafeFall at h
  refine CallOK.of_bodyK (fn := Tryz.f66) (m := false) [.agg ((Disk.enc p0).map .t), .t (.sl 1 (p1.map (eInt .u8))), .t (.int .i64 p2), .t (.sl 1 (p3.map (eInt .u8)))] kr rfl kr kr kr kr kr ?_
  refine Wp.srg [] [] ?_
  refine Runs.alln ?_
  refine Wp.fg ⟨[(1, .t (.sl 1 (p1.map (eInt .u8)))), (2, .t (.int .i64 p2)), (3, .t (.sl 1 (p3.map (eInt .u8)))), (4, .obj 4 0), (8, .t (.bool false))], [(4, ((Disk.enc p0).map .t))], []⟩ ?_
  refine Wp.srg [] [] ?_
  refine Runs.batch 1 kr ?_
  obtain ⟨r1, e_r1, h⟩ := bind_some h
  refine Runs.callK false 12 118 [] [.agg ((Disk.enc p0).map .t)] [.agg ((Disk.enc p0).map .t)] (.one (.ow 87 6 (r1.map Disk.enc))) [] rfl rfl kr kr kr kr kr (spec_AllFalls_ok u p0 r1 e_r1) kr ?_
  refine Runs.alln ?_
  refine Wp.fg ⟨[(1, .t (.sl 1 (p1.map (eInt .u8)))), (2, .t (.int .i64 p2)), (3, .t (.sl 1 (p3.map (eInt .u8)))), (4, .obj 4 0), (8, .t (.bool false)), (9, .own 786432)], [(4, ((Disk.enc p0).map .t))], [(786432, .live 87 6 (r1.map Disk.enc))]⟩ ?_
  refine Wp.seqJ (α := (List Int) × Int × (List Int) × Disk) (fun a => ⟨[(1, .t (.sl 1 (a.1.map (eInt .u8)))), (2, .t (.int .i64 a.2.1)), (3, .t (.sl 1 (a.2.2.1.map (eInt .u8)))), (4, .obj 4 0), (8, .t (.bool false))], [(4, ((Disk.enc a.2.2.2).map .t))], []⟩) (fun a => spec_SafeFall_j1 u a.1 a.2.1 a.2.2.1 a.2.2.2 = some r) ?_ ?_
  · rintro ⟨p1, p2, p3, p0⟩ h
    change spec_SafeFall_j1 u p1 p2 p3 p0 = some r at h
    unfold spec_SafeFall_j1 at h
    refine Wp.srg [] [] ?_
    refine Runs.batch 4 kr ?_
    obtain ⟨r7, e_r7, h⟩ := bind_some h
    refine Runs.callK false 32 119 [] [.agg ((Disk.enc p0).map .t), .t (.sl 1 (p1.map (eInt .u8))), .t (.int .i64 p2), .t (.sl 1 (p3.map (eInt .u8)))] [.agg ((Disk.enc p0).map .t), .one (.t (.sl 1 (p1.map (eInt .u8)))), .one (.t (.int .i64 p2)), .one (.t (.sl 1 (p3.map (eInt .u8))))] (.one (.t (.bool r7))) [] rfl rfl kr kr kr kr kr (spec_HoldsAny_ok u p0 p1 p2 p3 r7 e_r7) kr ?_
    refine Runs.alln ?_
    refine Wp.fg ⟨[(8, .t (.bool r7))], [], []⟩ ?_
    refine Wp.ret ?_
    have hr := Option.some.inj h
    subst hr
    exact RetK [.t (.bool r7)] (.one (.t (.bool r7))) [] kr kr (.refl _) .nil
  · refine Wp.srg [] [] ?_
    refine Runs.alln ?_
    refine Wp.fg ⟨[(1, .t (.sl 1 (p1.map (eInt .u8)))), (2, .t (.int .i64 p2)), (3, .t (.sl 1 (p3.map (eInt .u8)))), (4, .obj 4 0), (8, .t (.bool false)), (9, .own 786432), (10, .t (.int .i64 0))], [(4, ((Disk.enc p0).map .t))], [(786432, .live 87 6 (r1.map Disk.enc))]⟩ ?_
    refine Wp.block ?_
    refine Wp.loopF (α := (List Int) × Int × (List Int) × ((List Disk)) × Int × Disk) (fun a => ⟨[(1, .t (.sl 1 (a.1.map (eInt .u8)))), (2, .t (.int .i64 a.2.1)), (3, .t (.sl 1 (a.2.2.1.map (eInt .u8)))), (4, .obj 4 0), (8, .t (.bool false)), (9, .own 589825), (10, .t (.int .i64 a.2.2.2.2.1))], [(4, ((Disk.enc a.2.2.2.2.2).map .t))], [(589825, .live 87 6 (a.2.2.2.1.map Disk.enc))]⟩) (fun k_spec_SafeFall_l2 a => spec_SafeFall_l2 u k_spec_SafeFall_l2 a.1 a.2.1 a.2.2.1 a.2.2.2.1 a.2.2.2.2.1 a.2.2.2.2.2 = some r) ?_ ?_ u (p1, p2, p3, r1, 0, p0) h (Le.of (mo := []) (mr := [(589825, 786432)]) kr kr kr kr)
    · intro a h; unfold spec_SafeFall_l2 at h; cases h
    · rintro k_spec_SafeFall_l2 ⟨p1, p2, p3, r1, x3, p0⟩ h
      change spec_SafeFall_l2 u (k_spec_SafeFall_l2 + 1) p1 p2 p3 r1 x3 p0 = some r at h
      rw [spec_SafeFall_l2] at h
      refine Wp.seq ?_
      refine Wp.srg [] [] ?_
      refine Runs.batch 2 kr ?_
      refine Runs.lenT (y := .own 589825) (e := 87) Disk.enc r1 6 rfl rfl rfl kr kr kr kr kr ?_
      refine Runs.alln ?_
      refine Wp.fg ⟨[(1, .t (.sl 1 (p1.map (eInt .u8)))), (2, .t (.int .i64 p2)), (3, .t (.sl 1 (p3.map (eInt .u8)))), (4, .obj 4 0), (8, .t (.bool false)), (9, .own 589825), (10, .t (.int .i64 x3)), (13, .t (.int .i64 x3)), (14, .own 589825), (15, .t (.int .i64 ((r1.length : Int)))), (16, .t (.bool (decide (x3 < ((r1.length : Int))))))], [(4, ((Disk.enc p0).map .t))], [(589825, .live 87 6 (r1.map Disk.enc))]⟩ ?_
      refine Wp.cond2 (b := decide (x3 < ((r1.length : Int)))) kr (fun hc => ?_) (fun hc => ?_)
      · have h := cond_t h hc
        refine Wp.skip ?_
        refine thenN ?_
        refine Wp.seq ?_
        refine Wp.block ?_
        refine Wp.srg [] [] ?_
        refine Runs.batch 2 kr ?_
        obtain ⟨y5, e_y5, h⟩ := bind_some h
        refine Runs.idxO (e := 87) (e' := 87) (kk := .i64) (sz := 6) Disk.enc r1 x3 589825 rfl kr kr kr kr kr kr kr e_y5 ?_
        refine Runs.loadE (e' := 87) (sz := 6) (m := 6) (gg := true) Disk.enc r1 589825 (Int.toNat x3) 0 (.agg ((Disk.enc y5).map .t)) rfl kr kr kr kr kr kr (idx_some e_y5).2 kr ?_
        refine Runs.batch 3 kr ?_
        obtain ⟨r6, e_r6, h⟩ := bind_some h
        refine Runs.callK false 26 119 [] [.agg ((Disk.enc y5).map .t), .t (.sl 1 (p1.map (eInt .u8))), .t (.int .i64 p2), .t (.sl 1 (p3.map (eInt .u8)))] [.agg ((Disk.enc y5).map .t), .one (.t (.sl 1 (p1.map (eInt .u8)))), .one (.t (.int .i64 p2)), .one (.t (.sl 1 (p3.map (eInt .u8))))] (.one (.t (.bool r6))) [] rfl rfl kr kr kr kr kr (spec_HoldsAny_ok u y5 p1 p2 p3 r6 e_r6) kr ?_
        refine Runs.alln ?_
        refine Wp.fg ⟨[(1, .t (.sl 1 (p1.map (eInt .u8)))), (2, .t (.int .i64 p2)), (3, .t (.sl 1 (p3.map (eInt .u8)))), (4, .obj 4 0), (8, .t (.bool false)), (9, .own 589825), (10, .t (.int .i64 x3)), (13, .t (.int .i64 x3)), (14, .own 589825), (15, .t (.int .i64 ((r1.length : Int)))), (16, .t (.bool (decide (x3 < ((r1.length : Int)))))), (19, .own 589825), (20, .t (.int .i64 x3)), (21, .elem 589825 6 (Int.toNat x3) 0), (22, .agg ((Disk.enc y5).map .t)), (23, .t (.sl 1 (p1.map (eInt .u8)))), (24, .t (.int .i64 p2)), (25, .t (.sl 1 (p3.map (eInt .u8)))), (26, .t (.bool r6)), (27, .t (.bool (!r6)))], [(4, ((Disk.enc p0).map .t))], [(589825, .live 87 6 (r1.map Disk.enc))]⟩ ?_
        refine Wp.cond2 (b := !r6) kr (fun hc => ?_) (fun hc => ?_)
        · have h := cond_t h hc
          refine Wp.srg [] [] ?_
          refine Runs.alln ?_
          refine Wp.fg ⟨[(1, .t (.sl 1 (p1.map (eInt .u8)))), (2, .t (.int .i64 p2)), (3, .t (.sl 1 (p3.map (eInt .u8)))), (4, .obj 4 0), (8, .t (.bool false)), (9, .own 589825), (10, .t (.int .i64 x3)), (13, .t (.int .i64 x3)), (14, .own 589825), (15, .t (.int .i64 ((r1.length : Int)))), (16, .t (.bool (decide (x3 < ((r1.length : Int)))))), (19, .own 589825), (20, .t (.int .i64 x3)), (21, .elem 589825 6 (Int.toNat x3) 0), (22, .agg ((Disk.enc y5).map .t)), (23, .t (.sl 1 (p1.map (eInt .u8)))), (24, .t (.int .i64 p2)), (25, .t (.sl 1 (p3.map (eInt .u8)))), (26, .t (.bool r6)), (27, .t (.bool (!r6)))], [(4, ((Disk.enc p0).map .t))], [(589825, .live 87 6 (r1.map Disk.enc))]⟩ ?_
          refine Wp.ret ?_
          refine blkR ?_
          refine thenR ?_
          refine thenR ?_
          refine blkR ?_
          refine thenR ?_
          have hr := Option.some.inj h
          subst hr
          exact RetK [.t (.bool false)] (.one (.t (.bool false))) [] kr kr (.refl _) .nil
        · have h := cond_f h hc
          refine Wp.skip ?_
          refine blkN ?_
          refine thenN ?_
          refine Wp.rg [] [] ?_
          refine Runs.alln ?_
          exact ⟨(p1, p2, p3, r1, bAdd .i64 x3 1, p0), h, Le.of (mo := []) (mr := []) kr kr kr kr⟩
      · have h := cond_f h hc
        refine Wp.exit ?_
        refine thenE ?_
        refine thenE ?_
        refine blkE ?_
        refine thenN ?_
        exact ⟨(p1, p2, p3, p0), h, Le.of (mo := []) (mr := []) kr kr kr kr⟩
theorem spec_SafeIn_ok (u : Nat) (p0 : World) (r : Bool) (h : spec_SafeIn u p0 = some r) : CallOK Tryz.prog 19 [.agg [.t (.int .i64 p0.fC.fSize), .t (.int .i64 p0.fC.fWindow), .t (.int .i64 p0.fC.fSuspect), .t (.int .i64 p0.fC.fForget), .t (.sl 1 (p0.fT.fUp.map (eInt .i64))), .t (.sl 1 (p0.fNew.map (eInt .u8))), .t (.sl 1 (p0.fOld.map Image.enc)), .t (.sl 12 (p0.fN.map Node.enc)), .t (.sl 6 (p0.fD.map Disk.enc)), .t (.sl 3 (p0.fNet.map Packet.enc)), .t (.sl 3 (p0.fLog.map Sent.enc)), .t (.int .i64 p0.fLost)]] (.one (.t (.bool r))) [] := by
  unfold spec_SafeIn at h
  refine CallOK.of_bodyK (fn := Tryz.f19) (m := false) [.agg ((World.enc p0).map .t)] kr rfl kr kr kr kr kr ?_
  refine Wp.srg [] [] ?_
  refine Runs.alln ?_
  refine Wp.fg ⟨[(1, .obj 1 0), (2, .t (.bool false))], [(1, ((World.enc p0).map .t))], []⟩ ?_
  refine Wp.seqJ (α := Unit) (fun a => ⟨[(2, .t (.bool false))], [], []⟩) (fun a => spec_SafeIn_j1 u = some r) ?_ ?_
  · rintro ⟨⟩ h
    change spec_SafeIn_j1 u = some r at h
    unfold spec_SafeIn_j1 at h
    refine Wp.srg [] [] ?_
    refine Runs.alln ?_
    refine Wp.fg ⟨[(2, .t (.bool true))], [], []⟩ ?_
    refine Wp.ret ?_
    have hr := Option.some.inj h
    subst hr
    exact RetK [.t (.bool true)] (.one (.t (.bool true))) [] kr kr (.refl _) .nil
  · refine Wp.srg [] [] ?_
    refine Runs.alln ?_
    refine Wp.fg ⟨[(1, .obj 1 0), (2, .t (.bool false)), (3, .t (.int .i64 1))], [(1, ((World.enc p0).map .t))], []⟩ ?_
    refine Wp.block ?_
    refine Wp.loopF (α := Int × World) (fun a => ⟨[(1, .obj 1 0), (2, .t (.bool false)), (3, .t (.int .i64 a.1))], [(1, ((World.enc a.2).map .t))], []⟩) (fun k_spec_SafeIn_l2 a => spec_SafeIn_l2 u k_spec_SafeIn_l2 a.1 a.2 = some r) ?_ ?_ u (1, p0) h (Le.of (mo := []) (mr := []) kr kr kr kr)
    · intro a h; unfold spec_SafeIn_l2 at h; cases h
    · rintro k_spec_SafeIn_l2 ⟨x2, p0⟩ h
      change spec_SafeIn_l2 u (k_spec_SafeIn_l2 + 1) x2 p0 = some r at h
      rw [spec_SafeIn_l2] at h
      refine Wp.seq ?_
      refine Wp.seqJ (α := Int × World × Bool × Bool) (fun a => ⟨[(1, .obj 1 0), (2, .t (.bool false)), (3, .t (.int .i64 a.1)), (4, .t (.int .i64 a.1)), (5, .obj 1 8), (6, .t (.sl 6 (a.2.1.fD.map Disk.enc))), (7, .t (.int .i64 ((a.2.1.fD.length : Int)))), (8, .t (.bool (decide (a.1 < ((a.2.1.fD.length : Int)))))), (9, .t (.bool a.2.2.1)), (15, .t (.bool a.2.2.2))], [(1, ((World.enc a.2.1).map .t))], []⟩) (fun a => spec_SafeIn_j3 u (fun z0 z1 => spec_SafeIn_l2 u k_spec_SafeIn_l2 z0 z1) a.1 a.2.1 a.2.2.1 a.2.2.2 = some r) ?_ ?_
      · rintro ⟨x2, p0, x4, x5⟩ h
        change spec_SafeIn_j3 u (fun z0 z1 => spec_SafeIn_l2 u k_spec_SafeIn_l2 z0 z1) x2 p0 x4 x5 = some r at h
        unfold spec_SafeIn_j3 at h
        refine Wp.cond2 (b := x5) kr (fun hc => ?_) (fun hc => ?_)
        · have h := cond_t h hc
          refine Wp.skip ?_
          refine thenN ?_
          refine Wp.seq ?_
          refine Wp.block ?_
          refine Wp.seq ?_
          refine Wp.regionA (pOf []) (rhoOf [(1, .obj 1), (3, .frz), (18, .obj 1), (19, .frz), (20, .frz), (21, .frz), (22, .frz), (23, .obj 1), (24, .frz), (25, .frz), (26, .frz), (27, .frz), (28, .frz), (29, .obj 1), (30, .frz), (31, .frz)]) kr kr ?_
          refine Runs.batch 3 kr ?_
          obtain ⟨y6, e_y6, h⟩ := bind_some h
          refine Runs.idxT (e := 87) (kk := .i64) (sz := 6) Disk.enc p0.fD x2 rfl kr kr kr kr kr kr e_y6 ?_
          refine Runs.batch 4 kr ?_
          obtain ⟨y7, e_y7, h⟩ := bind_some h
          refine Runs.idxT (e := 89) (kk := .i64) (sz := 1) Image.enc p0.fOld x2 rfl kr kr kr kr kr kr e_y7 ?_
          refine Runs.batch 4 kr ?_
          obtain ⟨r8, e_r8, h⟩ := bind_some h
          refine Runs.callK false 31 66 [] [.agg ((Disk.enc y6).map .t), .t (.sl 1 (y7.fB.map (eInt .u8))), .t (.int .i64 1), .t (.sl 1 (p0.fNew.map (eInt .u8)))] [.agg ((Disk.enc y6).map .t), .one (.t (.sl 1 (y7.fB.map (eInt .u8)))), .one (.t (.int .i64 1)), .one (.t (.sl 1 (p0.fNew.map (eInt .u8))))] (.one (.t (.bool r8))) [] rfl rfl kr kr kr kr kr (spec_SafeFall_ok u y6 y7.fB 1 p0.fNew r8 e_r8) kr ?_
          refine Runs.alln ?_
          refine Wp.fg ⟨[(1, .obj 1 0), (2, .t (.bool false)), (3, .t (.int .i64 x2)), (4, .t (.int .i64 x2)), (5, .obj 1 8), (6, .t (.sl 6 (p0.fD.map Disk.enc))), (7, .t (.int .i64 ((p0.fD.length : Int)))), (8, .t (.bool (decide (x2 < ((p0.fD.length : Int)))))), (9, .t (.bool x4)), (15, .t (.bool x5)), (18, .obj 1 8), (19, .t (.sl 6 (p0.fD.map Disk.enc))), (20, .t (.int .i64 x2)), (21, .fadr (Disk.enc y6)), (22, .agg ((Disk.enc y6).map .t)), (23, .obj 1 6), (24, .t (.sl 1 (p0.fOld.map Image.enc))), (25, .t (.int .i64 x2)), (26, .fadr [.sl 1 (y7.fB.map (eInt .u8))]), (27, .fadr [.sl 1 (y7.fB.map (eInt .u8))]), (28, .t (.sl 1 (y7.fB.map (eInt .u8)))), (29, .obj 1 5), (30, .t (.sl 1 (p0.fNew.map (eInt .u8)))), (31, .t (.bool r8)), (32, .t (.bool (!r8)))], [(1, ((World.enc p0).map .t))], []⟩ ?_
          refine Wp.cond2 (b := !r8) kr (fun hc => ?_) (fun hc => ?_)
          · have h := cond_t h hc
            refine Wp.srg [] [] ?_
            refine Runs.alln ?_
            refine Wp.fg ⟨[(1, .obj 1 0), (2, .t (.bool false)), (3, .t (.int .i64 x2)), (4, .t (.int .i64 x2)), (5, .obj 1 8), (6, .t (.sl 6 (p0.fD.map Disk.enc))), (7, .t (.int .i64 ((p0.fD.length : Int)))), (8, .t (.bool (decide (x2 < ((p0.fD.length : Int)))))), (9, .t (.bool x4)), (15, .t (.bool x5)), (18, .obj 1 8), (19, .t (.sl 6 (p0.fD.map Disk.enc))), (20, .t (.int .i64 x2)), (21, .fadr (Disk.enc y6)), (22, .agg ((Disk.enc y6).map .t)), (23, .obj 1 6), (24, .t (.sl 1 (p0.fOld.map Image.enc))), (25, .t (.int .i64 x2)), (26, .fadr [.sl 1 (y7.fB.map (eInt .u8))]), (27, .fadr [.sl 1 (y7.fB.map (eInt .u8))]), (28, .t (.sl 1 (y7.fB.map (eInt .u8)))), (29, .obj 1 5), (30, .t (.sl 1 (p0.fNew.map (eInt .u8)))), (31, .t (.bool r8)), (32, .t (.bool (!r8)))], [(1, ((World.enc p0).map .t))], []⟩ ?_
            refine Wp.ret ?_
            refine blkR ?_
            refine thenR ?_
            refine thenR ?_
            refine blkR ?_
            refine thenR ?_
            have hr := Option.some.inj h
            subst hr
            exact RetK [.t (.bool false)] (.one (.t (.bool false))) [] kr kr (.refl _) .nil
          · have h := cond_f h hc
            refine Wp.skip ?_
            refine blkN ?_
            refine thenN ?_
            refine Wp.rg [] [] ?_
            refine Runs.alln ?_
            exact ⟨(bAdd .i64 x2 1, p0), h, Le.of (mo := []) (mr := []) kr kr kr kr⟩
        · have h := cond_f h hc
          refine Wp.exit ?_
          refine thenE ?_
          refine thenE ?_
          refine blkE ?_
          refine thenN ?_
          exact ⟨(), h, Le.of (mo := []) (mr := []) kr kr kr kr⟩
      · refine Wp.rg [] [] ?_
        refine Runs.batch 3 kr ?_
        refine Runs.lenT (y := .t (.sl 6 (p0.fD.map Disk.enc))) (e := 87) Disk.enc p0.fD 6 rfl rfl rfl kr kr kr kr kr ?_
        refine Runs.batch 2 kr ?_
        rcases tf (decide (x2 < ((p0.fD.length : Int)))) with hc | hc
        · have h := cond_t h hc
          refine Runs.known 9 (v := true) kr hc ?_
          refine Runs.batch 3 kr ?_
          refine Runs.lenT (y := .t (.sl 1 (p0.fOld.map Image.enc))) (e := 89) Image.enc p0.fOld 1 rfl rfl rfl kr kr kr kr kr ?_
          refine Runs.alln ?_
          exact ⟨(x2, p0, true, decide (x2 < ((p0.fOld.length : Int)))), h, Le.of (mo := []) (mr := []) kr kr kr kr⟩
        · have h := cond_f h hc
          refine Runs.known 9 (v := false) kr hc ?_
          refine Runs.alln ?_
          exact ⟨(x2, p0, false, false), h, Le.of (mo := []) (mr := []) kr kr kr kr⟩
theorem impl_within_ok (u : Nat) (p0 : Int) (p1 : Int) (p2 : Int) (r : Bool) (h : impl_within u p0 p1 p2 = some r) : CallOK Tryz.prog 92 [.one (.t (.int .i64 p0)), .one (.t (.int .i64 p1)), .one (.t (.int .i64 p2))] (.one (.t (.bool r))) [] := by
  unfold impl_within at h
  refine CallOK.of_bodyK (fn := Tryz.f92) (m := false) [.t (.int .i64 p0), .t (.int .i64 p1), .t (.int .i64 p2)] kr rfl kr kr kr kr kr ?_
  refine Wp.srg [] [] ?_
  refine Runs.alln ?_
  refine Wp.fg ⟨[(0, .t (.int .i64 p0)), (1, .t (.int .i64 p1)), (2, .t (.int .i64 p2)), (6, .t (.bool false))], [], []⟩ ?_
  refine Wp.srg [] [] ?_
  refine Runs.batch 4 kr ?_
  rcases tf (decide (p0 ≥ p1)) with hc | hc
  · have h := cond_t h hc
    refine Runs.known 10 (v := true) kr hc ?_
    refine Runs.alln ?_
    refine Wp.fg ⟨[(6, .t (.bool (decide (p0 ≤ p2))))], [], []⟩ ?_
    refine Wp.ret ?_
    have hr := Option.some.inj h
    subst hr
    exact RetK [.t (.bool (decide (p0 ≤ p2)))] (.one (.t (.bool (decide (p0 ≤ p2))))) [] kr kr (.refl _) .nil
  · have h := cond_f h hc
    refine Runs.known 10 (v := false) kr hc ?_
    refine Runs.alln ?_
    refine Wp.fg ⟨[(6, .t (.bool false))], [], []⟩ ?_
    refine Wp.ret ?_
    have hr := Option.some.inj h
    subst hr
    exact RetK [.t (.bool false)] (.one (.t (.bool false))) [] kr kr (.refl _) .nil
theorem impl_isGen_ok (u : Nat) (p0 : Int) (r : Bool) (h : impl_isGen u p0 = some r) : CallOK Tryz.prog 219 [.one (.t (.int .i64 p0))] (.one (.t (.bool r))) [] := by
  unfold impl_isGen at h
  refine CallOK.of_bodyK (fn := Tryz.f219) (m := false) [.t (.int .i64 p0)] kr rfl kr kr kr kr kr ?_
  refine Wp.srg [] [] ?_
  refine Runs.alln ?_
  refine Wp.fg ⟨[(0, .t (.int .i64 p0)), (2, .t (.bool false))], [], []⟩ ?_
  refine Wp.srg [] [] ?_
  refine Runs.batch 1 kr ?_
  obtain ⟨r1, e_r1, h⟩ := bind_some h
  refine Runs.callK false 4 92 [] [.t (.int .i64 p0), .t (.int .i64 0), .t (.int .i64 1000000)] [.one (.t (.int .i64 p0)), .one (.t (.int .i64 0)), .one (.t (.int .i64 1000000))] (.one (.t (.bool r1))) [] rfl rfl kr kr kr kr kr (impl_within_ok u p0 0 1000000 r1 e_r1) kr ?_
  refine Runs.alln ?_
  refine Wp.fg ⟨[(2, .t (.bool r1))], [], []⟩ ?_
  refine Wp.ret ?_
  have hr := Option.some.inj h
  subst hr
  exact RetK [.t (.bool r1)] (.one (.t (.bool r1))) [] kr kr (.refl _) .nil
theorem impl_isSlot_ok (u : Nat) (p0 : Int) (r : Bool) (h : impl_isSlot u p0 = some r) : CallOK Tryz.prog 220 [.one (.t (.int .i64 p0))] (.one (.t (.bool r))) [] := by
  unfold impl_isSlot at h
  refine CallOK.of_bodyK (fn := Tryz.f220) (m := false) [.t (.int .i64 p0)] kr rfl kr kr kr kr kr ?_
  refine Wp.srg [] [] ?_
  refine Runs.alln ?_
  refine Wp.fg ⟨[(0, .t (.int .i64 p0)), (2, .t (.bool false))], [], []⟩ ?_
  refine Wp.srg [] [] ?_
  refine Runs.batch 3 kr ?_
  rcases tf (p0 == 0) with hc | hc
  · have h := cond_t h hc
    refine Runs.known 5 (v := true) kr hc ?_
    refine Runs.alln ?_
    refine Wp.fg ⟨[(2, .t (.bool true))], [], []⟩ ?_
    refine Wp.ret ?_
    have hr := Option.some.inj h
    subst hr
    exact RetK [.t (.bool true)] (.one (.t (.bool true))) [] kr kr (.refl _) .nil
  · have h := cond_f h hc
    refine Runs.known 5 (v := false) kr hc ?_
    refine Runs.alln ?_
    refine Wp.fg ⟨[(2, .t (.bool (p0 == 1)))], [], []⟩ ?_
    refine Wp.ret ?_
    have hr := Option.some.inj h
    subst hr
    exact RetK [.t (.bool (p0 == 1))] (.one (.t (.bool (p0 == 1)))) [] kr kr (.refl _) .nil
theorem impl_isRecord_ok (u : Nat) (p0 : Record) (r : Bool) (h : impl_isRecord u p0 = some r) : CallOK Tryz.prog 206 [.agg [.t (.int .i64 p0.fGen), .t (.int .i64 p0.fSlot), .t (.int .i64 p0.fLen)]] (.one (.t (.bool r))) [] := by
  unfold impl_isRecord at h
  refine CallOK.of_bodyK (fn := Tryz.f206) (m := false) [.agg ((Record.enc p0).map .t)] kr rfl kr kr kr kr kr ?_
  refine Wp.srg [] [] ?_
  refine Runs.alln ?_
  refine Wp.fg ⟨[(1, .obj 1 0), (2, .t (.bool false))], [(1, ((Record.enc p0).map .t))], []⟩ ?_
  refine Wp.srg [] [] ?_
  refine Runs.batch 2 kr ?_
  obtain ⟨r1, e_r1, h⟩ := bind_some h
  refine Runs.callK false 5 219 [] [.t (.int .i64 p0.fGen)] [.one (.t (.int .i64 p0.fGen))] (.one (.t (.bool r1))) [] rfl rfl kr kr kr kr kr (impl_isGen_ok u p0.fGen r1 e_r1) kr ?_
  refine Runs.batch 1 kr ?_
  rcases tf (r1) with hc | hc
  · have h := cond_t h hc
    refine Runs.known 6 (v := true) kr hc ?_
    refine Runs.batch 2 kr ?_
    obtain ⟨r2, e_r2, h⟩ := bind_some h
    refine Runs.callK false 9 220 [] [.t (.int .i64 p0.fSlot)] [.one (.t (.int .i64 p0.fSlot))] (.one (.t (.bool r2))) [] rfl rfl kr kr kr kr kr (impl_isSlot_ok u p0.fSlot r2 e_r2) kr ?_
    refine Runs.batch 2 kr ?_
    rcases tf (r2) with hc | hc
    · have h := cond_t h hc
      refine Runs.known 11 (v := true) kr hc ?_
      refine Runs.batch 2 kr ?_
      obtain ⟨r3, e_r3, h⟩ := bind_some h
      refine Runs.callK false 14 92 [] [.t (.int .i64 p0.fLen), .t (.int .i64 0), .t (.int .i64 240)] [.one (.t (.int .i64 p0.fLen)), .one (.t (.int .i64 0)), .one (.t (.int .i64 240))] (.one (.t (.bool r3))) [] rfl rfl kr kr kr kr kr (impl_within_ok u p0.fLen 0 240 r3 e_r3) kr ?_
      refine Runs.alln ?_
      refine Wp.fg ⟨[(2, .t (.bool r3))], [], []⟩ ?_
      refine Wp.ret ?_
      have hr := Option.some.inj h
      subst hr
      exact RetK [.t (.bool r3)] (.one (.t (.bool r3))) [] kr kr (.refl _) .nil
    · have h := cond_f h hc
      refine Runs.known 11 (v := false) kr hc ?_
      refine Runs.alln ?_
      refine Wp.fg ⟨[(2, .t (.bool false))], [], []⟩ ?_
      refine Wp.ret ?_
      have hr := Option.some.inj h
      subst hr
      exact RetK [.t (.bool false)] (.one (.t (.bool false))) [] kr kr (.refl _) .nil
  · have h := cond_f h hc
    refine Runs.known 6 (v := false) kr hc ?_
    refine Runs.alln ?_
    refine Wp.fg ⟨[(2, .t (.bool false))], [], []⟩ ?_
    refine Wp.ret ?_
    have hr := Option.some.inj h
    subst hr
    exact RetK [.t (.bool false)] (.one (.t (.bool false))) [] kr kr (.refl _) .nil
theorem impl_Disk__slot__frz0_ok (u : Nat) (p0 : Disk) (p1 : Int) (r : (List Int)) (h : impl_Disk__slot__frz0 u p0 p1 = some r) : CallOK Tryz.prog 187 [.fptr [.sl 1 (p0.fA.map (eInt .u8)), .sl 1 (p0.fB.map (eInt .u8)), .int .i64 p0.fR.fGen, .int .i64 p0.fR.fSlot, .int .i64 p0.fR.fLen, .sl 6 (p0.fP.map Put.enc)], .one (.t (.int .i64 p1))] (.fptr [.sl 1 (r.map (eInt .u8))]) [] := by
  unfold impl_Disk__slot__frz0 at h
  refine CallOK.of_bodyK (fn := Tryz.f187) (m := false) [.fadr (Disk.enc p0), .t (.int .i64 p1)] kr rfl kr kr kr kr kr ?_
  refine Wp.srg [] [] ?_
  refine Runs.alln ?_
  refine Wp.fg ⟨[(0, .fadr (Disk.enc p0)), (1, .t (.int .i64 p1))], [], []⟩ ?_
  refine Wp.seq ?_
  refine Wp.srg [] [] ?_
  refine Runs.alln ?_
  refine Wp.fg ⟨[(0, .fadr (Disk.enc p0)), (6, .t (.bool (p1 == 0)))], [], []⟩ ?_
  refine Wp.cond2 (b := p1 == 0) kr (fun hc => ?_) (fun hc => ?_)
  · have h := cond_t h hc
    refine Wp.srg [] [] ?_
    refine Runs.alln ?_
    refine Wp.fg ⟨[(0, .fadr (Disk.enc p0)), (4, .fadr (Disk.enc p0))], [], []⟩ ?_
    refine Wp.ret ?_
    refine thenR ?_
    have hr := Option.some.inj h
    subst hr
    exact RetK [.fadr (Disk.enc p0)] (.fptr ([.sl 1 (p0.fA.map (eInt .u8))] ++ [.sl 1 (p0.fB.map (eInt .u8)), .int .i64 p0.fR.fGen, .int .i64 p0.fR.fSlot, .int .i64 p0.fR.fLen, .sl 6 (p0.fP.map Put.enc)])) [] kr kr (.cut _ _) .nil
  · have h := cond_f h hc
    refine Wp.skip ?_
    refine thenN ?_
    refine Wp.srg [] [] ?_
    refine Runs.alln ?_
    refine Wp.fg ⟨[(4, .fadr [.sl 1 (p0.fB.map (eInt .u8)), .int .i64 p0.fR.fGen, .int .i64 p0.fR.fSlot, .int .i64 p0.fR.fLen, .sl 6 (p0.fP.map Put.enc)])], [], []⟩ ?_
    refine Wp.ret ?_
    have hr := Option.some.inj h
    subst hr
    exact RetK [.fadr [.sl 1 (p0.fB.map (eInt .u8)), .int .i64 p0.fR.fGen, .int .i64 p0.fR.fSlot, .int .i64 p0.fR.fLen, .sl 6 (p0.fP.map Put.enc)]] (.fptr ([.sl 1 (p0.fB.map (eInt .u8))] ++ [.int .i64 p0.fR.fGen, .int .i64 p0.fR.fSlot, .int .i64 p0.fR.fLen, .sl 6 (p0.fP.map Put.enc)])) [] kr kr (.cut _ _) .nil
theorem impl_isPut_ok (u : Nat) (p0 : Put) (r : Bool) (h : impl_isPut u p0 = some r) : CallOK Tryz.prog 209 [.agg [.t (.int .i64 p0.fWhat), .t (.int .i64 p0.fAt), .t (.sl 1 (p0.fB.map (eInt .u8))), .t (.int .i64 p0.fR.fGen), .t (.int .i64 p0.fR.fSlot), .t (.int .i64 p0.fR.fLen)]] (.one (.t (.bool r))) [] := by
  unfold impl_isPut at h
  refine CallOK.of_bodyK (fn := Tryz.f209) (m := false) [.agg ((Put.enc p0).map .t)] kr rfl kr kr kr kr kr ?_
  refine Wp.srg [] [] ?_
  refine Runs.alln ?_
  refine Wp.fg ⟨[(1, .obj 1 0), (2, .t (.bool false))], [(1, ((Put.enc p0).map .t))], []⟩ ?_
  refine Wp.seq ?_
  refine Wp.srg [] [] ?_
  refine Runs.alln ?_
  refine Wp.fg ⟨[(1, .obj 1 0), (2, .t (.bool false)), (5, .t (.bool (p0.fWhat == 2)))], [(1, ((Put.enc p0).map .t))], []⟩ ?_
  refine Wp.cond2 (b := p0.fWhat == 2) kr (fun hc => ?_) (fun hc => ?_)
  · have h := cond_t h hc
    refine Wp.srg [] [] ?_
    refine Runs.batch 4 kr ?_
    rcases tf (p0.fAt == 0) with hc | hc
    · have h := cond_t h hc
      refine Runs.known 9 (v := true) kr hc ?_
      refine Runs.batch 2 kr ?_
      refine Runs.lenT (y := .t (.sl 1 (p0.fB.map (eInt .u8)))) (e := 5) (eInt .u8) p0.fB 1 rfl rfl rfl kr kr kr kr kr ?_
      refine Runs.batch 3 kr ?_
      rcases tf (((p0.fB.length : Int)) == 0) with hc | hc
      · have h := cond_t h hc
        refine Runs.known 15 (v := true) kr hc ?_
        refine Runs.batch 2 kr ?_
        obtain ⟨r1, e_r1, h⟩ := bind_some h
        refine Runs.callK false 18 206 [] [.agg ((Record.enc p0.fR).map .t)] [.agg ((Record.enc p0.fR).map .t)] (.one (.t (.bool r1))) [] rfl rfl kr kr kr kr kr (impl_isRecord_ok u p0.fR r1 e_r1) kr ?_
        refine Runs.alln ?_
        refine Wp.fg ⟨[(1, .obj 1 0), (2, .t (.bool r1))], [(1, ((Put.enc p0).map .t))], []⟩ ?_
        refine Wp.ret ?_
        refine thenR ?_
        have hr := Option.some.inj h
        subst hr
        exact RetK [.t (.bool r1)] (.one (.t (.bool r1))) [] kr kr (.refl _) .nil
      · have h := cond_f h hc
        refine Runs.known 15 (v := false) kr hc ?_
        refine Runs.alln ?_
        refine Wp.fg ⟨[(1, .obj 1 0), (2, .t (.bool false))], [(1, ((Put.enc p0).map .t))], []⟩ ?_
        refine Wp.ret ?_
        refine thenR ?_
        have hr := Option.some.inj h
        subst hr
        exact RetK [.t (.bool false)] (.one (.t (.bool false))) [] kr kr (.refl _) .nil
    · have h := cond_f h hc
      refine Runs.known 9 (v := false) kr hc ?_
      refine Runs.alln ?_
      refine Wp.fg ⟨[(1, .obj 1 0), (2, .t (.bool false))], [(1, ((Put.enc p0).map .t))], []⟩ ?_
      refine Wp.ret ?_
      refine thenR ?_
      have hr := Option.some.inj h
      subst hr
      exact RetK [.t (.bool false)] (.one (.t (.bool false))) [] kr kr (.refl _) .nil
  · have h := cond_f h hc
    refine Wp.skip ?_
    refine thenN ?_
    refine Wp.srg [] [] ?_
    refine Runs.batch 2 kr ?_
    obtain ⟨r2, e_r2, h⟩ := bind_some h
    refine Runs.callK false 22 220 [] [.t (.int .i64 p0.fWhat)] [.one (.t (.int .i64 p0.fWhat))] (.one (.t (.bool r2))) [] rfl rfl kr kr kr kr kr (impl_isSlot_ok u p0.fWhat r2 e_r2) kr ?_
    refine Runs.batch 1 kr ?_
    rcases tf (r2) with hc | hc
    · have h := cond_t h hc
      refine Runs.known 23 (v := true) kr hc ?_
      refine Runs.batch 6 kr ?_
      rcases tf ([p0.fR.fGen, p0.fR.fSlot, p0.fR.fLen] == [0, 0, 0]) with hc | hc
      · have h := cond_t h hc
        refine Runs.known 29 (v := true) kr hc ?_
        refine Runs.batch 4 kr ?_
        refine Runs.lenT (y := .t (.sl 1 (p0.fB.map (eInt .u8)))) (e := 5) (eInt .u8) p0.fB 1 rfl rfl rfl kr kr kr kr kr ?_
        refine Runs.batch 1 kr ?_
        obtain ⟨r3, e_r3, h⟩ := bind_some h
        refine Runs.callK false 36 92 [] [.t (.int .i64 p0.fAt), .t (.int .i64 0), .t (.int .i64 (bSub .i64 240 ((p0.fB.length : Int))))] [.one (.t (.int .i64 p0.fAt)), .one (.t (.int .i64 0)), .one (.t (.int .i64 (bSub .i64 240 ((p0.fB.length : Int)))))] (.one (.t (.bool r3))) [] rfl rfl kr kr kr kr kr (impl_within_ok u p0.fAt 0 (bSub .i64 240 ((p0.fB.length : Int))) r3 e_r3) kr ?_
        refine Runs.alln ?_
        refine Wp.fg ⟨[(2, .t (.bool r3))], [], []⟩ ?_
        refine Wp.ret ?_
        have hr := Option.some.inj h
        subst hr
        exact RetK [.t (.bool r3)] (.one (.t (.bool r3))) [] kr kr (.refl _) .nil
      · have h := cond_f h hc
        refine Runs.known 29 (v := false) kr hc ?_
        refine Runs.alln ?_
        refine Wp.fg ⟨[(2, .t (.bool false))], [], []⟩ ?_
        refine Wp.ret ?_
        have hr := Option.some.inj h
        subst hr
        exact RetK [.t (.bool false)] (.one (.t (.bool false))) [] kr kr (.refl _) .nil
    · have h := cond_f h hc
      refine Runs.known 23 (v := false) kr hc ?_
      refine Runs.alln ?_
      refine Wp.fg ⟨[(2, .t (.bool false))], [], []⟩ ?_
      refine Wp.ret ?_
      have hr := Option.some.inj h
      subst hr
      exact RetK [.t (.bool false)] (.one (.t (.bool false))) [] kr kr (.refl _) .nil
theorem impl_DiskOk_1_ok (u : Nat) (p0 : Put) (r : Bool) (h : impl_DiskOk_1 u p0 = some r) : CallOK Tryz.prog 208 [.agg [.t (.int .i64 p0.fWhat), .t (.int .i64 p0.fAt), .t (.sl 1 (p0.fB.map (eInt .u8))), .t (.int .i64 p0.fR.fGen), .t (.int .i64 p0.fR.fSlot), .t (.int .i64 p0.fR.fLen)]] (.one (.t (.bool r))) [] := by
  unfold impl_DiskOk_1 at h
  refine CallOK.of_bodyK (fn := Tryz.f208) (m := false) [.agg ((Put.enc p0).map .t)] kr rfl kr kr kr kr kr ?_
  refine Wp.srg [] [] ?_
  refine Runs.alln ?_
  refine Wp.fg ⟨[(1, .obj 1 0), (2, .t (.bool false))], [(1, ((Put.enc p0).map .t))], []⟩ ?_
  refine Wp.srg [] [] ?_
  refine Runs.batch 1 kr ?_
  obtain ⟨r1, e_r1, h⟩ := bind_some h
  refine Runs.callK false 4 209 [] [.agg ((Put.enc p0).map .t)] [.agg ((Put.enc p0).map .t)] (.one (.t (.bool r1))) [] rfl rfl kr kr kr kr kr (impl_isPut_ok u p0 r1 e_r1) kr ?_
  refine Runs.alln ?_
  refine Wp.fg ⟨[(2, .t (.bool (!r1)))], [], []⟩ ?_
  refine Wp.ret ?_
  have hr := Option.some.inj h
  subst hr
  exact RetK [.t (.bool (!r1))] (.one (.t (.bool (!r1)))) [] kr kr (.refl _) .nil
theorem slices_IndexFunc___impl_Put_impl_Put__impl_DiskOk_1_ok (u : Nat) (p0 : List Put) (r : Int) (h : slices_IndexFunc___impl_Put_impl_Put__impl_DiskOk_1 u p0 = some r) : CallOK Tryz.prog 221 [.one (.t (.sl 6 (p0.map Put.enc))), .clo 208 []] (.one (.t (.int .i64 r))) [] := by
  unfold slices_IndexFunc___impl_Put_impl_Put__impl_DiskOk_1 at h
  refine CallOK.of_bodyK (fn := Tryz.f221) (m := false) [.t (.sl 6 (p0.map Put.enc)), .clo 208 []] kr rfl kr kr kr kr kr ?_
  refine Wp.srg [] [] ?_
  refine Runs.alln ?_
  refine Wp.fg ⟨[(0, .t (.sl 6 (p0.map Put.enc))), (1, .clo 208 []), (4, .t (.int .i64 0))], [], []⟩ ?_
  refine Wp.seqJ (α := Unit) (fun a => ⟨[(4, .t (.int .i64 0))], [], []⟩) (fun a => slices_IndexFunc___impl_Put_impl_Put__impl_DiskOk_1_j1 u = some r) ?_ ?_
  · rintro ⟨⟩ h
    change slices_IndexFunc___impl_Put_impl_Put__impl_DiskOk_1_j1 u = some r at h
    unfold slices_IndexFunc___impl_Put_impl_Put__impl_DiskOk_1_j1 at h
    refine Wp.srg [] [] ?_
    refine Runs.alln ?_
    refine Wp.fg ⟨[(4, .t (.int .i64 (-1)))], [], []⟩ ?_
    refine Wp.ret ?_
    have hr := Option.some.inj h
    subst hr
    exact RetK [.t (.int .i64 (-1))] (.one (.t (.int .i64 (-1)))) [] kr kr (.refl _) .nil
  · refine Wp.srg [] [] ?_
    refine Runs.batch 1 kr ?_
    refine Runs.lenT (y := .t (.sl 6 (p0.map Put.enc))) (e := 186) Put.enc p0 6 rfl rfl rfl kr kr kr kr kr ?_
    refine Runs.alln ?_
    refine Wp.fg ⟨[(0, .t (.sl 6 (p0.map Put.enc))), (1, .clo 208 []), (4, .t (.int .i64 0)), (7, .t (.int .i64 ((p0.length : Int)))), (8, .t (.int .i64 0))], [], []⟩ ?_
    refine Wp.block ?_
    refine Wp.loopF (α := (List Put) × Int) (fun a => ⟨[(0, .t (.sl 6 (a.1.map Put.enc))), (1, .clo 208 []), (4, .t (.int .i64 0)), (7, .t (.int .i64 ((a.1.length : Int)))), (8, .t (.int .i64 a.2))], [], []⟩) (fun k_slices_IndexFunc___impl_Put_impl_Put__impl_DiskOk_1_l2 a => slices_IndexFunc___impl_Put_impl_Put__impl_DiskOk_1_l2 u k_slices_IndexFunc___impl_Put_impl_Put__impl_DiskOk_1_l2 a.1 a.2 = some r) ?_ ?_ u (p0, 0) h (Le.of (mo := []) (mr := []) kr kr kr kr)
    · intro a h; unfold slices_IndexFunc___impl_Put_impl_Put__impl_DiskOk_1_l2 at h; cases h
    · rintro k_slices_IndexFunc___impl_Put_impl_Put__impl_DiskOk_1_l2 ⟨p0, x2⟩ h
      change slices_IndexFunc___impl_Put_impl_Put__impl_DiskOk_1_l2 u (k_slices_IndexFunc___impl_Put_impl_Put__impl_DiskOk_1_l2 + 1) p0 x2 = some r at h
      rw [slices_IndexFunc___impl_Put_impl_Put__impl_DiskOk_1_l2] at h
      refine Wp.srg [] [] ?_
      refine Runs.alln ?_
      refine Wp.fg ⟨[(0, .t (.sl 6 (p0.map Put.enc))), (1, .clo 208 []), (4, .t (.int .i64 0)), (7, .t (.int .i64 ((p0.length : Int)))), (8, .t (.int .i64 x2)), (9, .t (.bool (decide (x2 < ((p0.length : Int))))))], [], []⟩ ?_
      refine Wp.seq ?_
      refine Wp.cond2 (b := decide (x2 < ((p0.length : Int)))) kr (fun hc => ?_) (fun hc => ?_)
      · have h := cond_t h hc
        refine Wp.skip ?_
        refine thenN ?_
        refine Wp.seq ?_
        refine Wp.block ?_
        refine Wp.srg [] [] ?_
        refine Runs.alln ?_
        refine Wp.fg ⟨[(0, .t (.sl 6 (p0.map Put.enc))), (1, .clo 208 []), (4, .t (.int .i64 0)), (5, .t (.int .i64 x2)), (7, .t (.int .i64 ((p0.length : Int)))), (8, .t (.int .i64 x2)), (9, .t (.bool (decide (x2 < ((p0.length : Int)))))), (10, .t (.int .i64 x2))], [], []⟩ ?_
        refine Wp.srg [] [] ?_
        refine Runs.batch 3 kr ?_
        obtain ⟨y4, e_y4, h⟩ := bind_some h
        refine Runs.idxT (e := 186) (kk := .i64) (sz := 6) Put.enc p0 x2 rfl kr kr kr kr kr kr e_y4 ?_
        refine Runs.batch 1 kr ?_
        obtain ⟨r5, e_r5, h⟩ := bind_some h
        refine Runs.callK false 16 208 [] [.agg ((Put.enc y4).map .t)] [.agg ((Put.enc y4).map .t)] (.one (.t (.bool r5))) [] rfl rfl kr kr kr kr kr (impl_DiskOk_1_ok u y4 r5 e_r5) kr ?_
        refine Runs.done ?_
        refine thenN ?_
        refine Wp.fg ⟨[(0, .t (.sl 6 (p0.map Put.enc))), (1, .clo 208 []), (4, .t (.int .i64 0)), (5, .t (.int .i64 x2)), (7, .t (.int .i64 ((p0.length : Int)))), (8, .t (.int .i64 x2)), (9, .t (.bool (decide (x2 < ((p0.length : Int)))))), (10, .t (.int .i64 x2)), (11, .clo 208 []), (12, .t (.sl 6 (p0.map Put.enc))), (13, .t (.int .i64 x2)), (14, .fadr (Put.enc y4)), (15, .agg ((Put.enc y4).map .t)), (16, .t (.bool r5))], [], []⟩ ?_
        refine Wp.cond2 (b := r5) kr (fun hc => ?_) (fun hc => ?_)
        · have h := cond_t h hc
          refine Wp.srg [] [] ?_
          refine Runs.alln ?_
          refine Wp.fg ⟨[(0, .t (.sl 6 (p0.map Put.enc))), (1, .clo 208 []), (4, .t (.int .i64 x2)), (5, .t (.int .i64 x2)), (7, .t (.int .i64 ((p0.length : Int)))), (8, .t (.int .i64 x2)), (9, .t (.bool (decide (x2 < ((p0.length : Int)))))), (10, .t (.int .i64 x2)), (11, .clo 208 []), (12, .t (.sl 6 (p0.map Put.enc))), (13, .t (.int .i64 x2)), (14, .fadr (Put.enc y4)), (15, .agg ((Put.enc y4).map .t)), (16, .t (.bool r5)), (17, .t (.int .i64 x2))], [], []⟩ ?_
          refine Wp.ret ?_
          refine blkR ?_
          refine thenR ?_
          refine thenR ?_
          refine blkR ?_
          refine thenR ?_
          have hr := Option.some.inj h
          subst hr
          exact RetK [.t (.int .i64 x2)] (.one (.t (.int .i64 x2))) [] kr kr (.refl _) .nil
        · have h := cond_f h hc
          refine Wp.skip ?_
          refine blkN ?_
          refine thenN ?_
          refine Wp.rg [] [] ?_
          refine Runs.alln ?_
          exact ⟨(p0, bAdd .i64 x2 1), h, Le.of (mo := []) (mr := []) kr kr kr kr⟩
      · have h := cond_f h hc
        refine Wp.exit ?_
        refine thenE ?_
        refine thenE ?_
        refine blkE ?_
        refine thenN ?_
        exact ⟨(), h, Le.of (mo := []) (mr := []) kr kr kr kr⟩
theorem slices_ContainsFunc___impl_Put_impl_Put__impl_DiskOk_1_ok (u : Nat) (p0 : List Put) (r : Bool) (h : slices_ContainsFunc___impl_Put_impl_Put__impl_DiskOk_1 u p0 = some r) : CallOK Tryz.prog 207 [.one (.t (.sl 6 (p0.map Put.enc))), .clo 208 []] (.one (.t (.bool r))) [] := by
  unfold slices_ContainsFunc___impl_Put_impl_Put__impl_DiskOk_1 at h
  refine CallOK.of_bodyK (fn := Tryz.f207) (m := false) [.t (.sl 6 (p0.map Put.enc)), .clo 208 []] kr rfl kr kr kr kr kr ?_
  refine Wp.srg [] [] ?_
  refine Runs.alln ?_
  refine Wp.fg ⟨[(0, .t (.sl 6 (p0.map Put.enc))), (1, .clo 208 []), (4, .t (.bool false))], [], []⟩ ?_
  refine Wp.srg [] [] ?_
  refine Runs.batch 2 kr ?_
  obtain ⟨r1, e_r1, h⟩ := bind_some h
  refine Runs.callK false 7 221 [] [.t (.sl 6 (p0.map Put.enc)), .clo 208 []] [.one (.t (.sl 6 (p0.map Put.enc))), .clo 208 []] (.one (.t (.int .i64 r1))) [] rfl rfl kr kr kr kr kr (slices_IndexFunc___impl_Put_impl_Put__impl_DiskOk_1_ok u p0 r1 e_r1) kr ?_
  refine Runs.alln ?_
  refine Wp.fg ⟨[(4, .t (.bool (decide (r1 ≥ 0))))], [], []⟩ ?_
  refine Wp.ret ?_
  have hr := Option.some.inj h
  subst hr
  exact RetK [.t (.bool (decide (r1 ≥ 0)))] (.one (.t (.bool (decide (r1 ≥ 0))))) [] kr kr (.refl _) .nil
theorem impl_DiskOk_ok (u : Nat) (p0 : Disk) (r : Bool) (h : impl_DiskOk u p0 = some r) : CallOK Tryz.prog 185 [.agg [.t (.sl 1 (p0.fA.map (eInt .u8))), .t (.sl 1 (p0.fB.map (eInt .u8))), .t (.int .i64 p0.fR.fGen), .t (.int .i64 p0.fR.fSlot), .t (.int .i64 p0.fR.fLen), .t (.sl 6 (p0.fP.map Put.enc))]] (.one (.t (.bool r))) [] := by
  unfold impl_DiskOk at h
  refine CallOK.of_bodyK (fn := Tryz.f185) (m := false) [.agg ((Disk.enc p0).map .t)] kr rfl kr kr kr kr kr ?_
  refine Wp.srg [] [] ?_
  refine Runs.alln ?_
  refine Wp.fg ⟨[(1, .obj 1 0), (2, .t (.bool false))], [(1, ((Disk.enc p0).map .t))], []⟩ ?_
  refine Wp.seq ?_
  refine Wp.seqJ (α := Disk × Bool) (fun a => ⟨[(1, .fadr (Disk.enc a.1)), (2, .t (.bool false)), (31, .t (.bool a.2))], [], []⟩) (fun a => impl_DiskOk_j1 u a.1 a.2 = some r) ?_ ?_
  · rintro ⟨p0, x3⟩ h
    change impl_DiskOk_j1 u p0 x3 = some r at h
    unfold impl_DiskOk_j1 at h
    refine Wp.cond2 (b := x3) kr (fun hc => ?_) (fun hc => ?_)
    · have h := cond_t h hc
      refine Wp.srg [] [] ?_
      refine Runs.alln ?_
      refine Wp.fg ⟨[(1, .fadr (Disk.enc p0)), (2, .t (.bool false))], [], []⟩ ?_
      refine Wp.ret ?_
      refine thenR ?_
      have hr := Option.some.inj h
      subst hr
      exact RetK [.t (.bool false)] (.one (.t (.bool false))) [] kr kr (.refl _) .nil
    · have h := cond_f h hc
      refine Wp.skip ?_
      refine thenN ?_
      refine Wp.srg [] [] ?_
      refine Runs.batch 2 kr ?_
      refine Runs.lenT (y := .t (.sl 6 (p0.fP.map Put.enc))) (e := 186) Put.enc p0.fP 6 rfl rfl rfl kr kr kr kr kr ?_
      refine Runs.batch 2 kr ?_
      rcases tf (decide (((p0.fP.length : Int)) ≤ 200)) with hc | hc
      · have h := cond_t h hc
        refine Runs.known 36 (v := true) kr hc ?_
        refine Runs.batch 2 kr ?_
        obtain ⟨r4, e_r4, h⟩ := bind_some h
        refine Runs.callK false 39 207 [] [.t (.sl 6 (p0.fP.map Put.enc)), .clo 208 []] [.one (.t (.sl 6 (p0.fP.map Put.enc))), .clo 208 []] (.one (.t (.bool r4))) [] rfl rfl kr kr kr kr kr (slices_ContainsFunc___impl_Put_impl_Put__impl_DiskOk_1_ok u p0.fP r4 e_r4) kr ?_
        refine Runs.alln ?_
        refine Wp.fg ⟨[(2, .t (.bool (!r4)))], [], []⟩ ?_
        refine Wp.ret ?_
        have hr := Option.some.inj h
        subst hr
        exact RetK [.t (.bool (!r4))] (.one (.t (.bool (!r4)))) [] kr kr (.refl _) .nil
      · have h := cond_f h hc
        refine Runs.known 36 (v := false) kr hc ?_
        refine Runs.alln ?_
        refine Wp.fg ⟨[(2, .t (.bool false))], [], []⟩ ?_
        refine Wp.ret ?_
        have hr := Option.some.inj h
        subst hr
        exact RetK [.t (.bool false)] (.one (.t (.bool false))) [] kr kr (.refl _) .nil
  · refine Wp.le (Le.trans (Le.frzOb 1 (Disk.enc p0) kr kr) (Le.of (s := ⟨[(1, .fadr (Disk.enc p0)), (2, .t (.bool false))], [], []⟩) (mo := []) (mr := []) kr kr kr kr)) ?_
    refine Wp.regionA (pOf []) (rhoOf [(1, .frz), (3, .frz), (4, .frz), (5, .frz), (6, .frz), (7, .frz), (8, .frz), (9, .frz), (10, .frz), (12, .frz), (13, .frz), (14, .frz), (15, .frz), (16, .frz), (18, .frz), (19, .frz), (20, .frz), (21, .frz), (22, .frz), (23, .frz), (24, .frz), (25, .frz), (26, .frz), (27, .frz), (28, .frz), (29, .frz)]) kr kr ?_
    refine Runs.batch 2 kr ?_
    refine Runs.lenT (y := .t (.sl 1 (p0.fA.map (eInt .u8)))) (e := 5) (eInt .u8) p0.fA 1 rfl rfl rfl kr kr kr kr kr ?_
    refine Runs.batch 2 kr ?_
    rcases tf (decide (((p0.fA.length : Int)) > 240)) with hc | hc
    · have h := cond_t h hc
      refine Runs.known 7 (v := true) kr hc ?_
      refine Runs.alln ?_
      exact ⟨(p0, true), h, Le.of (mo := []) (mr := []) kr kr kr kr⟩
    · have h := cond_f h hc
      refine Runs.known 7 (v := false) kr hc ?_
      refine Runs.batch 2 kr ?_
      refine Runs.lenT (y := .t (.sl 1 (p0.fB.map (eInt .u8)))) (e := 5) (eInt .u8) p0.fB 1 rfl rfl rfl kr kr kr kr kr ?_
      refine Runs.batch 3 kr ?_
      rcases tf (decide (((p0.fB.length : Int)) > 240)) with hc | hc
      · have h := cond_t h hc
        refine Runs.known 13 (v := true) kr hc ?_
        refine Runs.alln ?_
        exact ⟨(p0, true), h, Le.of (mo := []) (mr := []) kr kr kr kr⟩
      · have h := cond_f h hc
        refine Runs.known 13 (v := false) kr hc ?_
        refine Runs.batch 2 kr ?_
        obtain ⟨r1, e_r1, h⟩ := bind_some h
        refine Runs.callK false 16 206 [] [.agg ((Record.enc p0.fR).map .t)] [.agg ((Record.enc p0.fR).map .t)] (.one (.t (.bool r1))) [] rfl rfl kr kr kr kr kr (impl_isRecord_ok u p0.fR r1 e_r1) kr ?_
        refine Runs.batch 3 kr ?_
        rcases tf (!r1) with hc | hc
        · have h := cond_t h hc
          refine Runs.known 19 (v := true) kr hc ?_
          refine Runs.alln ?_
          exact ⟨(p0, true), h, Le.of (mo := []) (mr := []) kr kr kr kr⟩
        · have h := cond_f h hc
          refine Runs.known 19 (v := false) kr hc ?_
          refine Runs.batch 6 kr ?_
          obtain ⟨r2, e_r2, h⟩ := bind_some h
          refine Runs.callK false 26 187 [] [.fadr (Disk.enc p0), .t (.int .i64 p0.fR.fSlot)] [.fptr (Disk.enc p0), .one (.t (.int .i64 p0.fR.fSlot))] (.fptr [.sl 1 (r2.map (eInt .u8))]) [] rfl rfl kr kr kr kr kr (impl_Disk__slot__frz0_ok u p0 p0.fR.fSlot r2 e_r2) kr ?_
          refine Runs.batch 2 kr ?_
          refine Runs.lenT (y := .t (.sl 1 (r2.map (eInt .u8)))) (e := 5) (eInt .u8) r2 1 rfl rfl rfl kr kr kr kr kr ?_
          refine Runs.alln ?_
          exact ⟨(p0, decide (p0.fR.fLen > ((r2.length : Int)))), h, Le.of (mo := []) (mr := []) kr kr kr kr⟩
theorem impl_cloned_ok (u : Nat) (p0 : List Int) (r : (List Int)) (h : impl_cloned u p0 = some r) : CallOK Tryz.prog 186 [.one (.t (.sl 1 (p0.map (eInt .u8))))] (.one (.ow 5 1 (r.map (eInt .u8)))) [] := by
  unfold impl_cloned at h
  refine CallOK.of_bodyK (fn := Tryz.f186) (m := true) [.t (.sl 1 (p0.map (eInt .u8)))] kr rfl kr kr kr kr kr ?_
  refine Wp.srg [] [] ?_
  refine Runs.alln ?_
  refine Wp.fg ⟨[(0, .t (.sl 1 (p0.map (eInt .u8)))), (2, .nil)], [], []⟩ ?_
  refine Wp.srg [] [] ?_
  refine Runs.batch 1 kr ?_
  refine Runs.lenT (y := .t (.sl 1 (p0.map (eInt .u8)))) (e := 5) (eInt .u8) p0 1 rfl rfl rfl kr kr kr kr kr ?_
  obtain ⟨_, e_1, h⟩ := bind_some h
  obtain ⟨_, e_2, h⟩ := bind_some h
  refine Runs.mkS (eInt .u8) (0 : Int) 5 5 1 1 0 ((p0.length : Int)) rfl rfl kr kr kr kr kr kr (chk_some e_1) (of_decide_eq_true (chk_some e_2)) kr ?_
  refine Runs.batch 1 kr ?_
  obtain ⟨_, e_3, h⟩ := bind_some h
  refine Runs.appT (y := .t (.sl 1 (p0.map (eInt .u8)))) (eInt .u8) 7 1 5 1 1 327680 (List.replicate (Int.toNat 0) (0 : Int)) p0 rfl rfl rfl rfl kr kr kr kr kr kr (.inl rfl) kr (of_decide_eq_true (chk_some e_3)) kr kr ?_
  refine Runs.alln ?_
  refine Wp.fg ⟨[(2, .own 458752)], [], [(458752, .live 5 1 (((List.replicate (Int.toNat 0) (0 : Int)) ++ p0).map (eInt .u8)))]⟩ ?_
  refine Wp.ret ?_
  have hr := Option.some.inj h
  subst hr
  exact RetK [.own 458752] (.one (.ow 5 1 (((List.replicate (Int.toNat 0) (0 : Int)) ++ p0).map (eInt .u8)))) [] kr kr (.refl _) .nil
theorem impl_Recover_ok (u : Nat) (p0 : Disk) (r : Int × (List Int)) (h : impl_Recover u p0 = some r) : CallOK Tryz.prog 157 [.agg [.t (.sl 1 (p0.fA.map (eInt .u8))), .t (.sl 1 (p0.fB.map (eInt .u8))), .t (.int .i64 p0.fR.fGen), .t (.int .i64 p0.fR.fSlot), .t (.int .i64 p0.fR.fLen), .t (.sl 6 (p0.fP.map Put.enc))]] (.tup [.one (.t (.int .i64 r.1)), .one (.ow 5 1 (r.2.map (eInt .u8)))]) [] := by
  unfold impl_Recover at h
  refine CallOK.of_bodyK (fn := Tryz.f157) (m := true) [.agg ((Disk.enc p0).map .t)] kr rfl kr kr kr kr kr ?_
  refine Wp.srg [] [] ?_
  refine Runs.alln ?_
  refine Wp.fg ⟨[(1, .obj 1 0), (2, .t (.int .i64 0)), (3, .nil)], [(1, ((Disk.enc p0).map .t))], []⟩ ?_
  refine Wp.seq ?_
  refine Wp.srg [] [] ?_
  refine Runs.batch 1 kr ?_
  obtain ⟨r1, e_r1, h⟩ := bind_some h
  refine Runs.callK false 5 185 [] [.agg ((Disk.enc p0).map .t)] [.agg ((Disk.enc p0).map .t)] (.one (.t (.bool r1))) [] rfl rfl kr kr kr kr kr (impl_DiskOk_ok u p0 r1 e_r1) kr ?_
  refine Runs.alln ?_
  refine Wp.fg ⟨[(1, .obj 1 0), (2, .t (.int .i64 0)), (3, .nil), (6, .t (.bool (!r1)))], [(1, ((Disk.enc p0).map .t))], []⟩ ?_
  refine Wp.cond2 (b := !r1) kr (fun hc => ?_) (fun hc => ?_)
  · have h := cond_t h hc
    refine Wp.srg [] [] ?_
    refine Runs.alln ?_
    refine Wp.fg ⟨[(1, .obj 1 0), (2, .t (.int .i64 0)), (3, .nil)], [(1, ((Disk.enc p0).map .t))], []⟩ ?_
    refine Wp.ret ?_
    refine thenR ?_
    have hr := Option.some.inj h
    subst hr
    exact RetK [.t (.int .i64 0), .nil] (.tup [.one (.t (.int .i64 0)), .one (.nil)]) [] kr kr (.tup (.cons (.refl _) (.cons (.one (.nilO _ _)) .nil))) .nil
  · have h := cond_f h hc
    refine Wp.skip ?_
    refine thenN ?_
    refine Wp.seq ?_
    refine Wp.le (Le.trans (Le.frzOb 1 (Disk.enc p0) kr kr) (Le.of (s := ⟨[(1, .fadr (Disk.enc p0)), (2, .t (.int .i64 0)), (3, .nil)], [], []⟩) (mo := []) (mr := []) kr kr kr kr)) ?_
    refine Wp.regionA (pOf []) (rhoOf [(1, .frz), (7, .frz), (8, .frz), (9, .frz), (10, .frz), (11, .frz), (12, .frz), (13, .frz), (14, .frz), (15, .frz), (16, .frz), (17, .frz), (18, .frz), (19, .frz), (20, .own 20)]) kr kr ?_
    refine Runs.batch 6 kr ?_
    obtain ⟨r2, e_r2, h⟩ := bind_some h
    refine Runs.callK false 13 187 [] [.fadr (Disk.enc p0), .t (.int .i64 p0.fR.fSlot)] [.fptr (Disk.enc p0), .one (.t (.int .i64 p0.fR.fSlot))] (.fptr [.sl 1 (r2.map (eInt .u8))]) [] rfl rfl kr kr kr kr kr (impl_Disk__slot__frz0_ok u p0 p0.fR.fSlot r2 e_r2) kr ?_
    refine Runs.batch 5 kr ?_
    obtain ⟨_, e_3, h⟩ := bind_some h
    refine Runs.subsl (e := 5) (ax := .t (.sl 1 (r2.map (eInt .u8)))) (alo := none) (ahi := (some (.t (.int .i64 p0.fR.fLen)))) (eInt .u8) r2 1 0 p0.fR.fLen rfl kr kr kr kr kr kr kr kr kr kr kr (chk_some e_3) ?_
    obtain ⟨r4, e_r4, h⟩ := bind_some h
    refine Runs.callK false 20 186 [] [.t (.sl 1 (((r2.take (Int.toNat p0.fR.fLen)).drop (Int.toNat 0)).map (eInt .u8)))] [.one (.t (.sl 1 (((r2.take (Int.toNat p0.fR.fLen)).drop (Int.toNat 0)).map (eInt .u8))))] (.one (.ow 5 1 (r4.map (eInt .u8)))) [] rfl rfl kr kr kr kr kr (impl_cloned_ok u ((r2.take (Int.toNat p0.fR.fLen)).drop (Int.toNat 0)) r4 e_r4) kr ?_
    refine Runs.alln ?_
    refine Wp.fg ⟨[(2, .t (.int .i64 p0.fR.fGen)), (3, .own 1310720)], [], [(1310720, .live 5 1 (r4.map (eInt .u8)))]⟩ ?_
    refine Wp.ret ?_
    have hr := Option.some.inj h
    subst hr
    exact RetK [.t (.int .i64 p0.fR.fGen), .own 1310720] (.tup [.one (.t (.int .i64 p0.fR.fGen)), .one (.ow 5 1 (r4.map (eInt .u8)))]) [] kr kr (.refl _) .nil
theorem bytes_Equal_ok (u : Nat) (p0 : List Int) (p1 : List Int) (r : Bool) (h : bytes_Equal u p0 p1 = some r) : CallOK Tryz.prog 188 [.one (.t (.sl 1 (p0.map (eInt .u8)))), .one (.t (.sl 1 (p1.map (eInt .u8))))] (.one (.t (.bool r))) [] := by
  unfold bytes_Equal at h
  refine CallOK.of_bodyK (fn := Tryz.f188) (m := false) [.t (.sl 1 (p0.map (eInt .u8))), .t (.sl 1 (p1.map (eInt .u8)))] kr rfl kr kr kr kr kr ?_
  refine Wp.srg [] [] ?_
  refine Runs.alln ?_
  refine Wp.fg ⟨[(0, .t (.sl 1 (p0.map (eInt .u8)))), (1, .t (.sl 1 (p1.map (eInt .u8)))), (4, .t (.bool false))], [], []⟩ ?_
  refine Wp.srg [] [] ?_
  refine Runs.batch 1 kr ?_
  refine Runs.bytesStr (y := .t (.sl 1 (p0.map (eInt .u8)))) (e := 5) p0 1 rfl kr kr kr kr kr kr kr ?_
  refine Runs.batch 1 kr ?_
  refine Runs.bytesStr (y := .t (.sl 1 (p1.map (eInt .u8)))) (e := 5) p1 1 rfl kr kr kr kr kr kr kr ?_
  refine Runs.alln ?_
  refine Wp.fg ⟨[(4, .t (.bool ((strOfNums p0).toList == (strOfNums p1).toList)))], [], []⟩ ?_
  refine Wp.ret ?_
  have hr := Option.some.inj h
  subst hr
  exact RetK [.t (.bool ((strOfNums p0).toList == (strOfNums p1).toList))] (.one (.t (.bool ((strOfNums p0).toList == (strOfNums p1).toList)))) [] kr kr (.refl _) .nil
theorem impl_SameBytes_ok (u : Nat) (p0 : List Int) (p1 : List Int) (r : Bool) (h : impl_SameBytes u p0 p1 = some r) : CallOK Tryz.prog 158 [.one (.t (.sl 1 (p0.map (eInt .u8)))), .one (.t (.sl 1 (p1.map (eInt .u8))))] (.one (.t (.bool r))) [] := by
  unfold impl_SameBytes at h
  refine CallOK.of_bodyK (fn := Tryz.f158) (m := false) [.t (.sl 1 (p0.map (eInt .u8))), .t (.sl 1 (p1.map (eInt .u8)))] kr rfl kr kr kr kr kr ?_
  refine Wp.srg [] [] ?_
  refine Runs.alln ?_
  refine Wp.fg ⟨[(0, .t (.sl 1 (p0.map (eInt .u8)))), (1, .t (.sl 1 (p1.map (eInt .u8)))), (4, .t (.bool false))], [], []⟩ ?_
  refine Wp.srg [] [] ?_
  refine Runs.batch 2 kr ?_
  obtain ⟨r1, e_r1, h⟩ := bind_some h
  refine Runs.callK false 7 188 [] [.t (.sl 1 (p0.map (eInt .u8))), .t (.sl 1 (p1.map (eInt .u8)))] [.one (.t (.sl 1 (p0.map (eInt .u8)))), .one (.t (.sl 1 (p1.map (eInt .u8))))] (.one (.t (.bool r1))) [] rfl rfl kr kr kr kr kr (bytes_Equal_ok u p0 p1 r1 e_r1) kr ?_
  refine Runs.alln ?_
  refine Wp.fg ⟨[(4, .t (.bool r1))], [], []⟩ ?_
  refine Wp.ret ?_
  have hr := Option.some.inj h
  subst hr
  exact RetK [.t (.bool r1)] (.one (.t (.bool r1))) [] kr kr (.refl _) .nil
theorem impl_Holds_ok (u : Nat) (p0 : Disk) (p1 : Int) (p2 : List Int) (r : Bool) (h : impl_Holds u p0 p1 p2 = some r) : CallOK Tryz.prog 117 [.agg [.t (.sl 1 (p0.fA.map (eInt .u8))), .t (.sl 1 (p0.fB.map (eInt .u8))), .t (.int .i64 p0.fR.fGen), .t (.int .i64 p0.fR.fSlot), .t (.int .i64 p0.fR.fLen), .t (.sl 6 (p0.fP.map Put.enc))], .one (.t (.int .i64 p1)), .one (.t (.sl 1 (p2.map (eInt .u8))))] (.one (.t (.bool r))) [] := by
  unfold impl_Holds at h
  refine CallOK.of_bodyK (fn := Tryz.f117) (m := false) [.agg ((Disk.enc p0).map .t), .t (.int .i64 p1), .t (.sl 1 (p2.map (eInt .u8)))] kr rfl kr kr kr kr kr ?_
  refine Wp.srg [] [] ?_
  refine Runs.alln ?_
  refine Wp.fg ⟨[(1, .t (.int .i64 p1)), (2, .t (.sl 1 (p2.map (eInt .u8)))), (3, .obj 3 0), (6, .t (.bool false))], [(3, ((Disk.enc p0).map .t))], []⟩ ?_
  refine Wp.srg [] [] ?_
  refine Runs.batch 1 kr ?_
  obtain ⟨r1, e_r1, h⟩ := bind_some h
  refine Runs.callK false 11 157 [] [.agg ((Disk.enc p0).map .t)] [.agg ((Disk.enc p0).map .t)] (.tup [.one (.t (.int .i64 r1.1)), .one (.ow 5 1 (r1.2.map (eInt .u8)))]) [] rfl rfl kr kr kr kr kr (impl_Recover_ok u p0 r1 e_r1) kr ?_
  refine Runs.alln ?_
  refine Wp.fg ⟨[(1, .t (.int .i64 p1)), (2, .t (.sl 1 (p2.map (eInt .u8)))), (6, .t (.bool false)), (7, .t (.int .i64 r1.1)), (8, .own 721920)], [], [(721920, .live 5 1 (r1.2.map (eInt .u8)))]⟩ ?_
  refine Wp.srg [] [] ?_
  refine Runs.batch 4 kr ?_
  rcases tf (r1.1 == p1) with hc | hc
  · have h := cond_t h hc
    refine Runs.known 17 (v := true) kr hc ?_
    refine Runs.batch 2 kr ?_
    obtain ⟨r2, e_r2, h⟩ := bind_some h
    refine Runs.callBK 20 158 [] [.own 721920, .t (.sl 1 (p2.map (eInt .u8)))] [.one (.t (.sl 1 (r1.2.map (eInt .u8)))), .one (.t (.sl 1 (p2.map (eInt .u8))))] (.one (.t (.bool r2))) rfl rfl kr kr kr kr kr (impl_SameBytes_ok u r1.2 p2 r2 e_r2) (by simp [V.plain, V.plains, C.plain, T.sc]) kr ?_
    refine Runs.alln ?_
    refine Wp.fg ⟨[(6, .t (.bool r2))], [], []⟩ ?_
    refine Wp.ret ?_
    have hr := Option.some.inj h
    subst hr
    exact RetK [.t (.bool r2)] (.one (.t (.bool r2))) [] kr kr (.refl _) .nil
  · have h := cond_f h hc
    refine Runs.known 17 (v := false) kr hc ?_
    refine Runs.alln ?_
    refine Wp.fg ⟨[(6, .t (.bool false))], [], []⟩ ?_
    refine Wp.ret ?_
    have hr := Option.some.inj h
    subst hr
    exact RetK [.t (.bool false)] (.one (.t (.bool false))) [] kr kr (.refl _) .nil
theorem impl_HoldsAny_ok (u : Nat) (p0 : Disk) (p1 : List Int) (p2 : Int) (p3 : List Int) (r : Bool) (h : impl_HoldsAny u p0 p1 p2 p3 = some r) : CallOK Tryz.prog 120 [.agg [.t (.sl 1 (p0.fA.map (eInt .u8))), .t (.sl 1 (p0.fB.map (eInt .u8))), .t (.int .i64 p0.fR.fGen), .t (.int .i64 p0.fR.fSlot), .t (.int .i64 p0.fR.fLen), .t (.sl 6 (p0.fP.map Put.enc))], .one (.t (.sl 1 (p1.map (eInt .u8)))), .one (.t (.int .i64 p2)), .one (.t (.sl 1 (p3.map (eInt .u8))))] (.one (.t (.bool r))) [] := by
  unfold impl_HoldsAny at h
  refine CallOK.of_bodyK (fn := Tryz.f120) (m := false) [.agg ((Disk.enc p0).map .t), .t (.sl 1 (p1.map (eInt .u8))), .t (.int .i64 p2), .t (.sl 1 (p3.map (eInt .u8)))] kr rfl kr kr kr kr kr ?_
  refine Wp.srg [] [] ?_
  refine Runs.alln ?_
  refine Wp.fg ⟨[(1, .t (.sl 1 (p1.map (eInt .u8)))), (2, .t (.int .i64 p2)), (3, .t (.sl 1 (p3.map (eInt .u8)))), (4, .obj 4 0), (8, .t (.bool false))], [(4, ((Disk.enc p0).map .t))], []⟩ ?_
  refine Wp.srg [] [] ?_
  refine Runs.batch 2 kr ?_
  obtain ⟨r1, e_r1, h⟩ := bind_some h
  refine Runs.callK false 11 117 [] [.agg ((Disk.enc p0).map .t), .t (.int .i64 0), .t (.sl 1 (p1.map (eInt .u8)))] [.agg ((Disk.enc p0).map .t), .one (.t (.int .i64 0)), .one (.t (.sl 1 (p1.map (eInt .u8))))] (.one (.t (.bool r1))) [] rfl rfl kr kr kr kr kr (impl_Holds_ok u p0 0 p1 r1 e_r1) kr ?_
  refine Runs.batch 1 kr ?_
  rcases tf (r1) with hc | hc
  · have h := cond_t h hc
    refine Runs.known 12 (v := true) kr hc ?_
    refine Runs.alln ?_
    refine Wp.fg ⟨[(8, .t (.bool true))], [], []⟩ ?_
    refine Wp.ret ?_
    have hr := Option.some.inj h
    subst hr
    exact RetK [.t (.bool true)] (.one (.t (.bool true))) [] kr kr (.refl _) .nil
  · have h := cond_f h hc
    refine Runs.known 12 (v := false) kr hc ?_
    refine Runs.batch 3 kr ?_
    obtain ⟨r2, e_r2, h⟩ := bind_some h
    refine Runs.callK false 16 117 [] [.agg ((Disk.enc p0).map .t), .t (.int .i64 p2), .t (.sl 1 (p3.map (eInt .u8)))] [.agg ((Disk.enc p0).map .t), .one (.t (.int .i64 p2)), .one (.t (.sl 1 (p3.map (eInt .u8))))] (.one (.t (.bool r2))) [] rfl rfl kr kr kr kr kr (impl_Holds_ok u p0 p2 p3 r2 e_r2) kr ?_
    refine Runs.alln ?_
    refine Wp.fg ⟨[(8, .t (.bool r2))], [], []⟩ ?_
    refine Wp.ret ?_
    have hr := Option.some.inj h
    subst hr
    exact RetK [.t (.bool r2)] (.one (.t (.bool r2))) [] kr kr (.refl _) .nil
theorem impl_copyPut_ok (u : Nat) (p0 : Put) (r : Put) (h : impl_copyPut u p0 = some r) : CallOK Tryz.prog 222 [.agg [.t (.int .i64 p0.fWhat), .t (.int .i64 p0.fAt), .t (.sl 1 (p0.fB.map (eInt .u8))), .t (.int .i64 p0.fR.fGen), .t (.int .i64 p0.fR.fSlot), .t (.int .i64 p0.fR.fLen)]] (.agg [.t (.int .i64 r.fWhat), .t (.int .i64 r.fAt), .ow 5 1 (r.fB.map (eInt .u8)), .t (.int .i64 r.fR.fGen), .t (.int .i64 r.fR.fSlot), .t (.int .i64 r.fR.fLen)]) [] := by
  unfold impl_copyPut at h
  refine CallOK.of_bodyK (fn := Tryz.f222) (m := true) [.agg ((Put.enc p0).map .t)] kr rfl kr kr kr kr kr ?_
  refine Wp.srg [] [] ?_
  refine Runs.alln ?_
  refine Wp.fg ⟨[(1, .obj 1 0), (2, .obj 2 0)], [(1, ((Put.enc p0).map .t)), (2, [.t (.int .i64 0), .t (.int .i64 0), .nil, .t (.int .i64 0), .t (.int .i64 0), .t (.int .i64 0)])], []⟩ ?_
  refine Wp.srg [] [] ?_
  refine Runs.batch 2 kr ?_
  obtain ⟨r1, e_r1, h⟩ := bind_some h
  refine Runs.callK false 5 186 [] [.t (.sl 1 (p0.fB.map (eInt .u8)))] [.one (.t (.sl 1 (p0.fB.map (eInt .u8))))] (.one (.ow 5 1 (r1.map (eInt .u8)))) [] rfl rfl kr kr kr kr kr (impl_cloned_ok u p0.fB r1 e_r1) kr ?_
  refine Runs.alln ?_
  refine Wp.fg ⟨[(1, .obj 1 0), (2, .obj 2 0)], [(1, [.t (.int .i64 p0.fWhat), .t (.int .i64 p0.fAt), .own 327680, .t (.int .i64 p0.fR.fGen), .t (.int .i64 p0.fR.fSlot), .t (.int .i64 p0.fR.fLen)]), (2, [.t (.int .i64 0), .t (.int .i64 0), .nil, .t (.int .i64 0), .t (.int .i64 0), .t (.int .i64 0)])], [(327680, .live 5 1 (r1.map (eInt .u8)))]⟩ ?_
  refine Wp.srg [] [] ?_
  refine Runs.alln ?_
  refine Wp.fg ⟨[(2, .obj 2 0)], [(2, [.t (.int .i64 p0.fWhat), .t (.int .i64 p0.fAt), .own 327680, .t (.int .i64 p0.fR.fGen), .t (.int .i64 p0.fR.fSlot), .t (.int .i64 p0.fR.fLen)])], [(327680, .live 5 1 (r1.map (eInt .u8)))]⟩ ?_
  refine Wp.ret ?_
  have hr := Option.some.inj h
  subst hr
  exact RetK [.agg [.t (.int .i64 p0.fWhat), .t (.int .i64 p0.fAt), .own 327680, .t (.int .i64 p0.fR.fGen), .t (.int .i64 p0.fR.fSlot), .t (.int .i64 p0.fR.fLen)]] (.agg [.t (.int .i64 p0.fWhat), .t (.int .i64 p0.fAt), .ow 5 1 (r1.map (eInt .u8)), .t (.int .i64 p0.fR.fGen), .t (.int .i64 p0.fR.fSlot), .t (.int .i64 p0.fR.fLen)]) [] kr kr (.refl _) .nil
theorem impl_copyDisk_ok (u : Nat) (p0 : Disk) (r : Disk) (h : impl_copyDisk u p0 = some r) : CallOK Tryz.prog 212 [.agg [.t (.sl 1 (p0.fA.map (eInt .u8))), .t (.sl 1 (p0.fB.map (eInt .u8))), .t (.int .i64 p0.fR.fGen), .t (.int .i64 p0.fR.fSlot), .t (.int .i64 p0.fR.fLen), .t (.sl 6 (p0.fP.map Put.enc))]] (.agg [.ow 5 1 (r.fA.map (eInt .u8)), .ow 5 1 (r.fB.map (eInt .u8)), .t (.int .i64 r.fR.fGen), .t (.int .i64 r.fR.fSlot), .t (.int .i64 r.fR.fLen), .ow 186 6 (r.fP.map Put.enc)]) [] := by
  unfold impl_copyDisk at h
  refine CallOK.of_bodyK (fn := Tryz.f212) (m := true) [.agg ((Disk.enc p0).map .t)] kr rfl kr kr kr kr kr ?_
  refine Wp.srg [] [] ?_
  refine Runs.alln ?_
  refine Wp.fg ⟨[(1, .obj 1 0), (2, .obj 2 0)], [(1, ((Disk.enc p0).map .t)), (2, [.nil, .nil, .t (.int .i64 0), .t (.int .i64 0), .t (.int .i64 0), .nil])], []⟩ ?_
  refine Wp.seq ?_
  refine Wp.regionA (pOf []) (rhoOf [(1, .obj 1), (3, .obj 3), (6, .obj 1), (7, .frz), (8, .own 8), (9, .obj 1), (10, .frz), (11, .own 11), (12, .obj 1), (13, .frz)]) kr kr ?_
  refine Runs.batch 2 kr ?_
  obtain ⟨r1, e_r1, h⟩ := bind_some h
  refine Runs.callK false 8 186 [] [.t (.sl 1 (p0.fA.map (eInt .u8)))] [.one (.t (.sl 1 (p0.fA.map (eInt .u8))))] (.one (.ow 5 1 (r1.map (eInt .u8)))) [] rfl rfl kr kr kr kr kr (impl_cloned_ok u p0.fA r1 e_r1) kr ?_
  refine Runs.batch 2 kr ?_
  obtain ⟨r2, e_r2, h⟩ := bind_some h
  refine Runs.callK false 11 186 [] [.t (.sl 1 (p0.fB.map (eInt .u8)))] [.one (.t (.sl 1 (p0.fB.map (eInt .u8))))] (.one (.ow 5 1 (r2.map (eInt .u8)))) [] rfl rfl kr kr kr kr kr (impl_cloned_ok u p0.fB r2 e_r2) kr ?_
  refine Runs.alln ?_
  refine Wp.fg ⟨[(1, .obj 1 0), (2, .obj 2 0), (3, .obj 3 0)], [(1, ((Disk.enc p0).map .t)), (2, [.nil, .nil, .t (.int .i64 0), .t (.int .i64 0), .t (.int .i64 0), .nil]), (3, [.own 524288, .own 720896, .t (.int .i64 p0.fR.fGen), .t (.int .i64 p0.fR.fSlot), .t (.int .i64 p0.fR.fLen), .nil])], [(524288, .live 5 1 (r1.map (eInt .u8))), (720896, .live 5 1 (r2.map (eInt .u8)))]⟩ ?_
  refine Wp.seqJ (α := ((List Int)) × ((List Int)) × Disk × (List Put)) (fun a => ⟨[(2, .obj 2 0), (3, .obj 3 0)], [(2, [.nil, .nil, .t (.int .i64 0), .t (.int .i64 0), .t (.int .i64 0), .nil]), (3, [.own 197120, .own 197121, .t (.int .i64 a.2.2.1.fR.fGen), .t (.int .i64 a.2.2.1.fR.fSlot), .t (.int .i64 a.2.2.1.fR.fLen), .own 197125])], [(197120, .live 5 1 (a.1.map (eInt .u8))), (197121, .live 5 1 (a.2.1.map (eInt .u8))), (197125, .live 186 6 (a.2.2.2.map Put.enc))]⟩) (fun a => impl_copyDisk_j1 u a.1 a.2.1 a.2.2.1 a.2.2.2 = some r) ?_ ?_
  · rintro ⟨r1, r2, p0, x11⟩ h
    change impl_copyDisk_j1 u r1 r2 p0 x11 = some r at h
    unfold impl_copyDisk_j1 at h
    refine Wp.srg [] [] ?_
    refine Runs.alln ?_
    refine Wp.fg ⟨[(2, .obj 2 0)], [(2, [.own 197120, .own 197121, .t (.int .i64 p0.fR.fGen), .t (.int .i64 p0.fR.fSlot), .t (.int .i64 p0.fR.fLen), .own 197125])], [(197120, .live 5 1 (r1.map (eInt .u8))), (197121, .live 5 1 (r2.map (eInt .u8))), (197125, .live 186 6 (x11.map Put.enc))]⟩ ?_
    refine Wp.ret ?_
    have hr := Option.some.inj h
    subst hr
    exact RetK [.agg [.own 197120, .own 197121, .t (.int .i64 p0.fR.fGen), .t (.int .i64 p0.fR.fSlot), .t (.int .i64 p0.fR.fLen), .own 197125]] (.agg [.ow 5 1 (r1.map (eInt .u8)), .ow 5 1 (r2.map (eInt .u8)), .t (.int .i64 p0.fR.fGen), .t (.int .i64 p0.fR.fSlot), .t (.int .i64 p0.fR.fLen), .ow 186 6 (x11.map Put.enc)]) [] kr kr (.refl _) .nil
  · refine Wp.srg [] [] ?_
    refine Runs.batch 2 kr ?_
    refine Runs.lenT (y := .t (.sl 6 (p0.fP.map Put.enc))) (e := 186) Put.enc p0.fP 6 rfl rfl rfl kr kr kr kr kr ?_
    refine Runs.alln ?_
    refine Wp.fg ⟨[(2, .obj 2 0), (3, .obj 3 0), (16, .t (.sl 6 (p0.fP.map Put.enc))), (17, .t (.int .i64 ((p0.fP.length : Int)))), (18, .t (.int .i64 0))], [(2, [.nil, .nil, .t (.int .i64 0), .t (.int .i64 0), .t (.int .i64 0), .nil]), (3, [.own 524288, .own 720896, .t (.int .i64 p0.fR.fGen), .t (.int .i64 p0.fR.fSlot), .t (.int .i64 p0.fR.fLen), .nil])], [(524288, .live 5 1 (r1.map (eInt .u8))), (720896, .live 5 1 (r2.map (eInt .u8)))]⟩ ?_
    refine Wp.block ?_
    refine Wp.loopF (α := Disk × Int × ((List Int)) × ((List Int)) × (List Put)) (fun a => ⟨[(2, .obj 2 0), (3, .obj 3 0), (16, .t (.sl 6 (a.1.fP.map Put.enc))), (17, .t (.int .i64 ((a.1.fP.length : Int)))), (18, .t (.int .i64 a.2.1))], [(2, [.nil, .nil, .t (.int .i64 0), .t (.int .i64 0), .t (.int .i64 0), .nil]), (3, [.own 197120, .own 197121, .t (.int .i64 a.1.fR.fGen), .t (.int .i64 a.1.fR.fSlot), .t (.int .i64 a.1.fR.fLen), .own 197125])], [(197120, .live 5 1 (a.2.2.1.map (eInt .u8))), (197121, .live 5 1 (a.2.2.2.1.map (eInt .u8))), (197125, .live 186 6 (a.2.2.2.2.map Put.enc))]⟩) (fun k_impl_copyDisk_l2 a => impl_copyDisk_l2 u k_impl_copyDisk_l2 a.1 a.2.1 a.2.2.1 a.2.2.2.1 a.2.2.2.2 = some r) ?_ ?_ u (p0, 0, r1, r2, []) h (Le.trans (Le.emptyO 3 5 197125 186 6 [.own 524288, .own 720896, .t (.int .i64 p0.fR.fGen), .t (.int .i64 p0.fR.fSlot), .t (.int .i64 p0.fR.fLen), .nil] kr kr kr) (Le.of (mo := []) (mr := [(197120, 524288), (197121, 720896)]) kr kr kr kr))
    · intro a h; unfold impl_copyDisk_l2 at h; cases h
    · rintro k_impl_copyDisk_l2 ⟨p0, x5, r1, r2, x6⟩ h
      change impl_copyDisk_l2 u (k_impl_copyDisk_l2 + 1) p0 x5 r1 r2 x6 = some r at h
      rw [impl_copyDisk_l2] at h
      refine Wp.srg [] [] ?_
      refine Runs.alln ?_
      refine Wp.fg ⟨[(2, .obj 2 0), (3, .obj 3 0), (16, .t (.sl 6 (p0.fP.map Put.enc))), (17, .t (.int .i64 ((p0.fP.length : Int)))), (18, .t (.int .i64 x5)), (19, .t (.bool (decide (x5 < ((p0.fP.length : Int))))))], [(2, [.nil, .nil, .t (.int .i64 0), .t (.int .i64 0), .t (.int .i64 0), .nil]), (3, [.own 197120, .own 197121, .t (.int .i64 p0.fR.fGen), .t (.int .i64 p0.fR.fSlot), .t (.int .i64 p0.fR.fLen), .own 197125])], [(197120, .live 5 1 (r1.map (eInt .u8))), (197121, .live 5 1 (r2.map (eInt .u8))), (197125, .live 186 6 (x6.map Put.enc))]⟩ ?_
      refine Wp.seq ?_
      refine Wp.cond2 (b := decide (x5 < ((p0.fP.length : Int)))) kr (fun hc => ?_) (fun hc => ?_)
      · have h := cond_t h hc
        refine Wp.skip ?_
        refine thenN ?_
        refine Wp.seq ?_
        refine Wp.block ?_
        refine Wp.srg [] [] ?_
        obtain ⟨y9, e_y9, h⟩ := bind_some h
        refine Runs.idxT (e := 186) (kk := .i64) (sz := 6) Put.enc p0.fP x5 rfl kr kr kr kr kr kr e_y9 ?_
        refine Runs.alln ?_
        refine Wp.fg ⟨[(2, .obj 2 0), (3, .obj 3 0), (5, .obj 5 0), (16, .t (.sl 6 (p0.fP.map Put.enc))), (17, .t (.int .i64 ((p0.fP.length : Int)))), (18, .t (.int .i64 x5)), (19, .t (.bool (decide (x5 < ((p0.fP.length : Int)))))), (20, .fadr (Put.enc y9)), (21, .agg ((Put.enc y9).map .t))], [(2, [.nil, .nil, .t (.int .i64 0), .t (.int .i64 0), .t (.int .i64 0), .nil]), (3, [.own 197120, .own 197121, .t (.int .i64 p0.fR.fGen), .t (.int .i64 p0.fR.fSlot), .t (.int .i64 p0.fR.fLen), .own 197125]), (5, ((Put.enc y9).map .t))], [(197120, .live 5 1 (r1.map (eInt .u8))), (197121, .live 5 1 (r2.map (eInt .u8))), (197125, .live 186 6 (x6.map Put.enc))]⟩ ?_
        refine Wp.regionA (pOf []) (rhoOf [(3, .obj 3), (5, .obj 5), (22, .obj 3), (23, .own 3), (24, .frz), (26, .own 26), (27, .own 27), (28, .obj 3)]) kr kr ?_
        refine Runs.batch 3 kr ?_
        obtain ⟨r10, e_r10, h⟩ := bind_some h
        refine Runs.callK false 25 222 [] [.agg ((Put.enc y9).map .t)] [.agg ((Put.enc y9).map .t)] (.agg [.t (.int .i64 r10.fWhat), .t (.int .i64 r10.fAt), .ow 5 1 (r10.fB.map (eInt .u8)), .t (.int .i64 r10.fR.fGen), .t (.int .i64 r10.fR.fSlot), .t (.int .i64 r10.fR.fLen)]) [] rfl rfl kr kr kr kr kr (impl_copyPut_ok u y9 r10 e_r10) kr ?_
        refine Runs.batch 1 kr ?_
        obtain ⟨_, e_11, h⟩ := bind_some h
        refine Runs.appT (y := .own 1703936) Put.enc 27 6 186 6 64 197125 x6 ([r10]) rfl rfl rfl rfl kr kr kr kr kr kr (.inl rfl) kr (of_decide_eq_true (chk_some e_11)) kr kr ?_
        refine Runs.all kr ?_
        refine blkN ?_
        refine thenN ?_
        refine Wp.rg [] [] ?_
        refine Runs.alln ?_
        exact ⟨(p0, bAdd .i64 x5 1, r1, r2, x6 ++ ([r10])), h, Le.of (mo := []) (mr := [(197125, 1769472)]) kr kr kr kr⟩
      · have h := cond_f h hc
        refine Wp.exit ?_
        refine thenE ?_
        refine thenE ?_
        refine blkE ?_
        refine thenN ?_
        exact ⟨(r1, r2, p0, x6), h, Le.of (mo := []) (mr := []) kr kr kr kr⟩
theorem impl_SetOk_ok (u : Nat) (p0 : Int) (r : Bool) (h : impl_SetOk u p0 = some r) : CallOK Tryz.prog 183 [.one (.t (.int .i64 p0))] (.one (.t (.bool r))) [] := by
  unfold impl_SetOk at h
  refine CallOK.of_bodyK (fn := Tryz.f183) (m := false) [.t (.int .i64 p0)] kr rfl kr kr kr kr kr ?_
  refine Wp.srg [] [] ?_
  refine Runs.alln ?_
  refine Wp.fg ⟨[(0, .t (.int .i64 p0)), (2, .t (.bool false))], [], []⟩ ?_
  refine Wp.srg [] [] ?_
  refine Runs.batch 1 kr ?_
  obtain ⟨r1, e_r1, h⟩ := bind_some h
  refine Runs.callK false 4 92 [] [.t (.int .i64 p0), .t (.int .i64 0), .t (.int .i64 1099511627775)] [.one (.t (.int .i64 p0)), .one (.t (.int .i64 0)), .one (.t (.int .i64 1099511627775))] (.one (.t (.bool r1))) [] rfl rfl kr kr kr kr kr (impl_within_ok u p0 0 1099511627775 r1 e_r1) kr ?_
  refine Runs.alln ?_
  refine Wp.fg ⟨[(2, .t (.bool r1))], [], []⟩ ?_
  refine Wp.ret ?_
  have hr := Option.some.inj h
  subst hr
  exact RetK [.t (.bool r1)] (.one (.t (.bool r1))) [] kr kr (.refl _) .nil
theorem impl_isPlace_ok (u : Nat) (p0 : Int) (r : Bool) (h : impl_isPlace u p0 = some r) : CallOK Tryz.prog 184 [.one (.t (.int .i64 p0))] (.one (.t (.bool r))) [] := by
  unfold impl_isPlace at h
  refine CallOK.of_bodyK (fn := Tryz.f184) (m := false) [.t (.int .i64 p0)] kr rfl kr kr kr kr kr ?_
  refine Wp.srg [] [] ?_
  refine Runs.alln ?_
  refine Wp.fg ⟨[(0, .t (.int .i64 p0)), (2, .t (.bool false))], [], []⟩ ?_
  refine Wp.srg [] [] ?_
  refine Runs.batch 1 kr ?_
  obtain ⟨r1, e_r1, h⟩ := bind_some h
  refine Runs.callK false 4 92 [] [.t (.int .i64 p0), .t (.int .i64 0), .t (.int .i64 39)] [.one (.t (.int .i64 p0)), .one (.t (.int .i64 0)), .one (.t (.int .i64 39))] (.one (.t (.bool r1))) [] rfl rfl kr kr kr kr kr (impl_within_ok u p0 0 39 r1 e_r1) kr ?_
  refine Runs.alln ?_
  refine Wp.fg ⟨[(2, .t (.bool r1))], [], []⟩ ?_
  refine Wp.ret ?_
  have hr := Option.some.inj h
  subst hr
  exact RetK [.t (.bool r1)] (.one (.t (.bool r1))) [] kr kr (.refl _) .nil
theorem impl_InSet_ok (u : Nat) (p0 : Int) (p1 : Int) (r : Bool) (h : impl_InSet u p0 p1 = some r) : CallOK Tryz.prog 154 [.one (.t (.int .i64 p0)), .one (.t (.int .i64 p1))] (.one (.t (.bool r))) [] := by
  unfold impl_InSet at h
  refine CallOK.of_bodyK (fn := Tryz.f154) (m := false) [.t (.int .i64 p0), .t (.int .i64 p1)] kr rfl kr kr kr kr kr ?_
  refine Wp.srg [] [] ?_
  refine Runs.alln ?_
  refine Wp.fg ⟨[(0, .t (.int .i64 p0)), (1, .t (.int .i64 p1)), (4, .t (.bool false))], [], []⟩ ?_
  refine Wp.srg [] [] ?_
  refine Runs.batch 1 kr ?_
  obtain ⟨r1, e_r1, h⟩ := bind_some h
  refine Runs.callK false 6 183 [] [.t (.int .i64 p0)] [.one (.t (.int .i64 p0))] (.one (.t (.bool r1))) [] rfl rfl kr kr kr kr kr (impl_SetOk_ok u p0 r1 e_r1) kr ?_
  refine Runs.batch 1 kr ?_
  rcases tf (r1) with hc | hc
  · have h := cond_t h hc
    refine Runs.known 7 (v := true) kr hc ?_
    refine Runs.batch 1 kr ?_
    obtain ⟨r2, e_r2, h⟩ := bind_some h
    refine Runs.callK false 9 184 [] [.t (.int .i64 p1)] [.one (.t (.int .i64 p1))] (.one (.t (.bool r2))) [] rfl rfl kr kr kr kr kr (impl_isPlace_ok u p1 r2 e_r2) kr ?_
    refine Runs.batch 2 kr ?_
    rcases tf (r2) with hc | hc
    · have h := cond_t h hc
      refine Runs.known 11 (v := true) kr hc ?_
      refine Runs.batch 2 kr ?_
      obtain ⟨_, e_3, h⟩ := bind_some h
      refine Runs.num .shr (.int .i64 p0) (.int .i64 p1) (.int .i64 (bShr .i64 p0 p1)) rfl kr kr kr kr (bin_shr _ _ _ _ _ (chk_some e_3)) ?_
      refine Runs.alln ?_
      refine Wp.fg ⟨[(4, .t (.bool ((bAnd .i64 (bShr .i64 p0 p1) 1) == 1)))], [], []⟩ ?_
      refine Wp.ret ?_
      have hr := Option.some.inj h
      subst hr
      exact RetK [.t (.bool ((bAnd .i64 (bShr .i64 p0 p1) 1) == 1))] (.one (.t (.bool ((bAnd .i64 (bShr .i64 p0 p1) 1) == 1)))) [] kr kr (.refl _) .nil
    · have h := cond_f h hc
      refine Runs.known 11 (v := false) kr hc ?_
      refine Runs.alln ?_
      refine Wp.fg ⟨[(4, .t (.bool false))], [], []⟩ ?_
      refine Wp.ret ?_
      have hr := Option.some.inj h
      subst hr
      exact RetK [.t (.bool false)] (.one (.t (.bool false))) [] kr kr (.refl _) .nil
  · have h := cond_f h hc
    refine Runs.known 7 (v := false) kr hc ?_
    refine Runs.alln ?_
    refine Wp.fg ⟨[(4, .t (.bool false))], [], []⟩ ?_
    refine Wp.ret ?_
    have hr := Option.some.inj h
    subst hr
    exact RetK [.t (.bool false)] (.one (.t (.bool false))) [] kr kr (.refl _) .nil
theorem impl_Fall_1_ok (u : Nat) (p0 : Int) (q0 : Int) (r : Bool) (h : impl_Fall_1 u p0 q0 = some r) : CallOK Tryz.prog 192 [.one (.t (.int .i64 p0)), .fptr [.int .i64 q0]] (.one (.t (.bool r))) [] := by
  unfold impl_Fall_1 at h
  refine CallOK.of_bodyK (fn := Tryz.f192) (m := false) [.t (.int .i64 p0), .fadr [.int .i64 q0]] kr rfl kr kr kr kr kr ?_
  refine Wp.srg [] [] ?_
  refine Runs.alln ?_
  refine Wp.fg ⟨[(0, .t (.int .i64 p0)), (1, .fadr [.int .i64 q0]), (3, .t (.bool false))], [], []⟩ ?_
  refine Wp.srg [] [] ?_
  refine Runs.batch 2 kr ?_
  obtain ⟨r1, e_r1, h⟩ := bind_some h
  refine Runs.callK false 6 154 [] [.t (.int .i64 q0), .t (.int .i64 p0)] [.one (.t (.int .i64 q0)), .one (.t (.int .i64 p0))] (.one (.t (.bool r1))) [] rfl rfl kr kr kr kr kr (impl_InSet_ok u q0 p0 r1 e_r1) kr ?_
  refine Runs.alln ?_
  refine Wp.fg ⟨[(3, .t (.bool r1))], [], []⟩ ?_
  refine Wp.ret ?_
  have hr := Option.some.inj h
  subst hr
  exact RetK [.t (.bool r1)] (.one (.t (.bool r1))) [] kr kr (.refl _) .nil
theorem impl_Disk__slot_ok (u : Nat) (p0 : Disk) (p1 : Int) (r : Nat × Disk) (h : impl_Disk__slot u p0 p1 = some r) : IntoOK Tryz.prog 187 [.ptr [.t (.sl 1 (p0.fA.map (eInt .u8))), .t (.sl 1 (p0.fB.map (eInt .u8))), .t (.int .i64 p0.fR.fGen), .t (.int .i64 p0.fR.fSlot), .t (.int .i64 p0.fR.fLen), .t (.sl 6 (p0.fP.map Put.enc))], .one (.t (.int .i64 p1))] r.1 [[.t (.sl 1 (r.2.fA.map (eInt .u8))), .t (.sl 1 (r.2.fB.map (eInt .u8))), .t (.int .i64 r.2.fR.fGen), .t (.int .i64 r.2.fR.fSlot), .t (.int .i64 r.2.fR.fLen), .t (.sl 6 (r.2.fP.map Put.enc))]] := by
  unfold impl_Disk__slot at h
  refine IntoOK.of_bodyK (fn := Tryz.f187) [.obj 900 0, .t (.int .i64 p1)] kr rfl kr kr kr kr kr rfl ?_
  refine Wp.srg [] [] ?_
  refine Runs.alln ?_
  refine Wp.fg ⟨[(0, .obj 900 0), (1, .t (.int .i64 p1))], [(900, ((Disk.enc p0).map .t))], []⟩ ?_
  refine Wp.seq ?_
  refine Wp.srg [] [] ?_
  refine Runs.alln ?_
  refine Wp.fg ⟨[(0, .obj 900 0), (6, .t (.bool (p1 == 0)))], [(900, ((Disk.enc p0).map .t))], []⟩ ?_
  refine Wp.cond2 (b := p1 == 0) kr (fun hc => ?_) (fun hc => ?_)
  · have h := cond_t h hc
    refine Wp.srg [] [] ?_
    refine Runs.alln ?_
    refine Wp.fg ⟨[(0, .obj 900 0), (4, .obj 900 0)], [(900, ((Disk.enc p0).map .t))], []⟩ ?_
    refine Wp.ret ?_
    refine thenR ?_
    have hr := Option.some.inj h
    subst hr
    exact RetIK [((Disk.enc p0).map .t)] kr kr (.cons ((.cons (.refl _) (.cons (.refl _) (.cons (.refl _) (.cons (.refl _) (.cons (.refl _) (.cons (.refl _) .nil))))))) .nil)
  · have h := cond_f h hc
    refine Wp.skip ?_
    refine thenN ?_
    refine Wp.srg [] [] ?_
    refine Runs.alln ?_
    refine Wp.fg ⟨[(4, .obj 900 1)], [(900, ((Disk.enc p0).map .t))], []⟩ ?_
    refine Wp.ret ?_
    have hr := Option.some.inj h
    subst hr
    exact RetIK [((Disk.enc p0).map .t)] kr kr (.cons ((.cons (.refl _) (.cons (.refl _) (.cons (.refl _) (.cons (.refl _) (.cons (.refl _) (.cons (.refl _) .nil))))))) .nil)
theorem impl_Disk__slot__own_p0_fB_ok (u : Nat) (p0 : Disk) (p1 : Int) (r : Nat × Disk) (h : impl_Disk__slot__own_p0_fB u p0 p1 = some r) : IntoOK Tryz.prog 187 [.ptr [.t (.sl 1 (p0.fA.map (eInt .u8))), .ow 5 1 (p0.fB.map (eInt .u8)), .t (.int .i64 p0.fR.fGen), .t (.int .i64 p0.fR.fSlot), .t (.int .i64 p0.fR.fLen), .t (.sl 6 (p0.fP.map Put.enc))], .one (.t (.int .i64 p1))] r.1 [[.t (.sl 1 (r.2.fA.map (eInt .u8))), .ow 5 1 (r.2.fB.map (eInt .u8)), .t (.int .i64 r.2.fR.fGen), .t (.int .i64 r.2.fR.fSlot), .t (.int .i64 r.2.fR.fLen), .t (.sl 6 (r.2.fP.map Put.enc))]] := by
  unfold impl_Disk__slot__own_p0_fB at h
  refine IntoOK.of_bodyK (fn := Tryz.f187) [.obj 900 0, .t (.int .i64 p1)] kr rfl kr kr kr kr kr rfl ?_
  refine Wp.srg [] [] ?_
  refine Runs.alln ?_
  refine Wp.fg ⟨[(0, .obj 900 0), (1, .t (.int .i64 p1))], [(900, [.t (.sl 1 (p0.fA.map (eInt .u8))), .own 58982401, .t (.int .i64 p0.fR.fGen), .t (.int .i64 p0.fR.fSlot), .t (.int .i64 p0.fR.fLen), .t (.sl 6 (p0.fP.map Put.enc))])], [(58982401, .live 5 1 (p0.fB.map (eInt .u8)))]⟩ ?_
  refine Wp.seq ?_
  refine Wp.srg [] [] ?_
  refine Runs.alln ?_
  refine Wp.fg ⟨[(0, .obj 900 0), (6, .t (.bool (p1 == 0)))], [(900, [.t (.sl 1 (p0.fA.map (eInt .u8))), .own 58982401, .t (.int .i64 p0.fR.fGen), .t (.int .i64 p0.fR.fSlot), .t (.int .i64 p0.fR.fLen), .t (.sl 6 (p0.fP.map Put.enc))])], [(58982401, .live 5 1 (p0.fB.map (eInt .u8)))]⟩ ?_
  refine Wp.cond2 (b := p1 == 0) kr (fun hc => ?_) (fun hc => ?_)
  · have h := cond_t h hc
    refine Wp.srg [] [] ?_
    refine Runs.alln ?_
    refine Wp.fg ⟨[(0, .obj 900 0), (4, .obj 900 0)], [(900, [.t (.sl 1 (p0.fA.map (eInt .u8))), .own 58982401, .t (.int .i64 p0.fR.fGen), .t (.int .i64 p0.fR.fSlot), .t (.int .i64 p0.fR.fLen), .t (.sl 6 (p0.fP.map Put.enc))])], [(58982401, .live 5 1 (p0.fB.map (eInt .u8)))]⟩ ?_
    refine Wp.ret ?_
    refine thenR ?_
    have hr := Option.some.inj h
    subst hr
    exact RetIK [[.t (.sl 1 (p0.fA.map (eInt .u8))), .ow 5 1 (p0.fB.map (eInt .u8)), .t (.int .i64 p0.fR.fGen), .t (.int .i64 p0.fR.fSlot), .t (.int .i64 p0.fR.fLen), .t (.sl 6 (p0.fP.map Put.enc))]] kr kr (.cons ((.cons (.refl _) (.cons (.refl _) (.cons (.refl _) (.cons (.refl _) (.cons (.refl _) (.cons (.refl _) .nil))))))) .nil)
  · have h := cond_f h hc
    refine Wp.skip ?_
    refine thenN ?_
    refine Wp.srg [] [] ?_
    refine Runs.alln ?_
    refine Wp.fg ⟨[(4, .obj 900 1)], [(900, [.t (.sl 1 (p0.fA.map (eInt .u8))), .own 58982401, .t (.int .i64 p0.fR.fGen), .t (.int .i64 p0.fR.fSlot), .t (.int .i64 p0.fR.fLen), .t (.sl 6 (p0.fP.map Put.enc))])], [(58982401, .live 5 1 (p0.fB.map (eInt .u8)))]⟩ ?_
    refine Wp.ret ?_
    have hr := Option.some.inj h
    subst hr
    exact RetIK [[.t (.sl 1 (p0.fA.map (eInt .u8))), .ow 5 1 (p0.fB.map (eInt .u8)), .t (.int .i64 p0.fR.fGen), .t (.int .i64 p0.fR.fSlot), .t (.int .i64 p0.fR.fLen), .t (.sl 6 (p0.fP.map Put.enc))]] kr kr (.cons ((.cons (.refl _) (.cons (.refl _) (.cons (.refl _) (.cons (.refl _) (.cons (.refl _) (.cons (.refl _) .nil))))))) .nil)
theorem impl_Disk__slot__own_p0_fA_p0_fB_ok (u : Nat) (p0 : Disk) (p1 : Int) (r : Nat × Disk) (h : impl_Disk__slot__own_p0_fA_p0_fB u p0 p1 = some r) : IntoOK Tryz.prog 187 [.ptr [.ow 5 1 (p0.fA.map (eInt .u8)), .ow 5 1 (p0.fB.map (eInt .u8)), .t (.int .i64 p0.fR.fGen), .t (.int .i64 p0.fR.fSlot), .t (.int .i64 p0.fR.fLen), .t (.sl 6 (p0.fP.map Put.enc))], .one (.t (.int .i64 p1))] r.1 [[.ow 5 1 (r.2.fA.map (eInt .u8)), .ow 5 1 (r.2.fB.map (eInt .u8)), .t (.int .i64 r.2.fR.fGen), .t (.int .i64 r.2.fR.fSlot), .t (.int .i64 r.2.fR.fLen), .t (.sl 6 (r.2.fP.map Put.enc))]] := by
  unfold impl_Disk__slot__own_p0_fA_p0_fB at h
  refine IntoOK.of_bodyK (fn := Tryz.f187) [.obj 900 0, .t (.int .i64 p1)] kr rfl kr kr kr kr kr rfl ?_
  refine Wp.srg [] [] ?_
  refine Runs.alln ?_
  refine Wp.fg ⟨[(0, .obj 900 0), (1, .t (.int .i64 p1))], [(900, [.own 58982400, .own 58982401, .t (.int .i64 p0.fR.fGen), .t (.int .i64 p0.fR.fSlot), .t (.int .i64 p0.fR.fLen), .t (.sl 6 (p0.fP.map Put.enc))])], [(58982400, .live 5 1 (p0.fA.map (eInt .u8))), (58982401, .live 5 1 (p0.fB.map (eInt .u8)))]⟩ ?_
  refine Wp.seq ?_
  refine Wp.srg [] [] ?_
  refine Runs.alln ?_
  refine Wp.fg ⟨[(0, .obj 900 0), (6, .t (.bool (p1 == 0)))], [(900, [.own 58982400, .own 58982401, .t (.int .i64 p0.fR.fGen), .t (.int .i64 p0.fR.fSlot), .t (.int .i64 p0.fR.fLen), .t (.sl 6 (p0.fP.map Put.enc))])], [(58982400, .live 5 1 (p0.fA.map (eInt .u8))), (58982401, .live 5 1 (p0.fB.map (eInt .u8)))]⟩ ?_
  refine Wp.cond2 (b := p1 == 0) kr (fun hc => ?_) (fun hc => ?_)
  · have h := cond_t h hc
    refine Wp.srg [] [] ?_
    refine Runs.alln ?_
    refine Wp.fg ⟨[(0, .obj 900 0), (4, .obj 900 0)], [(900, [.own 58982400, .own 58982401, .t (.int .i64 p0.fR.fGen), .t (.int .i64 p0.fR.fSlot), .t (.int .i64 p0.fR.fLen), .t (.sl 6 (p0.fP.map Put.enc))])], [(58982400, .live 5 1 (p0.fA.map (eInt .u8))), (58982401, .live 5 1 (p0.fB.map (eInt .u8)))]⟩ ?_
    refine Wp.ret ?_
    refine thenR ?_
    have hr := Option.some.inj h
    subst hr
    exact RetIK [[.ow 5 1 (p0.fA.map (eInt .u8)), .ow 5 1 (p0.fB.map (eInt .u8)), .t (.int .i64 p0.fR.fGen), .t (.int .i64 p0.fR.fSlot), .t (.int .i64 p0.fR.fLen), .t (.sl 6 (p0.fP.map Put.enc))]] kr kr (.cons ((.cons (.refl _) (.cons (.refl _) (.cons (.refl _) (.cons (.refl _) (.cons (.refl _) (.cons (.refl _) .nil))))))) .nil)
  · have h := cond_f h hc
    refine Wp.skip ?_
    refine thenN ?_
    refine Wp.srg [] [] ?_
    refine Runs.alln ?_
    refine Wp.fg ⟨[(4, .obj 900 1)], [(900, [.own 58982400, .own 58982401, .t (.int .i64 p0.fR.fGen), .t (.int .i64 p0.fR.fSlot), .t (.int .i64 p0.fR.fLen), .t (.sl 6 (p0.fP.map Put.enc))])], [(58982400, .live 5 1 (p0.fA.map (eInt .u8))), (58982401, .live 5 1 (p0.fB.map (eInt .u8)))]⟩ ?_
    refine Wp.ret ?_
    have hr := Option.some.inj h
    subst hr
    exact RetIK [[.ow 5 1 (p0.fA.map (eInt .u8)), .ow 5 1 (p0.fB.map (eInt .u8)), .t (.int .i64 p0.fR.fGen), .t (.int .i64 p0.fR.fSlot), .t (.int .i64 p0.fR.fLen), .t (.sl 6 (p0.fP.map Put.enc))]] kr kr (.cons ((.cons (.refl _) (.cons (.refl _) (.cons (.refl _) (.cons (.refl _) (.cons (.refl _) (.cons (.refl _) .nil))))))) .nil)
theorem impl_Disk__perform_ok (u : Nat) (p0 : Disk) (p1 : Put) (r : Disk) (h : impl_Disk__perform u p0 p1 = some r) : CallOK Tryz.prog 213 [.ptr [.ow 5 1 (p0.fA.map (eInt .u8)), .ow 5 1 (p0.fB.map (eInt .u8)), .t (.int .i64 p0.fR.fGen), .t (.int .i64 p0.fR.fSlot), .t (.int .i64 p0.fR.fLen), .t (.sl 6 (p0.fP.map Put.enc))], .agg [.t (.int .i64 p1.fWhat), .t (.int .i64 p1.fAt), .t (.sl 1 (p1.fB.map (eInt .u8))), .t (.int .i64 p1.fR.fGen), .t (.int .i64 p1.fR.fSlot), .t (.int .i64 p1.fR.fLen)]] (.tup []) [[.ow 5 1 (r.fA.map (eInt .u8)), .ow 5 1 (r.fB.map (eInt .u8)), .t (.int .i64 r.fR.fGen), .t (.int .i64 r.fR.fSlot), .t (.int .i64 r.fR.fLen), .t (.sl 6 (r.fP.map Put.enc))]] := by
  unfold impl_Disk__perform at h
  refine CallOK.of_bodyK (fn := Tryz.f213) (m := false) [.obj 900 0, .agg ((Put.enc p1).map .t)] kr rfl kr kr kr kr kr ?_
  refine Wp.srg [] [] ?_
  refine Runs.alln ?_
  refine Wp.fg ⟨[(0, .obj 900 0), (3, .obj 3 0)], [(3, ((Put.enc p1).map .t)), (900, [.own 58982400, .own 58982401, .t (.int .i64 p0.fR.fGen), .t (.int .i64 p0.fR.fSlot), .t (.int .i64 p0.fR.fLen), .t (.sl 6 (p0.fP.map Put.enc))])], [(58982400, .live 5 1 (p0.fA.map (eInt .u8))), (58982401, .live 5 1 (p0.fB.map (eInt .u8)))]⟩ ?_
  refine Wp.seq ?_
  refine Wp.srg [] [] ?_
  refine Runs.alln ?_
  refine Wp.fg ⟨[(0, .obj 900 0), (3, .obj 3 0), (7, .t (.bool (p1.fWhat == 2)))], [(3, ((Put.enc p1).map .t)), (900, [.own 58982400, .own 58982401, .t (.int .i64 p0.fR.fGen), .t (.int .i64 p0.fR.fSlot), .t (.int .i64 p0.fR.fLen), .t (.sl 6 (p0.fP.map Put.enc))])], [(58982400, .live 5 1 (p0.fA.map (eInt .u8))), (58982401, .live 5 1 (p0.fB.map (eInt .u8)))]⟩ ?_
  refine Wp.cond2 (b := p1.fWhat == 2) kr (fun hc => ?_) (fun hc => ?_)
  · have h := cond_t h hc
    refine Wp.srg [] [] ?_
    refine Runs.alln ?_
    refine Wp.fg ⟨[(0, .obj 900 0), (3, .obj 3 0)], [(3, ((Put.enc p1).map .t)), (900, [.own 58982400, .own 58982401, .t (.int .i64 p1.fR.fGen), .t (.int .i64 p1.fR.fSlot), .t (.int .i64 p1.fR.fLen), .t (.sl 6 (p0.fP.map Put.enc))])], [(58982400, .live 5 1 (p0.fA.map (eInt .u8))), (58982401, .live 5 1 (p0.fB.map (eInt .u8)))]⟩ ?_
    refine Wp.ret ?_
    refine thenR ?_
    have hr := Option.some.inj h
    subst hr
    exact RetK [] (.tup []) [[.ow 5 1 (p0.fA.map (eInt .u8)), .ow 5 1 (p0.fB.map (eInt .u8)), .t (.int .i64 p1.fR.fGen), .t (.int .i64 p1.fR.fSlot), .t (.int .i64 p1.fR.fLen), .t (.sl 6 (p0.fP.map Put.enc))]] kr kr (.refl _) (.cons ((.cons (.refl _) (.cons (.refl _) (.cons (.refl _) (.cons (.refl _) (.cons (.refl _) (.cons (.refl _) .nil))))))) .nil)
  · have h := cond_f h hc
    refine Wp.skip ?_
    refine thenN ?_
    refine Wp.srg [] [] ?_
    refine Runs.batch 3 kr ?_
    obtain ⟨r1, e_r1, h⟩ := bind_some h
    rcases tf (Nat.beq r1.1 0) with hc_r1 | hc_r1
    · have h := cond_t h hc_r1
      refine Runs.callIK true 16 187 [] [.obj 900 0, .t (.int .i64 p1.fWhat)] [.ptr [.ow 5 1 (p0.fA.map (eInt .u8)), .ow 5 1 (p0.fB.map (eInt .u8)), .t (.int .i64 p0.fR.fGen), .t (.int .i64 p0.fR.fSlot), .t (.int .i64 p0.fR.fLen), .t (.sl 6 (p0.fP.map Put.enc))], .one (.t (.int .i64 p1.fWhat))] 900 0 ([[.ow 5 1 (r1.2.fA.map (eInt .u8)), .ow 5 1 (r1.2.fB.map (eInt .u8)), .t (.int .i64 r1.2.fR.fGen), .t (.int .i64 r1.2.fR.fSlot), .t (.int .i64 r1.2.fR.fLen), .t (.sl 6 (r1.2.fP.map Put.enc))]]) rfl rfl kr kr kr kr kr (Nat.eq_of_beq_eq_true hc_r1 ▸ impl_Disk__slot__own_p0_fA_p0_fB_ok u p0 p1.fWhat r1 e_r1) kr kr ?_
      refine Runs.alln ?_
      refine Wp.fg ⟨[(3, .obj 3 0), (4, .obj 900 0)], [(3, ((Put.enc p1).map .t)), (900, [.own 1107200, .own 1107201, .t (.int .i64 r1.2.fR.fGen), .t (.int .i64 r1.2.fR.fSlot), .t (.int .i64 r1.2.fR.fLen), .t (.sl 6 (r1.2.fP.map Put.enc))])], [(1107200, .live 5 1 (r1.2.fA.map (eInt .u8))), (1107201, .live 5 1 (r1.2.fB.map (eInt .u8)))]⟩ ?_
      refine Wp.seqJ (α := Put × (List Int) × (Nat × Disk)) (fun a => ⟨[(3, .obj 3 0), (4, .obj 900 0)], [(3, ((Put.enc a.1).map .t)), (900, [.own 58982912, .own 58982913, .t (.int .i64 a.2.2.2.fR.fGen), .t (.int .i64 a.2.2.2.fR.fSlot), .t (.int .i64 a.2.2.2.fR.fLen), .t (.sl 6 (a.2.2.2.fP.map Put.enc))])], [(58982912, .live 5 1 (a.2.1.map (eInt .u8))), (58982913, .live 5 1 (a.2.2.2.fB.map (eInt .u8)))]⟩) (fun a => impl_Disk__perform_j3 u a.1 a.2.1 a.2.2 = some r) ?_ ?_
      · rintro ⟨p1, x9, r1⟩ h
        change impl_Disk__perform_j3 u p1 x9 r1 = some r at h
        unfold impl_Disk__perform_j3 at h
        refine Wp.regionA (pOf []) (rhoOf [(3, .obj 3), (4, .obj 900), (35, .obj 900), (36, .obj 900), (37, .own 900), (38, .obj 3), (39, .frz), (40, .win 900), (41, .obj 3), (42, .frz)]) kr kr ?_
        refine Runs.batch 5 kr ?_
        obtain ⟨_, e_10, h⟩ := bind_some h
        refine Runs.subO (e := 5) (e' := 5) (alo := (some (.t (.int .i64 p1.fAt)))) (eInt .u8) x9 58982912 1 p1.fAt rfl kr kr kr kr kr kr kr kr kr (chk_some e_10) ?_
        refine Runs.batch 2 kr ?_
        refine Runs.copyO (y := .t (.sl 1 (p1.fB.map (eInt .u8)))) (e := 5) (e' := 5) (eInt .u8) x9 p1.fB 58982912 (Int.toNat p1.fAt) 1 rfl rfl rfl kr kr kr kr kr (.inl rfl) kr kr kr (sub_le (chk_some e_10)) ?_
        refine Runs.done ?_
        have hr := Option.some.inj h
        subst hr
        exact RetKn [] (.tup []) [[.ow 5 1 ((overL x9 p1.fB (Int.toNat p1.fAt)).map (eInt .u8)), .ow 5 1 (r1.2.fB.map (eInt .u8)), .t (.int .i64 r1.2.fR.fGen), .t (.int .i64 r1.2.fR.fSlot), .t (.int .i64 r1.2.fR.fLen), .t (.sl 6 (r1.2.fP.map Put.enc))]] kr kr (.refl _) (.cons ((.cons (.refl _) (.cons (.refl _) (.cons (.refl _) (.cons (.refl _) (.cons (.refl _) (.cons (.refl _) .nil))))))) .nil)
      · refine Wp.block ?_
        refine Wp.loopF (α := Put × (List Int) × (Nat × Disk)) (fun a => ⟨[(3, .obj 3 0), (4, .obj 900 0)], [(3, ((Put.enc a.1).map .t)), (900, [.own 58982912, .own 58982913, .t (.int .i64 a.2.2.2.fR.fGen), .t (.int .i64 a.2.2.2.fR.fSlot), .t (.int .i64 a.2.2.2.fR.fLen), .t (.sl 6 (a.2.2.2.fP.map Put.enc))])], [(58982912, .live 5 1 (a.2.1.map (eInt .u8))), (58982913, .live 5 1 (a.2.2.2.fB.map (eInt .u8)))]⟩) (fun k_impl_Disk__perform_l4 a => impl_Disk__perform_l4 u k_impl_Disk__perform_l4 a.1 a.2.1 a.2.2 = some r) ?_ ?_ u (p1, r1.2.fA, r1) h (Le.of (mo := []) (mr := [(58982912, 1107200), (58982913, 1107201)]) kr kr kr kr)
        · intro a h; unfold impl_Disk__perform_l4 at h; cases h
        · rintro k_impl_Disk__perform_l4 ⟨p1, x7, r1⟩ h
          change impl_Disk__perform_l4 u (k_impl_Disk__perform_l4 + 1) p1 x7 r1 = some r at h
          rw [impl_Disk__perform_l4] at h
          refine Wp.seq ?_
          refine Wp.seq ?_
          refine Wp.regionA (pOf []) (rhoOf [(3, .obj 3), (4, .obj 900), (17, .obj 900), (18, .obj 900), (19, .own 900), (20, .frz), (21, .obj 3), (22, .frz), (23, .obj 3), (24, .frz), (25, .frz), (26, .frz)]) kr kr ?_
          refine Runs.batch 3 kr ?_
          refine Runs.lenT (y := .own 58982912) (e := 5) (eInt .u8) x7 1 rfl rfl rfl kr kr kr kr kr ?_
          refine Runs.batch 4 kr ?_
          refine Runs.lenT (y := .t (.sl 1 (p1.fB.map (eInt .u8)))) (e := 5) (eInt .u8) p1.fB 1 rfl rfl rfl kr kr kr kr kr ?_
          refine Runs.alln ?_
          refine Wp.fg ⟨[(3, .obj 3 0), (4, .obj 900 0), (17, .obj 900 0), (18, .obj 900 0), (19, .own 58982912), (20, .t (.int .i64 ((x7.length : Int)))), (21, .obj 3 1), (22, .t (.int .i64 p1.fAt)), (23, .obj 3 2), (24, .t (.sl 1 (p1.fB.map (eInt .u8)))), (25, .t (.int .i64 ((p1.fB.length : Int)))), (26, .t (.int .i64 (bAdd .i64 p1.fAt ((p1.fB.length : Int))))), (27, .t (.bool (decide (((x7.length : Int)) < (bAdd .i64 p1.fAt ((p1.fB.length : Int)))))))], [(3, ((Put.enc p1).map .t)), (900, [.own 58982912, .own 58982913, .t (.int .i64 r1.2.fR.fGen), .t (.int .i64 r1.2.fR.fSlot), .t (.int .i64 r1.2.fR.fLen), .t (.sl 6 (r1.2.fP.map Put.enc))])], [(58982912, .live 5 1 (x7.map (eInt .u8))), (58982913, .live 5 1 (r1.2.fB.map (eInt .u8)))]⟩ ?_
          refine Wp.cond2 (b := decide (((x7.length : Int)) < (bAdd .i64 p1.fAt ((p1.fB.length : Int))))) kr (fun hc => ?_) (fun hc => ?_)
          · have h := cond_t h hc
            refine Wp.skip ?_
            refine thenN ?_
            refine Wp.block ?_
            refine Wp.rg [] [] ?_
            refine Runs.batch 5 kr ?_
            obtain ⟨_, e_9, h⟩ := bind_some h
            refine Runs.appT (y := .own 2097152) (eInt .u8) 33 1 5 1 1 58982912 x7 ([0]) rfl rfl rfl rfl kr kr kr kr kr kr (.inl rfl) kr (of_decide_eq_true (chk_some e_9)) kr kr ?_
            refine Runs.all kr ?_
            refine blkN ?_
            refine thenN ?_
            exact ⟨(p1, x7 ++ ([0]), r1), h, Le.of (mo := []) (mr := [(58982912, 2162688)]) kr kr kr kr⟩
          · have h := cond_f h hc
            refine Wp.exit ?_
            refine thenE ?_
            refine thenE ?_
            refine blkE ?_
            refine thenN ?_
            exact ⟨(p1, x7, r1), h, Le.of (mo := []) (mr := []) kr kr kr kr⟩
    · have h := cond_f h hc_r1
      rcases tf (Nat.beq r1.1 1) with hc_r1 | hc_r1
      · have h := cond_t h hc_r1
        refine Runs.callIK true 16 187 [] [.obj 900 0, .t (.int .i64 p1.fWhat)] [.ptr [.ow 5 1 (p0.fA.map (eInt .u8)), .ow 5 1 (p0.fB.map (eInt .u8)), .t (.int .i64 p0.fR.fGen), .t (.int .i64 p0.fR.fSlot), .t (.int .i64 p0.fR.fLen), .t (.sl 6 (p0.fP.map Put.enc))], .one (.t (.int .i64 p1.fWhat))] 900 1 ([[.ow 5 1 (r1.2.fA.map (eInt .u8)), .ow 5 1 (r1.2.fB.map (eInt .u8)), .t (.int .i64 r1.2.fR.fGen), .t (.int .i64 r1.2.fR.fSlot), .t (.int .i64 r1.2.fR.fLen), .t (.sl 6 (r1.2.fP.map Put.enc))]]) rfl rfl kr kr kr kr kr (Nat.eq_of_beq_eq_true hc_r1 ▸ impl_Disk__slot__own_p0_fA_p0_fB_ok u p0 p1.fWhat r1 e_r1) kr kr ?_
        refine Runs.alln ?_
        refine Wp.fg ⟨[(3, .obj 3 0), (4, .obj 900 1)], [(3, ((Put.enc p1).map .t)), (900, [.own 1107200, .own 1107201, .t (.int .i64 r1.2.fR.fGen), .t (.int .i64 r1.2.fR.fSlot), .t (.int .i64 r1.2.fR.fLen), .t (.sl 6 (r1.2.fP.map Put.enc))])], [(1107200, .live 5 1 (r1.2.fA.map (eInt .u8))), (1107201, .live 5 1 (r1.2.fB.map (eInt .u8)))]⟩ ?_
        refine Wp.seqJ (α := Put × (Nat × Disk) × (List Int)) (fun a => ⟨[(3, .obj 3 0), (4, .obj 900 1)], [(3, ((Put.enc a.1).map .t)), (900, [.own 58982912, .own 58982913, .t (.int .i64 a.2.1.2.fR.fGen), .t (.int .i64 a.2.1.2.fR.fSlot), .t (.int .i64 a.2.1.2.fR.fLen), .t (.sl 6 (a.2.1.2.fP.map Put.enc))])], [(58982912, .live 5 1 (a.2.1.2.fA.map (eInt .u8))), (58982913, .live 5 1 (a.2.2.map (eInt .u8)))]⟩) (fun a => impl_Disk__perform_j1 u a.1 a.2.1 a.2.2 = some r) ?_ ?_
        · rintro ⟨p1, r1, x5⟩ h
          change impl_Disk__perform_j1 u p1 r1 x5 = some r at h
          unfold impl_Disk__perform_j1 at h
          refine Wp.regionA (pOf []) (rhoOf [(3, .obj 3), (4, .obj 900), (35, .obj 900), (36, .obj 900), (37, .own 900), (38, .obj 3), (39, .frz), (40, .win 900), (41, .obj 3), (42, .frz)]) kr kr ?_
          refine Runs.batch 5 kr ?_
          obtain ⟨_, e_6, h⟩ := bind_some h
          refine Runs.subO (e := 5) (e' := 5) (alo := (some (.t (.int .i64 p1.fAt)))) (eInt .u8) x5 58982913 1 p1.fAt rfl kr kr kr kr kr kr kr kr kr (chk_some e_6) ?_
          refine Runs.batch 2 kr ?_
          refine Runs.copyO (y := .t (.sl 1 (p1.fB.map (eInt .u8)))) (e := 5) (e' := 5) (eInt .u8) x5 p1.fB 58982913 (Int.toNat p1.fAt) 1 rfl rfl rfl kr kr kr kr kr (.inl rfl) kr kr kr (sub_le (chk_some e_6)) ?_
          refine Runs.done ?_
          have hr := Option.some.inj h
          subst hr
          exact RetKn [] (.tup []) [[.ow 5 1 (r1.2.fA.map (eInt .u8)), .ow 5 1 ((overL x5 p1.fB (Int.toNat p1.fAt)).map (eInt .u8)), .t (.int .i64 r1.2.fR.fGen), .t (.int .i64 r1.2.fR.fSlot), .t (.int .i64 r1.2.fR.fLen), .t (.sl 6 (r1.2.fP.map Put.enc))]] kr kr (.refl _) (.cons ((.cons (.refl _) (.cons (.refl _) (.cons (.refl _) (.cons (.refl _) (.cons (.refl _) (.cons (.refl _) .nil))))))) .nil)
        · refine Wp.block ?_
          refine Wp.loopF (α := Put × (Nat × Disk) × (List Int)) (fun a => ⟨[(3, .obj 3 0), (4, .obj 900 1)], [(3, ((Put.enc a.1).map .t)), (900, [.own 58982912, .own 58982913, .t (.int .i64 a.2.1.2.fR.fGen), .t (.int .i64 a.2.1.2.fR.fSlot), .t (.int .i64 a.2.1.2.fR.fLen), .t (.sl 6 (a.2.1.2.fP.map Put.enc))])], [(58982912, .live 5 1 (a.2.1.2.fA.map (eInt .u8))), (58982913, .live 5 1 (a.2.2.map (eInt .u8)))]⟩) (fun k_impl_Disk__perform_l2 a => impl_Disk__perform_l2 u k_impl_Disk__perform_l2 a.1 a.2.1 a.2.2 = some r) ?_ ?_ u (p1, r1, r1.2.fB) h (Le.of (mo := []) (mr := [(58982912, 1107200), (58982913, 1107201)]) kr kr kr kr)
          · intro a h; unfold impl_Disk__perform_l2 at h; cases h
          · rintro k_impl_Disk__perform_l2 ⟨p1, r1, x3⟩ h
            change impl_Disk__perform_l2 u (k_impl_Disk__perform_l2 + 1) p1 r1 x3 = some r at h
            rw [impl_Disk__perform_l2] at h
            refine Wp.seq ?_
            refine Wp.seq ?_
            refine Wp.regionA (pOf []) (rhoOf [(3, .obj 3), (4, .obj 900), (17, .obj 900), (18, .obj 900), (19, .own 900), (20, .frz), (21, .obj 3), (22, .frz), (23, .obj 3), (24, .frz), (25, .frz), (26, .frz)]) kr kr ?_
            refine Runs.batch 3 kr ?_
            refine Runs.lenT (y := .own 58982913) (e := 5) (eInt .u8) x3 1 rfl rfl rfl kr kr kr kr kr ?_
            refine Runs.batch 4 kr ?_
            refine Runs.lenT (y := .t (.sl 1 (p1.fB.map (eInt .u8)))) (e := 5) (eInt .u8) p1.fB 1 rfl rfl rfl kr kr kr kr kr ?_
            refine Runs.alln ?_
            refine Wp.fg ⟨[(3, .obj 3 0), (4, .obj 900 1), (17, .obj 900 1), (18, .obj 900 1), (19, .own 58982913), (20, .t (.int .i64 ((x3.length : Int)))), (21, .obj 3 1), (22, .t (.int .i64 p1.fAt)), (23, .obj 3 2), (24, .t (.sl 1 (p1.fB.map (eInt .u8)))), (25, .t (.int .i64 ((p1.fB.length : Int)))), (26, .t (.int .i64 (bAdd .i64 p1.fAt ((p1.fB.length : Int))))), (27, .t (.bool (decide (((x3.length : Int)) < (bAdd .i64 p1.fAt ((p1.fB.length : Int)))))))], [(3, ((Put.enc p1).map .t)), (900, [.own 58982912, .own 58982913, .t (.int .i64 r1.2.fR.fGen), .t (.int .i64 r1.2.fR.fSlot), .t (.int .i64 r1.2.fR.fLen), .t (.sl 6 (r1.2.fP.map Put.enc))])], [(58982912, .live 5 1 (r1.2.fA.map (eInt .u8))), (58982913, .live 5 1 (x3.map (eInt .u8)))]⟩ ?_
            refine Wp.cond2 (b := decide (((x3.length : Int)) < (bAdd .i64 p1.fAt ((p1.fB.length : Int))))) kr (fun hc => ?_) (fun hc => ?_)
            · have h := cond_t h hc
              refine Wp.skip ?_
              refine thenN ?_
              refine Wp.block ?_
              refine Wp.rg [] [] ?_
              refine Runs.batch 5 kr ?_
              obtain ⟨_, e_5, h⟩ := bind_some h
              refine Runs.appT (y := .own 2097152) (eInt .u8) 33 1 5 1 1 58982913 x3 ([0]) rfl rfl rfl rfl kr kr kr kr kr kr (.inl rfl) kr (of_decide_eq_true (chk_some e_5)) kr kr ?_
              refine Runs.all kr ?_
              refine blkN ?_
              refine thenN ?_
              exact ⟨(p1, r1, x3 ++ ([0])), h, Le.of (mo := []) (mr := [(58982913, 2162688)]) kr kr kr kr⟩
            · have h := cond_f h hc
              refine Wp.exit ?_
              refine thenE ?_
              refine thenE ?_
              refine blkE ?_
              refine thenN ?_
              exact ⟨(p1, r1, x3), h, Le.of (mo := []) (mr := []) kr kr kr kr⟩
      · have h := cond_f h hc_r1
        cases h
theorem impl_Disk__slot__own_p0_fP_ok (u : Nat) (p0 : Disk) (p1 : Int) (r : Nat × Disk) (h : impl_Disk__slot__own_p0_fP u p0 p1 = some r) : IntoOK Tryz.prog 187 [.ptr [.t (.sl 1 (p0.fA.map (eInt .u8))), .t (.sl 1 (p0.fB.map (eInt .u8))), .t (.int .i64 p0.fR.fGen), .t (.int .i64 p0.fR.fSlot), .t (.int .i64 p0.fR.fLen), .ow 186 6 (p0.fP.map Put.enc)], .one (.t (.int .i64 p1))] r.1 [[.t (.sl 1 (r.2.fA.map (eInt .u8))), .t (.sl 1 (r.2.fB.map (eInt .u8))), .t (.int .i64 r.2.fR.fGen), .t (.int .i64 r.2.fR.fSlot), .t (.int .i64 r.2.fR.fLen), .ow 186 6 (r.2.fP.map Put.enc)]] := by
  unfold impl_Disk__slot__own_p0_fP at h
  refine IntoOK.of_bodyK (fn := Tryz.f187) [.obj 900 0, .t (.int .i64 p1)] kr rfl kr kr kr kr kr rfl ?_
  refine Wp.srg [] [] ?_
  refine Runs.alln ?_
  refine Wp.fg ⟨[(0, .obj 900 0), (1, .t (.int .i64 p1))], [(900, [.t (.sl 1 (p0.fA.map (eInt .u8))), .t (.sl 1 (p0.fB.map (eInt .u8))), .t (.int .i64 p0.fR.fGen), .t (.int .i64 p0.fR.fSlot), .t (.int .i64 p0.fR.fLen), .own 58982405])], [(58982405, .live 186 6 (p0.fP.map Put.enc))]⟩ ?_
  refine Wp.seq ?_
  refine Wp.srg [] [] ?_
  refine Runs.alln ?_
  refine Wp.fg ⟨[(0, .obj 900 0), (6, .t (.bool (p1 == 0)))], [(900, [.t (.sl 1 (p0.fA.map (eInt .u8))), .t (.sl 1 (p0.fB.map (eInt .u8))), .t (.int .i64 p0.fR.fGen), .t (.int .i64 p0.fR.fSlot), .t (.int .i64 p0.fR.fLen), .own 58982405])], [(58982405, .live 186 6 (p0.fP.map Put.enc))]⟩ ?_
  refine Wp.cond2 (b := p1 == 0) kr (fun hc => ?_) (fun hc => ?_)
  · have h := cond_t h hc
    refine Wp.srg [] [] ?_
    refine Runs.alln ?_
    refine Wp.fg ⟨[(0, .obj 900 0), (4, .obj 900 0)], [(900, [.t (.sl 1 (p0.fA.map (eInt .u8))), .t (.sl 1 (p0.fB.map (eInt .u8))), .t (.int .i64 p0.fR.fGen), .t (.int .i64 p0.fR.fSlot), .t (.int .i64 p0.fR.fLen), .own 58982405])], [(58982405, .live 186 6 (p0.fP.map Put.enc))]⟩ ?_
    refine Wp.ret ?_
    refine thenR ?_
    have hr := Option.some.inj h
    subst hr
    exact RetIK [[.t (.sl 1 (p0.fA.map (eInt .u8))), .t (.sl 1 (p0.fB.map (eInt .u8))), .t (.int .i64 p0.fR.fGen), .t (.int .i64 p0.fR.fSlot), .t (.int .i64 p0.fR.fLen), .ow 186 6 (p0.fP.map Put.enc)]] kr kr (.cons ((.cons (.refl _) (.cons (.refl _) (.cons (.refl _) (.cons (.refl _) (.cons (.refl _) (.cons (.refl _) .nil))))))) .nil)
  · have h := cond_f h hc
    refine Wp.skip ?_
    refine thenN ?_
    refine Wp.srg [] [] ?_
    refine Runs.alln ?_
    refine Wp.fg ⟨[(4, .obj 900 1)], [(900, [.t (.sl 1 (p0.fA.map (eInt .u8))), .t (.sl 1 (p0.fB.map (eInt .u8))), .t (.int .i64 p0.fR.fGen), .t (.int .i64 p0.fR.fSlot), .t (.int .i64 p0.fR.fLen), .own 58982405])], [(58982405, .live 186 6 (p0.fP.map Put.enc))]⟩ ?_
    refine Wp.ret ?_
    have hr := Option.some.inj h
    subst hr
    exact RetIK [[.t (.sl 1 (p0.fA.map (eInt .u8))), .t (.sl 1 (p0.fB.map (eInt .u8))), .t (.int .i64 p0.fR.fGen), .t (.int .i64 p0.fR.fSlot), .t (.int .i64 p0.fR.fLen), .ow 186 6 (p0.fP.map Put.enc)]] kr kr (.cons ((.cons (.refl _) (.cons (.refl _) (.cons (.refl _) (.cons (.refl _) (.cons (.refl _) (.cons (.refl _) .nil))))))) .nil)
theorem impl_Disk__slot__own_p0_fB_p0_fP_ok (u : Nat) (p0 : Disk) (p1 : Int) (r : Nat × Disk) (h : impl_Disk__slot__own_p0_fB_p0_fP u p0 p1 = some r) : IntoOK Tryz.prog 187 [.ptr [.t (.sl 1 (p0.fA.map (eInt .u8))), .ow 5 1 (p0.fB.map (eInt .u8)), .t (.int .i64 p0.fR.fGen), .t (.int .i64 p0.fR.fSlot), .t (.int .i64 p0.fR.fLen), .ow 186 6 (p0.fP.map Put.enc)], .one (.t (.int .i64 p1))] r.1 [[.t (.sl 1 (r.2.fA.map (eInt .u8))), .ow 5 1 (r.2.fB.map (eInt .u8)), .t (.int .i64 r.2.fR.fGen), .t (.int .i64 r.2.fR.fSlot), .t (.int .i64 r.2.fR.fLen), .ow 186 6 (r.2.fP.map Put.enc)]] := by
  unfold impl_Disk__slot__own_p0_fB_p0_fP at h
  refine IntoOK.of_bodyK (fn := Tryz.f187) [.obj 900 0, .t (.int .i64 p1)] kr rfl kr kr kr kr kr rfl ?_
  refine Wp.srg [] [] ?_
  refine Runs.alln ?_
  refine Wp.fg ⟨[(0, .obj 900 0), (1, .t (.int .i64 p1))], [(900, [.t (.sl 1 (p0.fA.map (eInt .u8))), .own 58982401, .t (.int .i64 p0.fR.fGen), .t (.int .i64 p0.fR.fSlot), .t (.int .i64 p0.fR.fLen), .own 58982405])], [(58982401, .live 5 1 (p0.fB.map (eInt .u8))), (58982405, .live 186 6 (p0.fP.map Put.enc))]⟩ ?_
  refine Wp.seq ?_
  refine Wp.srg [] [] ?_
  refine Runs.alln ?_
  refine Wp.fg ⟨[(0, .obj 900 0), (6, .t (.bool (p1 == 0)))], [(900, [.t (.sl 1 (p0.fA.map (eInt .u8))), .own 58982401, .t (.int .i64 p0.fR.fGen), .t (.int .i64 p0.fR.fSlot), .t (.int .i64 p0.fR.fLen), .own 58982405])], [(58982401, .live 5 1 (p0.fB.map (eInt .u8))), (58982405, .live 186 6 (p0.fP.map Put.enc))]⟩ ?_
  refine Wp.cond2 (b := p1 == 0) kr (fun hc => ?_) (fun hc => ?_)
  · have h := cond_t h hc
    refine Wp.srg [] [] ?_
    refine Runs.alln ?_
    refine Wp.fg ⟨[(0, .obj 900 0), (4, .obj 900 0)], [(900, [.t (.sl 1 (p0.fA.map (eInt .u8))), .own 58982401, .t (.int .i64 p0.fR.fGen), .t (.int .i64 p0.fR.fSlot), .t (.int .i64 p0.fR.fLen), .own 58982405])], [(58982401, .live 5 1 (p0.fB.map (eInt .u8))), (58982405, .live 186 6 (p0.fP.map Put.enc))]⟩ ?_
    refine Wp.ret ?_
    refine thenR ?_
    have hr := Option.some.inj h
    subst hr
    exact RetIK [[.t (.sl 1 (p0.fA.map (eInt .u8))), .ow 5 1 (p0.fB.map (eInt .u8)), .t (.int .i64 p0.fR.fGen), .t (.int .i64 p0.fR.fSlot), .t (.int .i64 p0.fR.fLen), .ow 186 6 (p0.fP.map Put.enc)]] kr kr (.cons ((.cons (.refl _) (.cons (.refl _) (.cons (.refl _) (.cons (.refl _) (.cons (.refl _) (.cons (.refl _) .nil))))))) .nil)
  · have h := cond_f h hc
    refine Wp.skip ?_
    refine thenN ?_
    refine Wp.srg [] [] ?_
    refine Runs.alln ?_
    refine Wp.fg ⟨[(4, .obj 900 1)], [(900, [.t (.sl 1 (p0.fA.map (eInt .u8))), .own 58982401, .t (.int .i64 p0.fR.fGen), .t (.int .i64 p0.fR.fSlot), .t (.int .i64 p0.fR.fLen), .own 58982405])], [(58982401, .live 5 1 (p0.fB.map (eInt .u8))), (58982405, .live 186 6 (p0.fP.map Put.enc))]⟩ ?_
    refine Wp.ret ?_
    have hr := Option.some.inj h
    subst hr
    exact RetIK [[.t (.sl 1 (p0.fA.map (eInt .u8))), .ow 5 1 (p0.fB.map (eInt .u8)), .t (.int .i64 p0.fR.fGen), .t (.int .i64 p0.fR.fSlot), .t (.int .i64 p0.fR.fLen), .ow 186 6 (p0.fP.map Put.enc)]] kr kr (.cons ((.cons (.refl _) (.cons (.refl _) (.cons (.refl _) (.cons (.refl _) (.cons (.refl _) (.cons (.refl _) .nil))))))) .nil)
theorem impl_Disk__slot__own_p0_fA_p0_fB_p0_fP_ok (u : Nat) (p0 : Disk) (p1 : Int) (r : Nat × Disk) (h : impl_Disk__slot__own_p0_fA_p0_fB_p0_fP u p0 p1 = some r) : IntoOK Tryz.prog 187 [.ptr [.ow 5 1 (p0.fA.map (eInt .u8)), .ow 5 1 (p0.fB.map (eInt .u8)), .t (.int .i64 p0.fR.fGen), .t (.int .i64 p0.fR.fSlot), .t (.int .i64 p0.fR.fLen), .ow 186 6 (p0.fP.map Put.enc)], .one (.t (.int .i64 p1))] r.1 [[.ow 5 1 (r.2.fA.map (eInt .u8)), .ow 5 1 (r.2.fB.map (eInt .u8)), .t (.int .i64 r.2.fR.fGen), .t (.int .i64 r.2.fR.fSlot), .t (.int .i64 r.2.fR.fLen), .ow 186 6 (r.2.fP.map Put.enc)]] := by
  unfold impl_Disk__slot__own_p0_fA_p0_fB_p0_fP at h
  refine IntoOK.of_bodyK (fn := Tryz.f187) [.obj 900 0, .t (.int .i64 p1)] kr rfl kr kr kr kr kr rfl ?_
  refine Wp.srg [] [] ?_
  refine Runs.alln ?_
  refine Wp.fg ⟨[(0, .obj 900 0), (1, .t (.int .i64 p1))], [(900, [.own 58982400, .own 58982401, .t (.int .i64 p0.fR.fGen), .t (.int .i64 p0.fR.fSlot), .t (.int .i64 p0.fR.fLen), .own 58982405])], [(58982400, .live 5 1 (p0.fA.map (eInt .u8))), (58982401, .live 5 1 (p0.fB.map (eInt .u8))), (58982405, .live 186 6 (p0.fP.map Put.enc))]⟩ ?_
  refine Wp.seq ?_
  refine Wp.srg [] [] ?_
  refine Runs.alln ?_
  refine Wp.fg ⟨[(0, .obj 900 0), (6, .t (.bool (p1 == 0)))], [(900, [.own 58982400, .own 58982401, .t (.int .i64 p0.fR.fGen), .t (.int .i64 p0.fR.fSlot), .t (.int .i64 p0.fR.fLen), .own 58982405])], [(58982400, .live 5 1 (p0.fA.map (eInt .u8))), (58982401, .live 5 1 (p0.fB.map (eInt .u8))), (58982405, .live 186 6 (p0.fP.map Put.enc))]⟩ ?_
  refine Wp.cond2 (b := p1 == 0) kr (fun hc => ?_) (fun hc => ?_)
  · have h := cond_t h hc
    refine Wp.srg [] [] ?_
    refine Runs.alln ?_
    refine Wp.fg ⟨[(0, .obj 900 0), (4, .obj 900 0)], [(900, [.own 58982400, .own 58982401, .t (.int .i64 p0.fR.fGen), .t (.int .i64 p0.fR.fSlot), .t (.int .i64 p0.fR.fLen), .own 58982405])], [(58982400, .live 5 1 (p0.fA.map (eInt .u8))), (58982401, .live 5 1 (p0.fB.map (eInt .u8))), (58982405, .live 186 6 (p0.fP.map Put.enc))]⟩ ?_
    refine Wp.ret ?_
    refine thenR ?_
    have hr := Option.some.inj h
    subst hr
    exact RetIK [[.ow 5 1 (p0.fA.map (eInt .u8)), .ow 5 1 (p0.fB.map (eInt .u8)), .t (.int .i64 p0.fR.fGen), .t (.int .i64 p0.fR.fSlot), .t (.int .i64 p0.fR.fLen), .ow 186 6 (p0.fP.map Put.enc)]] kr kr (.cons ((.cons (.refl _) (.cons (.refl _) (.cons (.refl _) (.cons (.refl _) (.cons (.refl _) (.cons (.refl _) .nil))))))) .nil)
  · have h := cond_f h hc
    refine Wp.skip ?_
    refine thenN ?_
    refine Wp.srg [] [] ?_
    refine Runs.alln ?_
    refine Wp.fg ⟨[(4, .obj 900 1)], [(900, [.own 58982400, .own 58982401, .t (.int .i64 p0.fR.fGen), .t (.int .i64 p0.fR.fSlot), .t (.int .i64 p0.fR.fLen), .own 58982405])], [(58982400, .live 5 1 (p0.fA.map (eInt .u8))), (58982401, .live 5 1 (p0.fB.map (eInt .u8))), (58982405, .live 186 6 (p0.fP.map Put.enc))]⟩ ?_
    refine Wp.ret ?_
    have hr := Option.some.inj h
    subst hr
    exact RetIK [[.ow 5 1 (p0.fA.map (eInt .u8)), .ow 5 1 (p0.fB.map (eInt .u8)), .t (.int .i64 p0.fR.fGen), .t (.int .i64 p0.fR.fSlot), .t (.int .i64 p0.fR.fLen), .ow 186 6 (p0.fP.map Put.enc)]] kr kr (.cons ((.cons (.refl _) (.cons (.refl _) (.cons (.refl _) (.cons (.refl _) (.cons (.refl _) (.cons (.refl _) .nil))))))) .nil)
theorem impl_Disk__perform__own_p0_fP_ok (u : Nat) (p0 : Disk) (p1 : Put) (r : Disk) (h : impl_Disk__perform__own_p0_fP u p0 p1 = some r) : CallOK Tryz.prog 213 [.ptr [.ow 5 1 (p0.fA.map (eInt .u8)), .ow 5 1 (p0.fB.map (eInt .u8)), .t (.int .i64 p0.fR.fGen), .t (.int .i64 p0.fR.fSlot), .t (.int .i64 p0.fR.fLen), .ow 186 6 (p0.fP.map Put.enc)], .agg [.t (.int .i64 p1.fWhat), .t (.int .i64 p1.fAt), .t (.sl 1 (p1.fB.map (eInt .u8))), .t (.int .i64 p1.fR.fGen), .t (.int .i64 p1.fR.fSlot), .t (.int .i64 p1.fR.fLen)]] (.tup []) [[.ow 5 1 (r.fA.map (eInt .u8)), .ow 5 1 (r.fB.map (eInt .u8)), .t (.int .i64 r.fR.fGen), .t (.int .i64 r.fR.fSlot), .t (.int .i64 r.fR.fLen), .ow 186 6 (r.fP.map Put.enc)]] := by
  unfold impl_Disk__perform__own_p0_fP at h
  refine CallOK.of_bodyK (fn := Tryz.f213) (m := false) [.obj 900 0, .agg ((Put.enc p1).map .t)] kr rfl kr kr kr kr kr ?_
  refine Wp.srg [] [] ?_
  refine Runs.alln ?_
  refine Wp.fg ⟨[(0, .obj 900 0), (3, .obj 3 0)], [(3, ((Put.enc p1).map .t)), (900, [.own 58982400, .own 58982401, .t (.int .i64 p0.fR.fGen), .t (.int .i64 p0.fR.fSlot), .t (.int .i64 p0.fR.fLen), .own 58982405])], [(58982400, .live 5 1 (p0.fA.map (eInt .u8))), (58982401, .live 5 1 (p0.fB.map (eInt .u8))), (58982405, .live 186 6 (p0.fP.map Put.enc))]⟩ ?_
  refine Wp.seq ?_
  refine Wp.srg [] [] ?_
  refine Runs.alln ?_
  refine Wp.fg ⟨[(0, .obj 900 0), (3, .obj 3 0), (7, .t (.bool (p1.fWhat == 2)))], [(3, ((Put.enc p1).map .t)), (900, [.own 58982400, .own 58982401, .t (.int .i64 p0.fR.fGen), .t (.int .i64 p0.fR.fSlot), .t (.int .i64 p0.fR.fLen), .own 58982405])], [(58982400, .live 5 1 (p0.fA.map (eInt .u8))), (58982401, .live 5 1 (p0.fB.map (eInt .u8))), (58982405, .live 186 6 (p0.fP.map Put.enc))]⟩ ?_
  refine Wp.cond2 (b := p1.fWhat == 2) kr (fun hc => ?_) (fun hc => ?_)
  · have h := cond_t h hc
    refine Wp.srg [] [] ?_
    refine Runs.alln ?_
    refine Wp.fg ⟨[(0, .obj 900 0), (3, .obj 3 0)], [(3, ((Put.enc p1).map .t)), (900, [.own 58982400, .own 58982401, .t (.int .i64 p1.fR.fGen), .t (.int .i64 p1.fR.fSlot), .t (.int .i64 p1.fR.fLen), .own 58982405])], [(58982400, .live 5 1 (p0.fA.map (eInt .u8))), (58982401, .live 5 1 (p0.fB.map (eInt .u8))), (58982405, .live 186 6 (p0.fP.map Put.enc))]⟩ ?_
    refine Wp.ret ?_
    refine thenR ?_
    have hr := Option.some.inj h
    subst hr
    exact RetK [] (.tup []) [[.ow 5 1 (p0.fA.map (eInt .u8)), .ow 5 1 (p0.fB.map (eInt .u8)), .t (.int .i64 p1.fR.fGen), .t (.int .i64 p1.fR.fSlot), .t (.int .i64 p1.fR.fLen), .ow 186 6 (p0.fP.map Put.enc)]] kr kr (.refl _) (.cons ((.cons (.refl _) (.cons (.refl _) (.cons (.refl _) (.cons (.refl _) (.cons (.refl _) (.cons (.refl _) .nil))))))) .nil)
  · have h := cond_f h hc
    refine Wp.skip ?_
    refine thenN ?_
    refine Wp.srg [] [] ?_
    refine Runs.batch 3 kr ?_
    obtain ⟨r1, e_r1, h⟩ := bind_some h
    rcases tf (Nat.beq r1.1 0) with hc_r1 | hc_r1
    · have h := cond_t h hc_r1
      refine Runs.callIK true 16 187 [] [.obj 900 0, .t (.int .i64 p1.fWhat)] [.ptr [.ow 5 1 (p0.fA.map (eInt .u8)), .ow 5 1 (p0.fB.map (eInt .u8)), .t (.int .i64 p0.fR.fGen), .t (.int .i64 p0.fR.fSlot), .t (.int .i64 p0.fR.fLen), .ow 186 6 (p0.fP.map Put.enc)], .one (.t (.int .i64 p1.fWhat))] 900 0 ([[.ow 5 1 (r1.2.fA.map (eInt .u8)), .ow 5 1 (r1.2.fB.map (eInt .u8)), .t (.int .i64 r1.2.fR.fGen), .t (.int .i64 r1.2.fR.fSlot), .t (.int .i64 r1.2.fR.fLen), .ow 186 6 (r1.2.fP.map Put.enc)]]) rfl rfl kr kr kr kr kr (Nat.eq_of_beq_eq_true hc_r1 ▸ impl_Disk__slot__own_p0_fA_p0_fB_p0_fP_ok u p0 p1.fWhat r1 e_r1) kr kr ?_
      refine Runs.alln ?_
      refine Wp.fg ⟨[(3, .obj 3 0), (4, .obj 900 0)], [(3, ((Put.enc p1).map .t)), (900, [.own 1107200, .own 1107201, .t (.int .i64 r1.2.fR.fGen), .t (.int .i64 r1.2.fR.fSlot), .t (.int .i64 r1.2.fR.fLen), .own 1107205])], [(1107200, .live 5 1 (r1.2.fA.map (eInt .u8))), (1107201, .live 5 1 (r1.2.fB.map (eInt .u8))), (1107205, .live 186 6 (r1.2.fP.map Put.enc))]⟩ ?_
      refine Wp.seqJ (α := Put × (List Int) × (Nat × Disk)) (fun a => ⟨[(3, .obj 3 0), (4, .obj 900 0)], [(3, ((Put.enc a.1).map .t)), (900, [.own 58982912, .own 58982913, .t (.int .i64 a.2.2.2.fR.fGen), .t (.int .i64 a.2.2.2.fR.fSlot), .t (.int .i64 a.2.2.2.fR.fLen), .own 58982917])], [(58982912, .live 5 1 (a.2.1.map (eInt .u8))), (58982913, .live 5 1 (a.2.2.2.fB.map (eInt .u8))), (58982917, .live 186 6 (a.2.2.2.fP.map Put.enc))]⟩) (fun a => impl_Disk__perform__own_p0_fP_j3 u a.1 a.2.1 a.2.2 = some r) ?_ ?_
      · rintro ⟨p1, x9, r1⟩ h
        change impl_Disk__perform__own_p0_fP_j3 u p1 x9 r1 = some r at h
        unfold impl_Disk__perform__own_p0_fP_j3 at h
        refine Wp.regionA (pOf []) (rhoOf [(3, .obj 3), (4, .obj 900), (35, .obj 900), (36, .obj 900), (37, .own 900), (38, .obj 3), (39, .frz), (40, .win 900), (41, .obj 3), (42, .frz)]) kr kr ?_
        refine Runs.batch 5 kr ?_
        obtain ⟨_, e_10, h⟩ := bind_some h
        refine Runs.subO (e := 5) (e' := 5) (alo := (some (.t (.int .i64 p1.fAt)))) (eInt .u8) x9 58982912 1 p1.fAt rfl kr kr kr kr kr kr kr kr kr (chk_some e_10) ?_
        refine Runs.batch 2 kr ?_
        refine Runs.copyO (y := .t (.sl 1 (p1.fB.map (eInt .u8)))) (e := 5) (e' := 5) (eInt .u8) x9 p1.fB 58982912 (Int.toNat p1.fAt) 1 rfl rfl rfl kr kr kr kr kr (.inl rfl) kr kr kr (sub_le (chk_some e_10)) ?_
        refine Runs.done ?_
        have hr := Option.some.inj h
        subst hr
        exact RetKn [] (.tup []) [[.ow 5 1 ((overL x9 p1.fB (Int.toNat p1.fAt)).map (eInt .u8)), .ow 5 1 (r1.2.fB.map (eInt .u8)), .t (.int .i64 r1.2.fR.fGen), .t (.int .i64 r1.2.fR.fSlot), .t (.int .i64 r1.2.fR.fLen), .ow 186 6 (r1.2.fP.map Put.enc)]] kr kr (.refl _) (.cons ((.cons (.refl _) (.cons (.refl _) (.cons (.refl _) (.cons (.refl _) (.cons (.refl _) (.cons (.refl _) .nil))))))) .nil)
      · refine Wp.block ?_
        refine Wp.loopF (α := Put × (List Int) × (Nat × Disk)) (fun a => ⟨[(3, .obj 3 0), (4, .obj 900 0)], [(3, ((Put.enc a.1).map .t)), (900, [.own 58982912, .own 58982913, .t (.int .i64 a.2.2.2.fR.fGen), .t (.int .i64 a.2.2.2.fR.fSlot), .t (.int .i64 a.2.2.2.fR.fLen), .own 58982917])], [(58982912, .live 5 1 (a.2.1.map (eInt .u8))), (58982913, .live 5 1 (a.2.2.2.fB.map (eInt .u8))), (58982917, .live 186 6 (a.2.2.2.fP.map Put.enc))]⟩) (fun k_impl_Disk__perform__own_p0_fP_l4 a => impl_Disk__perform__own_p0_fP_l4 u k_impl_Disk__perform__own_p0_fP_l4 a.1 a.2.1 a.2.2 = some r) ?_ ?_ u (p1, r1.2.fA, r1) h (Le.of (mo := []) (mr := [(58982912, 1107200), (58982913, 1107201), (58982917, 1107205)]) kr kr kr kr)
        · intro a h; unfold impl_Disk__perform__own_p0_fP_l4 at h; cases h
        · rintro k_impl_Disk__perform__own_p0_fP_l4 ⟨p1, x7, r1⟩ h
          change impl_Disk__perform__own_p0_fP_l4 u (k_impl_Disk__perform__own_p0_fP_l4 + 1) p1 x7 r1 = some r at h
          rw [impl_Disk__perform__own_p0_fP_l4] at h
          refine Wp.seq ?_
          refine Wp.seq ?_
          refine Wp.regionA (pOf []) (rhoOf [(3, .obj 3), (4, .obj 900), (17, .obj 900), (18, .obj 900), (19, .own 900), (20, .frz), (21, .obj 3), (22, .frz), (23, .obj 3), (24, .frz), (25, .frz), (26, .frz)]) kr kr ?_
          refine Runs.batch 3 kr ?_
          refine Runs.lenT (y := .own 58982912) (e := 5) (eInt .u8) x7 1 rfl rfl rfl kr kr kr kr kr ?_
          refine Runs.batch 4 kr ?_
          refine Runs.lenT (y := .t (.sl 1 (p1.fB.map (eInt .u8)))) (e := 5) (eInt .u8) p1.fB 1 rfl rfl rfl kr kr kr kr kr ?_
          refine Runs.alln ?_
          refine Wp.fg ⟨[(3, .obj 3 0), (4, .obj 900 0), (17, .obj 900 0), (18, .obj 900 0), (19, .own 58982912), (20, .t (.int .i64 ((x7.length : Int)))), (21, .obj 3 1), (22, .t (.int .i64 p1.fAt)), (23, .obj 3 2), (24, .t (.sl 1 (p1.fB.map (eInt .u8)))), (25, .t (.int .i64 ((p1.fB.length : Int)))), (26, .t (.int .i64 (bAdd .i64 p1.fAt ((p1.fB.length : Int))))), (27, .t (.bool (decide (((x7.length : Int)) < (bAdd .i64 p1.fAt ((p1.fB.length : Int)))))))], [(3, ((Put.enc p1).map .t)), (900, [.own 58982912, .own 58982913, .t (.int .i64 r1.2.fR.fGen), .t (.int .i64 r1.2.fR.fSlot), .t (.int .i64 r1.2.fR.fLen), .own 58982917])], [(58982912, .live 5 1 (x7.map (eInt .u8))), (58982913, .live 5 1 (r1.2.fB.map (eInt .u8))), (58982917, .live 186 6 (r1.2.fP.map Put.enc))]⟩ ?_
          refine Wp.cond2 (b := decide (((x7.length : Int)) < (bAdd .i64 p1.fAt ((p1.fB.length : Int))))) kr (fun hc => ?_) (fun hc => ?_)
          · have h := cond_t h hc
            refine Wp.skip ?_
            refine thenN ?_
            refine Wp.block ?_
            refine Wp.rg [] [] ?_
            refine Runs.batch 5 kr ?_
            obtain ⟨_, e_9, h⟩ := bind_some h
            refine Runs.appT (y := .own 2097152) (eInt .u8) 33 1 5 1 1 58982912 x7 ([0]) rfl rfl rfl rfl kr kr kr kr kr kr (.inl rfl) kr (of_decide_eq_true (chk_some e_9)) kr kr ?_
            refine Runs.all kr ?_
            refine blkN ?_
            refine thenN ?_
            exact ⟨(p1, x7 ++ ([0]), r1), h, Le.of (mo := []) (mr := [(58982912, 2162688)]) kr kr kr kr⟩
          · have h := cond_f h hc
            refine Wp.exit ?_
            refine thenE ?_
            refine thenE ?_
            refine blkE ?_
            refine thenN ?_
            exact ⟨(p1, x7, r1), h, Le.of (mo := []) (mr := []) kr kr kr kr⟩
    · have h := cond_f h hc_r1
      rcases tf (Nat.beq r1.1 1) with hc_r1 | hc_r1
      · have h := cond_t h hc_r1
        refine Runs.callIK true 16 187 [] [.obj 900 0, .t (.int .i64 p1.fWhat)] [.ptr [.ow 5 1 (p0.fA.map (eInt .u8)), .ow 5 1 (p0.fB.map (eInt .u8)), .t (.int .i64 p0.fR.fGen), .t (.int .i64 p0.fR.fSlot), .t (.int .i64 p0.fR.fLen), .ow 186 6 (p0.fP.map Put.enc)], .one (.t (.int .i64 p1.fWhat))] 900 1 ([[.ow 5 1 (r1.2.fA.map (eInt .u8)), .ow 5 1 (r1.2.fB.map (eInt .u8)), .t (.int .i64 r1.2.fR.fGen), .t (.int .i64 r1.2.fR.fSlot), .t (.int .i64 r1.2.fR.fLen), .ow 186 6 (r1.2.fP.map Put.enc)]]) rfl rfl kr kr kr kr kr (Nat.eq_of_beq_eq_true hc_r1 ▸ impl_Disk__slot__own_p0_fA_p0_fB_p0_fP_ok u p0 p1.fWhat r1 e_r1) kr kr ?_
        refine Runs.alln ?_
        refine Wp.fg ⟨[(3, .obj 3 0), (4, .obj 900 1)], [(3, ((Put.enc p1).map .t)), (900, [.own 1107200, .own 1107201, .t (.int .i64 r1.2.fR.fGen), .t (.int .i64 r1.2.fR.fSlot), .t (.int .i64 r1.2.fR.fLen), .own 1107205])], [(1107200, .live 5 1 (r1.2.fA.map (eInt .u8))), (1107201, .live 5 1 (r1.2.fB.map (eInt .u8))), (1107205, .live 186 6 (r1.2.fP.map Put.enc))]⟩ ?_
        refine Wp.seqJ (α := Put × (Nat × Disk) × (List Int)) (fun a => ⟨[(3, .obj 3 0), (4, .obj 900 1)], [(3, ((Put.enc a.1).map .t)), (900, [.own 58982912, .own 58982913, .t (.int .i64 a.2.1.2.fR.fGen), .t (.int .i64 a.2.1.2.fR.fSlot), .t (.int .i64 a.2.1.2.fR.fLen), .own 58982917])], [(58982912, .live 5 1 (a.2.1.2.fA.map (eInt .u8))), (58982913, .live 5 1 (a.2.2.map (eInt .u8))), (58982917, .live 186 6 (a.2.1.2.fP.map Put.enc))]⟩) (fun a => impl_Disk__perform__own_p0_fP_j1 u a.1 a.2.1 a.2.2 = some r) ?_ ?_
        · rintro ⟨p1, r1, x5⟩ h
          change impl_Disk__perform__own_p0_fP_j1 u p1 r1 x5 = some r at h
          unfold impl_Disk__perform__own_p0_fP_j1 at h
          refine Wp.regionA (pOf []) (rhoOf [(3, .obj 3), (4, .obj 900), (35, .obj 900), (36, .obj 900), (37, .own 900), (38, .obj 3), (39, .frz), (40, .win 900), (41, .obj 3), (42, .frz)]) kr kr ?_
          refine Runs.batch 5 kr ?_
          obtain ⟨_, e_6, h⟩ := bind_some h
          refine Runs.subO (e := 5) (e' := 5) (alo := (some (.t (.int .i64 p1.fAt)))) (eInt .u8) x5 58982913 1 p1.fAt rfl kr kr kr kr kr kr kr kr kr (chk_some e_6) ?_
          refine Runs.batch 2 kr ?_
          refine Runs.copyO (y := .t (.sl 1 (p1.fB.map (eInt .u8)))) (e := 5) (e' := 5) (eInt .u8) x5 p1.fB 58982913 (Int.toNat p1.fAt) 1 rfl rfl rfl kr kr kr kr kr (.inl rfl) kr kr kr (sub_le (chk_some e_6)) ?_
          refine Runs.done ?_
          have hr := Option.some.inj h
          subst hr
          exact RetKn [] (.tup []) [[.ow 5 1 (r1.2.fA.map (eInt .u8)), .ow 5 1 ((overL x5 p1.fB (Int.toNat p1.fAt)).map (eInt .u8)), .t (.int .i64 r1.2.fR.fGen), .t (.int .i64 r1.2.fR.fSlot), .t (.int .i64 r1.2.fR.fLen), .ow 186 6 (r1.2.fP.map Put.enc)]] kr kr (.refl _) (.cons ((.cons (.refl _) (.cons (.refl _) (.cons (.refl _) (.cons (.refl _) (.cons (.refl _) (.cons (.refl _) .nil))))))) .nil)
        · refine Wp.block ?_
          refine Wp.loopF (α := Put × (Nat × Disk) × (List Int)) (fun a => ⟨[(3, .obj 3 0), (4, .obj 900 1)], [(3, ((Put.enc a.1).map .t)), (900, [.own 58982912, .own 58982913, .t (.int .i64 a.2.1.2.fR.fGen), .t (.int .i64 a.2.1.2.fR.fSlot), .t (.int .i64 a.2.1.2.fR.fLen), .own 58982917])], [(58982912, .live 5 1 (a.2.1.2.fA.map (eInt .u8))), (58982913, .live 5 1 (a.2.2.map (eInt .u8))), (58982917, .live 186 6 (a.2.1.2.fP.map Put.enc))]⟩) (fun k_impl_Disk__perform__own_p0_fP_l2 a => impl_Disk__perform__own_p0_fP_l2 u k_impl_Disk__perform__own_p0_fP_l2 a.1 a.2.1 a.2.2 = some r) ?_ ?_ u (p1, r1, r1.2.fB) h (Le.of (mo := []) (mr := [(58982912, 1107200), (58982913, 1107201), (58982917, 1107205)]) kr kr kr kr)
          · intro a h; unfold impl_Disk__perform__own_p0_fP_l2 at h; cases h
          · rintro k_impl_Disk__perform__own_p0_fP_l2 ⟨p1, r1, x3⟩ h
            change impl_Disk__perform__own_p0_fP_l2 u (k_impl_Disk__perform__own_p0_fP_l2 + 1) p1 r1 x3 = some r at h
            rw [impl_Disk__perform__own_p0_fP_l2] at h
            refine Wp.seq ?_
            refine Wp.seq ?_
            refine Wp.regionA (pOf []) (rhoOf [(3, .obj 3), (4, .obj 900), (17, .obj 900), (18, .obj 900), (19, .own 900), (20, .frz), (21, .obj 3), (22, .frz), (23, .obj 3), (24, .frz), (25, .frz), (26, .frz)]) kr kr ?_
            refine Runs.batch 3 kr ?_
            refine Runs.lenT (y := .own 58982913) (e := 5) (eInt .u8) x3 1 rfl rfl rfl kr kr kr kr kr ?_
            refine Runs.batch 4 kr ?_
            refine Runs.lenT (y := .t (.sl 1 (p1.fB.map (eInt .u8)))) (e := 5) (eInt .u8) p1.fB 1 rfl rfl rfl kr kr kr kr kr ?_
            refine Runs.alln ?_
            refine Wp.fg ⟨[(3, .obj 3 0), (4, .obj 900 1), (17, .obj 900 1), (18, .obj 900 1), (19, .own 58982913), (20, .t (.int .i64 ((x3.length : Int)))), (21, .obj 3 1), (22, .t (.int .i64 p1.fAt)), (23, .obj 3 2), (24, .t (.sl 1 (p1.fB.map (eInt .u8)))), (25, .t (.int .i64 ((p1.fB.length : Int)))), (26, .t (.int .i64 (bAdd .i64 p1.fAt ((p1.fB.length : Int))))), (27, .t (.bool (decide (((x3.length : Int)) < (bAdd .i64 p1.fAt ((p1.fB.length : Int)))))))], [(3, ((Put.enc p1).map .t)), (900, [.own 58982912, .own 58982913, .t (.int .i64 r1.2.fR.fGen), .t (.int .i64 r1.2.fR.fSlot), .t (.int .i64 r1.2.fR.fLen), .own 58982917])], [(58982912, .live 5 1 (r1.2.fA.map (eInt .u8))), (58982913, .live 5 1 (x3.map (eInt .u8))), (58982917, .live 186 6 (r1.2.fP.map Put.enc))]⟩ ?_
            refine Wp.cond2 (b := decide (((x3.length : Int)) < (bAdd .i64 p1.fAt ((p1.fB.length : Int))))) kr (fun hc => ?_) (fun hc => ?_)
            · have h := cond_t h hc
              refine Wp.skip ?_
              refine thenN ?_
              refine Wp.block ?_
              refine Wp.rg [] [] ?_
              refine Runs.batch 5 kr ?_
              obtain ⟨_, e_5, h⟩ := bind_some h
              refine Runs.appT (y := .own 2097152) (eInt .u8) 33 1 5 1 1 58982913 x3 ([0]) rfl rfl rfl rfl kr kr kr kr kr kr (.inl rfl) kr (of_decide_eq_true (chk_some e_5)) kr kr ?_
              refine Runs.all kr ?_
              refine blkN ?_
              refine thenN ?_
              exact ⟨(p1, r1, x3 ++ ([0])), h, Le.of (mo := []) (mr := [(58982913, 2162688)]) kr kr kr kr⟩
            · have h := cond_f h hc
              refine Wp.exit ?_
              refine thenE ?_
              refine thenE ?_
              refine blkE ?_
              refine thenN ?_
              exact ⟨(p1, r1, x3), h, Le.of (mo := []) (mr := []) kr kr kr kr⟩
      · have h := cond_f h hc_r1
        cases h
theorem impl_Disk__settled__impl_Fall_1_ok (u : Nat) (p0 : Disk) (p1_0 : Int) (r : Disk) (h : impl_Disk__settled__impl_Fall_1 u p0 p1_0 = some r) : CallOK Tryz.prog 191 [.agg [.t (.sl 1 (p0.fA.map (eInt .u8))), .t (.sl 1 (p0.fB.map (eInt .u8))), .t (.int .i64 p0.fR.fGen), .t (.int .i64 p0.fR.fSlot), .t (.int .i64 p0.fR.fLen), .t (.sl 6 (p0.fP.map Put.enc))], .clo 192 [.fptr [.int .i64 p1_0]]] (.agg [.ow 5 1 (r.fA.map (eInt .u8)), .ow 5 1 (r.fB.map (eInt .u8)), .t (.int .i64 r.fR.fGen), .t (.int .i64 r.fR.fSlot), .t (.int .i64 r.fR.fLen), .ow 186 6 (r.fP.map Put.enc)]) [] := by
  unfold impl_Disk__settled__impl_Fall_1 at h
  refine CallOK.of_bodyK (fn := Tryz.f191) (m := true) [.agg ((Disk.enc p0).map .t), .clo 192 [.fadr [.int .i64 p1_0]]] kr rfl kr kr kr kr kr ?_
  refine Wp.srg [] [] ?_
  refine Runs.alln ?_
  refine Wp.fg ⟨[(1, .clo 192 [.fadr [.int .i64 p1_0]]), (2, .obj 2 0), (4, .obj 4 0)], [(2, ((Disk.enc p0).map .t)), (4, [.nil, .nil, .t (.int .i64 0), .t (.int .i64 0), .t (.int .i64 0), .nil])], []⟩ ?_
  refine Wp.srg [] [] ?_
  refine Runs.batch 1 kr ?_
  obtain ⟨r1, e_r1, h⟩ := bind_some h
  refine Runs.callK false 9 212 [] [.agg ((Disk.enc p0).map .t)] [.agg ((Disk.enc p0).map .t)] (.agg [.ow 5 1 (r1.fA.map (eInt .u8)), .ow 5 1 (r1.fB.map (eInt .u8)), .t (.int .i64 r1.fR.fGen), .t (.int .i64 r1.fR.fSlot), .t (.int .i64 r1.fR.fLen), .ow 186 6 (r1.fP.map Put.enc)]) [] rfl rfl kr kr kr kr kr (impl_copyDisk_ok u p0 r1 e_r1) kr ?_
  refine Runs.alln ?_
  refine Wp.fg ⟨[(1, .clo 192 [.fadr [.int .i64 p1_0]]), (2, .obj 2 0), (4, .obj 4 0), (5, .obj 5 0)], [(2, ((Disk.enc p0).map .t)), (4, [.nil, .nil, .t (.int .i64 0), .t (.int .i64 0), .t (.int .i64 0), .nil]), (5, [.own 589824, .own 589825, .t (.int .i64 r1.fR.fGen), .t (.int .i64 r1.fR.fSlot), .t (.int .i64 r1.fR.fLen), .own 589829])], [(589824, .live 5 1 (r1.fA.map (eInt .u8))), (589825, .live 5 1 (r1.fB.map (eInt .u8))), (589829, .live 186 6 (r1.fP.map Put.enc))]⟩ ?_
  refine Wp.seq ?_
  refine Wp.srg [] [] ?_
  refine Runs.batch 1 kr ?_
  obtain ⟨r2, e_r2, h⟩ := bind_some h
  refine Runs.callK false 11 185 [] [.agg ((Disk.enc p0).map .t)] [.agg ((Disk.enc p0).map .t)] (.one (.t (.bool r2))) [] rfl rfl kr kr kr kr kr (impl_DiskOk_ok u p0 r2 e_r2) kr ?_
  refine Runs.alln ?_
  refine Wp.fg ⟨[(1, .clo 192 [.fadr [.int .i64 p1_0]]), (2, .obj 2 0), (4, .obj 4 0), (5, .obj 5 0), (12, .t (.bool (!r2)))], [(2, ((Disk.enc p0).map .t)), (4, [.nil, .nil, .t (.int .i64 0), .t (.int .i64 0), .t (.int .i64 0), .nil]), (5, [.own 589824, .own 589825, .t (.int .i64 r1.fR.fGen), .t (.int .i64 r1.fR.fSlot), .t (.int .i64 r1.fR.fLen), .own 589829])], [(589824, .live 5 1 (r1.fA.map (eInt .u8))), (589825, .live 5 1 (r1.fB.map (eInt .u8))), (589829, .live 186 6 (r1.fP.map Put.enc))]⟩ ?_
  refine Wp.cond2 (b := !r2) kr (fun hc => ?_) (fun hc => ?_)
  · have h := cond_t h hc
    refine Wp.srg [] [] ?_
    refine Runs.alln ?_
    refine Wp.fg ⟨[(1, .clo 192 [.fadr [.int .i64 p1_0]]), (2, .obj 2 0), (4, .obj 4 0), (5, .obj 5 0)], [(2, ((Disk.enc p0).map .t)), (4, [.own 589824, .own 589825, .t (.int .i64 r1.fR.fGen), .t (.int .i64 r1.fR.fSlot), .t (.int .i64 r1.fR.fLen), .own 589829]), (5, [.own 589824, .own 589825, .t (.int .i64 r1.fR.fGen), .t (.int .i64 r1.fR.fSlot), .t (.int .i64 r1.fR.fLen), .own 589829])], [(589824, .live 5 1 (r1.fA.map (eInt .u8))), (589825, .live 5 1 (r1.fB.map (eInt .u8))), (589829, .live 186 6 (r1.fP.map Put.enc))]⟩ ?_
    refine Wp.ret ?_
    refine thenR ?_
    have hr := Option.some.inj h
    subst hr
    exact RetK [.agg [.own 589824, .own 589825, .t (.int .i64 r1.fR.fGen), .t (.int .i64 r1.fR.fSlot), .t (.int .i64 r1.fR.fLen), .own 589829]] (.agg [.ow 5 1 (r1.fA.map (eInt .u8)), .ow 5 1 (r1.fB.map (eInt .u8)), .t (.int .i64 r1.fR.fGen), .t (.int .i64 r1.fR.fSlot), .t (.int .i64 r1.fR.fLen), .ow 186 6 (r1.fP.map Put.enc)]) [] kr kr (.refl _) .nil
  · have h := cond_f h hc
    refine Wp.skip ?_
    refine thenN ?_
    refine Wp.seqJ (α := (List Int) × (List Int) × Int × Int × Int × (List Put)) (fun a => ⟨[(4, .obj 4 0), (5, .obj 5 0)], [(4, [.nil, .nil, .t (.int .i64 0), .t (.int .i64 0), .t (.int .i64 0), .nil]), (5, [.own 328192, .own 328193, .t (.int .i64 a.2.2.1), .t (.int .i64 a.2.2.2.1), .t (.int .i64 a.2.2.2.2.1), .own 328197])], [(328192, .live 5 1 (a.1.map (eInt .u8))), (328193, .live 5 1 (a.2.1.map (eInt .u8))), (328197, .live 186 6 (a.2.2.2.2.2.map Put.enc))]⟩) (fun a => impl_Disk__settled__impl_Fall_1_j1 u a.1 a.2.1 a.2.2.1 a.2.2.2.1 a.2.2.2.2.1 a.2.2.2.2.2 = some r) ?_ ?_
    · rintro ⟨x33, x34, x35, x36, x37, x38⟩ h
      change impl_Disk__settled__impl_Fall_1_j1 u x33 x34 x35 x36 x37 x38 = some r at h
      unfold impl_Disk__settled__impl_Fall_1_j1 at h
      refine Wp.srg [] [] ?_
      refine Runs.alln ?_
      refine Wp.fg ⟨[(4, .obj 4 0), (5, .obj 5 0)], [(4, [.nil, .nil, .t (.int .i64 0), .t (.int .i64 0), .t (.int .i64 0), .nil]), (5, [.own 328192, .own 328193, .t (.int .i64 x35), .t (.int .i64 x36), .t (.int .i64 x37), .nil])], [(328192, .live 5 1 (x33.map (eInt .u8))), (328193, .live 5 1 (x34.map (eInt .u8)))]⟩ ?_
      refine Wp.srg [] [] ?_
      refine Runs.alln ?_
      refine Wp.fg ⟨[(4, .obj 4 0)], [(4, [.own 328192, .own 328193, .t (.int .i64 x35), .t (.int .i64 x36), .t (.int .i64 x37), .nil])], [(328192, .live 5 1 (x33.map (eInt .u8))), (328193, .live 5 1 (x34.map (eInt .u8)))]⟩ ?_
      refine Wp.ret ?_
      have hr := Option.some.inj h
      subst hr
      exact RetK [.agg [.own 328192, .own 328193, .t (.int .i64 x35), .t (.int .i64 x36), .t (.int .i64 x37), .nil]] (.agg [.ow 5 1 (x33.map (eInt .u8)), .ow 5 1 (x34.map (eInt .u8)), .t (.int .i64 x35), .t (.int .i64 x36), .t (.int .i64 x37), .nil]) [] kr kr (.agg (.cons (.refl _) (.cons (.refl _) (.cons (.refl _) (.cons (.refl _) (.cons (.refl _) (.cons (.nilO _ _) .nil))))))) .nil
    · refine Wp.srg [] [] ?_
      refine Runs.batch 2 kr ?_
      refine Runs.lenT (y := .t (.sl 6 (p0.fP.map Put.enc))) (e := 186) Put.enc p0.fP 6 rfl rfl rfl kr kr kr kr kr ?_
      refine Runs.alln ?_
      refine Wp.fg ⟨[(1, .clo 192 [.fadr [.int .i64 p1_0]]), (4, .obj 4 0), (5, .obj 5 0), (15, .t (.sl 6 (p0.fP.map Put.enc))), (16, .t (.int .i64 ((p0.fP.length : Int)))), (17, .t (.int .i64 0))], [(4, [.nil, .nil, .t (.int .i64 0), .t (.int .i64 0), .t (.int .i64 0), .nil]), (5, [.own 589824, .own 589825, .t (.int .i64 r1.fR.fGen), .t (.int .i64 r1.fR.fSlot), .t (.int .i64 r1.fR.fLen), .own 589829])], [(589824, .live 5 1 (r1.fA.map (eInt .u8))), (589825, .live 5 1 (r1.fB.map (eInt .u8))), (589829, .live 186 6 (r1.fP.map Put.enc))]⟩ ?_
      refine Wp.block ?_
      refine Wp.loopF (α := Int × Disk × Int × (List Int) × (List Int) × Int × Int × Int × (List Put)) (fun a => ⟨[(1, .clo 192 [.fadr [.int .i64 a.1]]), (4, .obj 4 0), (5, .obj 5 0), (15, .t (.sl 6 (a.2.1.fP.map Put.enc))), (16, .t (.int .i64 ((a.2.1.fP.length : Int)))), (17, .t (.int .i64 a.2.2.1))], [(4, [.nil, .nil, .t (.int .i64 0), .t (.int .i64 0), .t (.int .i64 0), .nil]), (5, [.own 328192, .own 328193, .t (.int .i64 a.2.2.2.2.2.1), .t (.int .i64 a.2.2.2.2.2.2.1), .t (.int .i64 a.2.2.2.2.2.2.2.1), .own 328197])], [(328192, .live 5 1 (a.2.2.2.1.map (eInt .u8))), (328193, .live 5 1 (a.2.2.2.2.1.map (eInt .u8))), (328197, .live 186 6 (a.2.2.2.2.2.2.2.2.map Put.enc))]⟩) (fun k_impl_Disk__settled__impl_Fall_1_l2 a => impl_Disk__settled__impl_Fall_1_l2 u k_impl_Disk__settled__impl_Fall_1_l2 a.1 a.2.1 a.2.2.1 a.2.2.2.1 a.2.2.2.2.1 a.2.2.2.2.2.1 a.2.2.2.2.2.2.1 a.2.2.2.2.2.2.2.1 a.2.2.2.2.2.2.2.2 = some r) ?_ ?_ u (p1_0, p0, 0, r1.fA, r1.fB, r1.fR.fGen, r1.fR.fSlot, r1.fR.fLen, r1.fP) h (Le.of (mo := []) (mr := [(328192, 589824), (328193, 589825), (328197, 589829)]) kr kr kr kr)
      · intro a h; unfold impl_Disk__settled__impl_Fall_1_l2 at h; cases h
      · rintro k_impl_Disk__settled__impl_Fall_1_l2 ⟨p1_0, p0, x10, x11, x12, x13, x14, x15, x16⟩ h
        change impl_Disk__settled__impl_Fall_1_l2 u (k_impl_Disk__settled__impl_Fall_1_l2 + 1) p1_0 p0 x10 x11 x12 x13 x14 x15 x16 = some r at h
        rw [impl_Disk__settled__impl_Fall_1_l2] at h
        refine Wp.srg [] [] ?_
        refine Runs.alln ?_
        refine Wp.fg ⟨[(1, .clo 192 [.fadr [.int .i64 p1_0]]), (4, .obj 4 0), (5, .obj 5 0), (15, .t (.sl 6 (p0.fP.map Put.enc))), (16, .t (.int .i64 ((p0.fP.length : Int)))), (17, .t (.int .i64 x10)), (18, .t (.bool (decide (x10 < ((p0.fP.length : Int))))))], [(4, [.nil, .nil, .t (.int .i64 0), .t (.int .i64 0), .t (.int .i64 0), .nil]), (5, [.own 328192, .own 328193, .t (.int .i64 x13), .t (.int .i64 x14), .t (.int .i64 x15), .own 328197])], [(328192, .live 5 1 (x11.map (eInt .u8))), (328193, .live 5 1 (x12.map (eInt .u8))), (328197, .live 186 6 (x16.map Put.enc))]⟩ ?_
        refine Wp.seq ?_
        refine Wp.cond2 (b := decide (x10 < ((p0.fP.length : Int)))) kr (fun hc => ?_) (fun hc => ?_)
        · have h := cond_t h hc
          refine Wp.skip ?_
          refine thenN ?_
          refine Wp.seqJ (α := Int × Int × Disk × Put × Bool × (List Int) × (List Int) × Int × Int × Int × (List Put)) (fun a => ⟨[(1, .clo 192 [.fadr [.int .i64 a.1]]), (4, .obj 4 0), (5, .obj 5 0), (6, .t (.int .i64 a.2.1)), (7, .obj 7 0), (15, .t (.sl 6 (a.2.2.1.fP.map Put.enc))), (16, .t (.int .i64 ((a.2.2.1.fP.length : Int)))), (17, .t (.int .i64 a.2.1)), (18, .t (.bool (decide (a.2.1 < ((a.2.2.1.fP.length : Int)))))), (19, .t (.int .i64 a.2.1)), (20, .fadr (Put.enc a.2.2.2.1)), (21, .agg ((Put.enc a.2.2.2.1).map .t)), (22, .clo 192 [.fadr [.int .i64 a.1]]), (23, .t (.int .i64 a.2.1)), (24, .t (.bool a.2.2.2.2.1))], [(4, [.nil, .nil, .t (.int .i64 0), .t (.int .i64 0), .t (.int .i64 0), .nil]), (5, [.own 328192, .own 328193, .t (.int .i64 a.2.2.2.2.2.2.2.1), .t (.int .i64 a.2.2.2.2.2.2.2.2.1), .t (.int .i64 a.2.2.2.2.2.2.2.2.2.1), .own 328197]), (7, ((Put.enc a.2.2.2.1).map .t))], [(328192, .live 5 1 (a.2.2.2.2.2.1.map (eInt .u8))), (328193, .live 5 1 (a.2.2.2.2.2.2.1.map (eInt .u8))), (328197, .live 186 6 (a.2.2.2.2.2.2.2.2.2.2.map Put.enc))]⟩) (fun a => impl_Disk__settled__impl_Fall_1_j3 u (fun z0 z1 z2 z3 z4 z5 z6 z7 z8 => impl_Disk__settled__impl_Fall_1_l2 u k_impl_Disk__settled__impl_Fall_1_l2 z0 z1 z2 z3 z4 z5 z6 z7 z8) a.1 a.2.1 a.2.2.1 a.2.2.2.1 a.2.2.2.2.1 a.2.2.2.2.2.1 a.2.2.2.2.2.2.1 a.2.2.2.2.2.2.2.1 a.2.2.2.2.2.2.2.2.1 a.2.2.2.2.2.2.2.2.2.1 a.2.2.2.2.2.2.2.2.2.2 = some r) ?_ ?_
          · rintro ⟨p1_0, x10, p0, y24, r25, x27, x28, x29, x30, x31, x32⟩ h
            change impl_Disk__settled__impl_Fall_1_j3 u (fun z0 z1 z2 z3 z4 z5 z6 z7 z8 => impl_Disk__settled__impl_Fall_1_l2 u k_impl_Disk__settled__impl_Fall_1_l2 z0 z1 z2 z3 z4 z5 z6 z7 z8) p1_0 x10 p0 y24 r25 x27 x28 x29 x30 x31 x32 = some r at h
            unfold impl_Disk__settled__impl_Fall_1_j3 at h
            refine Wp.rg [] [] ?_
            refine Runs.alln ?_
            exact ⟨(p1_0, p0, bAdd .i64 x10 1, x27, x28, x29, x30, x31, x32), h, Le.of (mo := []) (mr := []) kr kr kr kr⟩
          · refine Wp.block ?_
            refine Wp.srg [] [] ?_
            refine Runs.batch 1 kr ?_
            obtain ⟨y24, e_y24, h⟩ := bind_some h
            refine Runs.idxT (e := 186) (kk := .i64) (sz := 6) Put.enc p0.fP x10 rfl kr kr kr kr kr kr e_y24 ?_
            refine Runs.alln ?_
            refine Wp.fg ⟨[(1, .clo 192 [.fadr [.int .i64 p1_0]]), (4, .obj 4 0), (5, .obj 5 0), (6, .t (.int .i64 x10)), (7, .obj 7 0), (15, .t (.sl 6 (p0.fP.map Put.enc))), (16, .t (.int .i64 ((p0.fP.length : Int)))), (17, .t (.int .i64 x10)), (18, .t (.bool (decide (x10 < ((p0.fP.length : Int)))))), (19, .t (.int .i64 x10)), (20, .fadr (Put.enc y24)), (21, .agg ((Put.enc y24).map .t))], [(4, [.nil, .nil, .t (.int .i64 0), .t (.int .i64 0), .t (.int .i64 0), .nil]), (5, [.own 328192, .own 328193, .t (.int .i64 x13), .t (.int .i64 x14), .t (.int .i64 x15), .own 328197]), (7, ((Put.enc y24).map .t))], [(328192, .live 5 1 (x11.map (eInt .u8))), (328193, .live 5 1 (x12.map (eInt .u8))), (328197, .live 186 6 (x16.map Put.enc))]⟩ ?_
            refine Wp.srg [] [] ?_
            refine Runs.batch 2 kr ?_
            obtain ⟨r25, e_r25, h⟩ := bind_some h
            refine Runs.callK false 24 192 [.fadr [.int .i64 p1_0]] [.t (.int .i64 x10)] [.one (.t (.int .i64 x10)), .fptr [.int .i64 p1_0]] (.one (.t (.bool r25))) [] rfl rfl kr kr kr kr kr (impl_Fall_1_ok u x10 p1_0 r25 e_r25) kr ?_
            refine Runs.done ?_
            refine thenN ?_
            refine Wp.fg ⟨[(1, .clo 192 [.fadr [.int .i64 p1_0]]), (4, .obj 4 0), (5, .obj 5 0), (6, .t (.int .i64 x10)), (7, .obj 7 0), (15, .t (.sl 6 (p0.fP.map Put.enc))), (16, .t (.int .i64 ((p0.fP.length : Int)))), (17, .t (.int .i64 x10)), (18, .t (.bool (decide (x10 < ((p0.fP.length : Int)))))), (19, .t (.int .i64 x10)), (20, .fadr (Put.enc y24)), (21, .agg ((Put.enc y24).map .t)), (22, .clo 192 [.fadr [.int .i64 p1_0]]), (23, .t (.int .i64 x10)), (24, .t (.bool r25))], [(4, [.nil, .nil, .t (.int .i64 0), .t (.int .i64 0), .t (.int .i64 0), .nil]), (5, [.own 328192, .own 328193, .t (.int .i64 x13), .t (.int .i64 x14), .t (.int .i64 x15), .own 328197]), (7, ((Put.enc y24).map .t))], [(328192, .live 5 1 (x11.map (eInt .u8))), (328193, .live 5 1 (x12.map (eInt .u8))), (328197, .live 186 6 (x16.map Put.enc))]⟩ ?_
            refine Wp.cond2 (b := r25) kr (fun hc => ?_) (fun hc => ?_)
            · have h := cond_t h hc
              refine Wp.rg [] [] ?_
              refine Runs.batch 1 kr ?_
              obtain ⟨r26, e_r26, h⟩ := bind_some h
              refine Runs.callK true 26 213 [] [.obj 5 0, .agg ((Put.enc y24).map .t)] [.ptr [.ow 5 1 (x11.map (eInt .u8)), .ow 5 1 (x12.map (eInt .u8)), .t (.int .i64 x13), .t (.int .i64 x14), .t (.int .i64 x15), .ow 186 6 (x16.map Put.enc)], .agg ((Put.enc y24).map .t)] (.tup []) [[.ow 5 1 (r26.fA.map (eInt .u8)), .ow 5 1 (r26.fB.map (eInt .u8)), .t (.int .i64 r26.fR.fGen), .t (.int .i64 r26.fR.fSlot), .t (.int .i64 r26.fR.fLen), .ow 186 6 (r26.fP.map Put.enc)]] rfl rfl kr kr kr kr kr (impl_Disk__perform__own_p0_fP_ok u ((Disk.mk x11 x12 ((Record.mk x13 x14 x15)) x16)) y24 r26 e_r26) kr ?_
              refine Runs.done ?_
              refine blkN ?_
              refine thenN ?_
              exact ⟨(p1_0, x10, p0, y24, r25, r26.fA, r26.fB, r26.fR.fGen, r26.fR.fSlot, r26.fR.fLen, r26.fP), h, Le.of (mo := []) (mr := [(328192, 1705280), (328193, 1705281), (328197, 1705285)]) kr kr kr kr⟩
            · have h := cond_f h hc
              refine Wp.skip ?_
              refine blkN ?_
              refine thenN ?_
              exact ⟨(p1_0, x10, p0, y24, r25, x11, x12, x13, x14, x15, x16), h, Le.of (mo := []) (mr := []) kr kr kr kr⟩
        · have h := cond_f h hc
          refine Wp.exit ?_
          refine thenE ?_
          refine thenE ?_
          refine blkE ?_
          refine thenN ?_
          exact ⟨(x11, x12, x13, x14, x15, x16), h, Le.of (mo := []) (mr := []) kr kr kr kr⟩
theorem impl_Fall_ok (u : Nat) (p0 : Disk) (p1 : Int) (r : Disk) (h : impl_Fall u p0 p1 = some r) : CallOK Tryz.prog 162 [.agg [.t (.sl 1 (p0.fA.map (eInt .u8))), .t (.sl 1 (p0.fB.map (eInt .u8))), .t (.int .i64 p0.fR.fGen), .t (.int .i64 p0.fR.fSlot), .t (.int .i64 p0.fR.fLen), .t (.sl 6 (p0.fP.map Put.enc))], .one (.t (.int .i64 p1))] (.agg [.ow 5 1 (r.fA.map (eInt .u8)), .ow 5 1 (r.fB.map (eInt .u8)), .t (.int .i64 r.fR.fGen), .t (.int .i64 r.fR.fSlot), .t (.int .i64 r.fR.fLen), .ow 186 6 (r.fP.map Put.enc)]) [] := by
  unfold impl_Fall at h
  refine CallOK.of_bodyK (fn := Tryz.f162) (m := true) [.agg ((Disk.enc p0).map .t), .t (.int .i64 p1)] kr rfl kr kr kr kr kr ?_
  refine Wp.srg [] [] ?_
  refine Runs.alln ?_
  refine Wp.fg ⟨[(2, .obj 2 0), (3, .obj 3 0), (4, .obj 4 0)], [(2, ((Disk.enc p0).map .t)), (3, [.t (.int .i64 p1)]), (4, [.nil, .nil, .t (.int .i64 0), .t (.int .i64 0), .t (.int .i64 0), .nil])], []⟩ ?_
  refine Wp.seq ?_
  refine Wp.le (Le.trans (Le.frzOb 3 [.int .i64 p1] kr kr) (Le.of (s := ⟨[(2, .obj 2 0), (3, .fadr [.int .i64 p1]), (4, .obj 4 0)], [(2, ((Disk.enc p0).map .t)), (4, [.nil, .nil, .t (.int .i64 0), .t (.int .i64 0), .t (.int .i64 0), .nil])], []⟩) (mo := []) (mr := []) kr kr kr kr)) ?_
  refine Wp.rg [] [] ?_
  refine Runs.batch 2 kr ?_
  obtain ⟨r1, e_r1, h⟩ := bind_some h
  refine Runs.callK false 7 191 [] [.agg ((Disk.enc p0).map .t), .clo 192 [.fadr [.int .i64 p1]]] [.agg ((Disk.enc p0).map .t), .clo 192 [.fptr [.int .i64 p1]]] (.agg [.ow 5 1 (r1.fA.map (eInt .u8)), .ow 5 1 (r1.fB.map (eInt .u8)), .t (.int .i64 r1.fR.fGen), .t (.int .i64 r1.fR.fSlot), .t (.int .i64 r1.fR.fLen), .ow 186 6 (r1.fP.map Put.enc)]) [] rfl rfl kr kr kr kr kr (impl_Disk__settled__impl_Fall_1_ok u p0 p1 r1 e_r1) kr ?_
  refine Runs.alln ?_
  refine Wp.fg ⟨[(4, .obj 4 0)], [(4, [.own 458752, .own 458753, .t (.int .i64 r1.fR.fGen), .t (.int .i64 r1.fR.fSlot), .t (.int .i64 r1.fR.fLen), .own 458757])], [(458752, .live 5 1 (r1.fA.map (eInt .u8))), (458753, .live 5 1 (r1.fB.map (eInt .u8))), (458757, .live 186 6 (r1.fP.map Put.enc))]⟩ ?_
  refine Wp.ret ?_
  have hr := Option.some.inj h
  subst hr
  exact RetK [.agg [.own 458752, .own 458753, .t (.int .i64 r1.fR.fGen), .t (.int .i64 r1.fR.fSlot), .t (.int .i64 r1.fR.fLen), .own 458757]] (.agg [.ow 5 1 (r1.fA.map (eInt .u8)), .ow 5 1 (r1.fB.map (eInt .u8)), .t (.int .i64 r1.fR.fGen), .t (.int .i64 r1.fR.fSlot), .t (.int .i64 r1.fR.fLen), .ow 186 6 (r1.fP.map Put.enc)]) [] kr kr (.refl _) .nil
theorem impl_AllFalls_ok (u : Nat) (p0 : Disk) (r : (List Disk)) (h : impl_AllFalls u p0 = some r) : CallOK Tryz.prog 122 [.agg [.t (.sl 1 (p0.fA.map (eInt .u8))), .t (.sl 1 (p0.fB.map (eInt .u8))), .t (.int .i64 p0.fR.fGen), .t (.int .i64 p0.fR.fSlot), .t (.int .i64 p0.fR.fLen), .t (.sl 6 (p0.fP.map Put.enc))]] (.one (.ow 87 6 (r.map Disk.enc))) [] := by
  unfold impl_AllFalls at h
  refine CallOK.of_bodyK (fn := Tryz.f122) (m := true) [.agg ((Disk.enc p0).map .t)] kr rfl kr kr kr kr kr ?_
  refine Wp.srg [] [] ?_
  refine Runs.alln ?_
  refine Wp.fg ⟨[(1, .obj 1 0), (2, .nil)], [(1, ((Disk.enc p0).map .t))], []⟩ ?_
  refine Wp.srg [] [] ?_
  refine Runs.alln ?_
  refine Wp.fg ⟨[(1, .obj 1 0), (2, .nil), (3, .own 327680)], [(1, ((Disk.enc p0).map .t))], [(327680, .live 87 6 ((([] : List Disk)).map Disk.enc))]⟩ ?_
  refine Wp.seqJ (α := (List Disk)) (fun a => ⟨[(2, .nil), (3, .own 196609)], [], [(196609, .live 87 6 (a.map Disk.enc))]⟩) (fun a => impl_AllFalls_j1 u a = some r) ?_ ?_
  · rintro x9 h
    change impl_AllFalls_j1 u x9 = some r at h
    unfold impl_AllFalls_j1 at h
    refine Wp.srg [] [] ?_
    refine Runs.alln ?_
    refine Wp.fg ⟨[(2, .own 196609)], [], [(196609, .live 87 6 (x9.map Disk.enc))]⟩ ?_
    refine Wp.ret ?_
    have hr := Option.some.inj h
    subst hr
    exact RetK [.own 196609] (.one (.ow 87 6 (x9.map Disk.enc))) [] kr kr (.refl _) .nil
  · refine Wp.srg [] [] ?_
    refine Runs.batch 2 kr ?_
    refine Runs.lenT (y := .t (.sl 6 (p0.fP.map Put.enc))) (e := 186) Put.enc p0.fP 6 rfl rfl rfl kr kr kr kr kr ?_
    refine Runs.batch 1 kr ?_
    obtain ⟨_, e_1, h⟩ := bind_some h
    refine Runs.num .shl (.int .i64 1) (.int .i64 (if ((p0.fP.length : Int)) < 6 then ((p0.fP.length : Int)) else 6)) (.int .i64 (bShl .i64 1 (if ((p0.fP.length : Int)) < 6 then ((p0.fP.length : Int)) else 6))) rfl kr kr kr kr (bin_shl _ _ _ _ _ (chk_some e_1)) ?_
    refine Runs.alln ?_
    refine Wp.fg ⟨[(1, .obj 1 0), (2, .nil), (3, .own 327680), (10, .t (.int .i64 (bShl .i64 1 (if ((p0.fP.length : Int)) < 6 then ((p0.fP.length : Int)) else 6)))), (11, .t (.int .i64 0))], [(1, ((Disk.enc p0).map .t))], [(327680, .live 87 6 ((([] : List Disk)).map Disk.enc))]⟩ ?_
    refine Wp.block ?_
    refine Wp.loopF (α := (List Disk) × Disk × Int) (fun a => ⟨[(1, .obj 1 0), (2, .nil), (3, .own 196609), (10, .t (.int .i64 (bShl .i64 1 (if ((a.2.1.fP.length : Int)) < 6 then ((a.2.1.fP.length : Int)) else 6)))), (11, .t (.int .i64 a.2.2))], [(1, ((Disk.enc a.2.1).map .t))], [(196609, .live 87 6 (a.1.map Disk.enc))]⟩) (fun k_impl_AllFalls_l2 a => impl_AllFalls_l2 u k_impl_AllFalls_l2 a.1 a.2.1 a.2.2 = some r) ?_ ?_ u (([] : List Disk), p0, 0) h (Le.of (mo := []) (mr := [(196609, 327680)]) kr kr kr kr)
    · intro a h; unfold impl_AllFalls_l2 at h; cases h
    · rintro k_impl_AllFalls_l2 ⟨x4, p0, x5⟩ h
      change impl_AllFalls_l2 u (k_impl_AllFalls_l2 + 1) x4 p0 x5 = some r at h
      rw [impl_AllFalls_l2] at h
      refine Wp.srg [] [] ?_
      refine Runs.alln ?_
      refine Wp.fg ⟨[(1, .obj 1 0), (2, .nil), (3, .own 196609), (10, .t (.int .i64 (bShl .i64 1 (if ((p0.fP.length : Int)) < 6 then ((p0.fP.length : Int)) else 6)))), (11, .t (.int .i64 x5)), (12, .t (.bool (decide (x5 < (bShl .i64 1 (if ((p0.fP.length : Int)) < 6 then ((p0.fP.length : Int)) else 6))))))], [(1, ((Disk.enc p0).map .t))], [(196609, .live 87 6 (x4.map Disk.enc))]⟩ ?_
      refine Wp.seq ?_
      refine Wp.cond2 (b := decide (x5 < (bShl .i64 1 (if ((p0.fP.length : Int)) < 6 then ((p0.fP.length : Int)) else 6)))) kr (fun hc => ?_) (fun hc => ?_)
      · have h := cond_t h hc
        refine Wp.skip ?_
        refine thenN ?_
        refine Wp.seq ?_
        refine Wp.block ?_
        refine Wp.srg [] [] ?_
        refine Runs.alln ?_
        refine Wp.fg ⟨[(1, .obj 1 0), (2, .nil), (3, .own 196609), (4, .t (.int .i64 x5)), (10, .t (.int .i64 (bShl .i64 1 (if ((p0.fP.length : Int)) < 6 then ((p0.fP.length : Int)) else 6)))), (11, .t (.int .i64 x5)), (12, .t (.bool (decide (x5 < (bShl .i64 1 (if ((p0.fP.length : Int)) < 6 then ((p0.fP.length : Int)) else 6)))))), (13, .t (.int .i64 x5))], [(1, ((Disk.enc p0).map .t))], [(196609, .live 87 6 (x4.map Disk.enc))]⟩ ?_
        refine Wp.rg [] [] ?_
        refine Runs.batch 3 kr ?_
        obtain ⟨r8, e_r8, h⟩ := bind_some h
        refine Runs.callK false 17 162 [] [.agg ((Disk.enc p0).map .t), .t (.int .i64 x5)] [.agg ((Disk.enc p0).map .t), .one (.t (.int .i64 x5))] (.agg [.ow 5 1 (r8.fA.map (eInt .u8)), .ow 5 1 (r8.fB.map (eInt .u8)), .t (.int .i64 r8.fR.fGen), .t (.int .i64 r8.fR.fSlot), .t (.int .i64 r8.fR.fLen), .ow 186 6 (r8.fP.map Put.enc)]) [] rfl rfl kr kr kr kr kr (impl_Fall_ok u p0 x5 r8 e_r8) kr ?_
        refine Runs.batch 1 kr ?_
        obtain ⟨_, e_9, h⟩ := bind_some h
        refine Runs.appT (y := .own 1179648) Disk.enc 19 6 87 6 96 196609 x4 ([r8]) rfl rfl rfl rfl kr kr kr kr kr kr (.inl rfl) kr (of_decide_eq_true (chk_some e_9)) kr kr ?_
        refine Runs.all kr ?_
        refine blkN ?_
        refine thenN ?_
        refine Wp.rg [] [] ?_
        refine Runs.alln ?_
        exact ⟨(x4 ++ ([r8]), p0, bAdd .i64 x5 1), h, Le.of (mo := []) (mr := [(196609, 1245184)]) kr kr kr kr⟩
      · have h := cond_f h hc
        refine Wp.exit ?_
        refine thenE ?_
        refine thenE ?_
        refine blkE ?_
        refine thenN ?_
        exact ⟨x4, h, Le.of (mo := []) (mr := []) kr kr kr kr⟩
theorem impl_SafeFall_1_ok (u : Nat) (p0 : Disk) (q0 : List Int) (q1 : Int) (q2 : List Int) (r : Bool) (h : impl_SafeFall_1 u p0 q0 q1 q2 = some r) : CallOK Tryz.prog 123 [.agg [.t (.sl 1 (p0.fA.map (eInt .u8))), .t (.sl 1 (p0.fB.map (eInt .u8))), .t (.int .i64 p0.fR.fGen), .t (.int .i64 p0.fR.fSlot), .t (.int .i64 p0.fR.fLen), .t (.sl 6 (p0.fP.map Put.enc))], .fptr [.sl 1 (q0.map (eInt .u8))], .fptr [.int .i64 q1], .fptr [.sl 1 (q2.map (eInt .u8))]] (.one (.t (.bool r))) [] := by
  unfold impl_SafeFall_1 at h
  refine CallOK.of_bodyK (fn := Tryz.f123) (m := false) [.agg ((Disk.enc p0).map .t), .fadr [.sl 1 (q0.map (eInt .u8))], .fadr [.int .i64 q1], .fadr [.sl 1 (q2.map (eInt .u8))]] kr rfl kr kr kr kr kr ?_
  refine Wp.srg [] [] ?_
  refine Runs.alln ?_
  refine Wp.fg ⟨[(1, .fadr [.sl 1 (q0.map (eInt .u8))]), (2, .fadr [.int .i64 q1]), (3, .fadr [.sl 1 (q2.map (eInt .u8))]), (4, .obj 4 0), (5, .t (.bool false))], [(4, ((Disk.enc p0).map .t))], []⟩ ?_
  refine Wp.srg [] [] ?_
  refine Runs.batch 4 kr ?_
  obtain ⟨r1, e_r1, h⟩ := bind_some h
  refine Runs.callK false 10 120 [] [.agg ((Disk.enc p0).map .t), .t (.sl 1 (q0.map (eInt .u8))), .t (.int .i64 q1), .t (.sl 1 (q2.map (eInt .u8)))] [.agg ((Disk.enc p0).map .t), .one (.t (.sl 1 (q0.map (eInt .u8)))), .one (.t (.int .i64 q1)), .one (.t (.sl 1 (q2.map (eInt .u8))))] (.one (.t (.bool r1))) [] rfl rfl kr kr kr kr kr (impl_HoldsAny_ok u p0 q0 q1 q2 r1 e_r1) kr ?_
  refine Runs.alln ?_
  refine Wp.fg ⟨[(5, .t (.bool (!r1)))], [], []⟩ ?_
  refine Wp.ret ?_
  have hr := Option.some.inj h
  subst hr
  exact RetK [.t (.bool (!r1))] (.one (.t (.bool (!r1)))) [] kr kr (.refl _) .nil
theorem slices_IndexFunc___impl_Disk_impl_Disk__impl_SafeFall_1_ok (u : Nat) (p0 : List Disk) (p1_0 : List Int) (p1_1 : Int) (p1_2 : List Int) (r : Int) (h : slices_IndexFunc___impl_Disk_impl_Disk__impl_SafeFall_1 u p0 p1_0 p1_1 p1_2 = some r) : CallOK Tryz.prog 161 [.one (.t (.sl 6 (p0.map Disk.enc))), .clo 123 [.fptr [.sl 1 (p1_0.map (eInt .u8))], .fptr [.int .i64 p1_1], .fptr [.sl 1 (p1_2.map (eInt .u8))]]] (.one (.t (.int .i64 r))) [] := by
  unfold slices_IndexFunc___impl_Disk_impl_Disk__impl_SafeFall_1 at h
  refine CallOK.of_bodyK (fn := Tryz.f161) (m := false) [.t (.sl 6 (p0.map Disk.enc)), .clo 123 [.fadr [.sl 1 (p1_0.map (eInt .u8))], .fadr [.int .i64 p1_1], .fadr [.sl 1 (p1_2.map (eInt .u8))]]] kr rfl kr kr kr kr kr ?_
  refine Wp.srg [] [] ?_
  refine Runs.alln ?_
  refine Wp.fg ⟨[(0, .t (.sl 6 (p0.map Disk.enc))), (1, .clo 123 [.fadr [.sl 1 (p1_0.map (eInt .u8))], .fadr [.int .i64 p1_1], .fadr [.sl 1 (p1_2.map (eInt .u8))]]), (4, .t (.int .i64 0))], [], []⟩ ?_
  refine Wp.seqJ (α := Unit) (fun a => ⟨[(4, .t (.int .i64 0))], [], []⟩) (fun a => slices_IndexFunc___impl_Disk_impl_Disk__impl_SafeFall_1_j1 u = some r) ?_ ?_
  · rintro ⟨⟩ h
    change slices_IndexFunc___impl_Disk_impl_Disk__impl_SafeFall_1_j1 u = some r at h
    unfold slices_IndexFunc___impl_Disk_impl_Disk__impl_SafeFall_1_j1 at h
    refine Wp.srg [] [] ?_
    refine Runs.alln ?_
    refine Wp.fg ⟨[(4, .t (.int .i64 (-1)))], [], []⟩ ?_
    refine Wp.ret ?_
    have hr := Option.some.inj h
    subst hr
    exact RetK [.t (.int .i64 (-1))] (.one (.t (.int .i64 (-1)))) [] kr kr (.refl _) .nil
  · refine Wp.srg [] [] ?_
    refine Runs.batch 1 kr ?_
    refine Runs.lenT (y := .t (.sl 6 (p0.map Disk.enc))) (e := 87) Disk.enc p0 6 rfl rfl rfl kr kr kr kr kr ?_
    refine Runs.alln ?_
    refine Wp.fg ⟨[(0, .t (.sl 6 (p0.map Disk.enc))), (1, .clo 123 [.fadr [.sl 1 (p1_0.map (eInt .u8))], .fadr [.int .i64 p1_1], .fadr [.sl 1 (p1_2.map (eInt .u8))]]), (4, .t (.int .i64 0)), (7, .t (.int .i64 ((p0.length : Int)))), (8, .t (.int .i64 0))], [], []⟩ ?_
    refine Wp.block ?_
    refine Wp.loopF (α := (List Disk) × (List Int) × Int × (List Int) × Int) (fun a => ⟨[(0, .t (.sl 6 (a.1.map Disk.enc))), (1, .clo 123 [.fadr [.sl 1 (a.2.1.map (eInt .u8))], .fadr [.int .i64 a.2.2.1], .fadr [.sl 1 (a.2.2.2.1.map (eInt .u8))]]), (4, .t (.int .i64 0)), (7, .t (.int .i64 ((a.1.length : Int)))), (8, .t (.int .i64 a.2.2.2.2))], [], []⟩) (fun k_slices_IndexFunc___impl_Disk_impl_Disk__impl_SafeFall_1_l2 a => slices_IndexFunc___impl_Disk_impl_Disk__impl_SafeFall_1_l2 u k_slices_IndexFunc___impl_Disk_impl_Disk__impl_SafeFall_1_l2 a.1 a.2.1 a.2.2.1 a.2.2.2.1 a.2.2.2.2 = some r) ?_ ?_ u (p0, p1_0, p1_1, p1_2, 0) h (Le.of (mo := []) (mr := []) kr kr kr kr)
    · intro a h; unfold slices_IndexFunc___impl_Disk_impl_Disk__impl_SafeFall_1_l2 at h; cases h
    · rintro k_slices_IndexFunc___impl_Disk_impl_Disk__impl_SafeFall_1_l2 ⟨p0, p1_0, p1_1, p1_2, x2⟩ h
      change slices_IndexFunc___impl_Disk_impl_Disk__impl_SafeFall_1_l2 u (k_slices_IndexFunc___impl_Disk_impl_Disk__impl_SafeFall_1_l2 + 1) p0 p1_0 p1_1 p1_2 x2 = some r at h
      rw [slices_IndexFunc___impl_Disk_impl_Disk__impl_SafeFall_1_l2] at h
      refine Wp.srg [] [] ?_
      refine Runs.alln ?_
      refine Wp.fg ⟨[(0, .t (.sl 6 (p0.map Disk.enc))), (1, .clo 123 [.fadr [.sl 1 (p1_0.map (eInt .u8))], .fadr [.int .i64 p1_1], .fadr [.sl 1 (p1_2.map (eInt .u8))]]), (4, .t (.int .i64 0)), (7, .t (.int .i64 ((p0.length : Int)))), (8, .t (.int .i64 x2)), (9, .t (.bool (decide (x2 < ((p0.length : Int))))))], [], []⟩ ?_
      refine Wp.seq ?_
      refine Wp.cond2 (b := decide (x2 < ((p0.length : Int)))) kr (fun hc => ?_) (fun hc => ?_)
      · have h := cond_t h hc
        refine Wp.skip ?_
        refine thenN ?_
        refine Wp.seq ?_
        refine Wp.block ?_
        refine Wp.srg [] [] ?_
        refine Runs.alln ?_
        refine Wp.fg ⟨[(0, .t (.sl 6 (p0.map Disk.enc))), (1, .clo 123 [.fadr [.sl 1 (p1_0.map (eInt .u8))], .fadr [.int .i64 p1_1], .fadr [.sl 1 (p1_2.map (eInt .u8))]]), (4, .t (.int .i64 0)), (5, .t (.int .i64 x2)), (7, .t (.int .i64 ((p0.length : Int)))), (8, .t (.int .i64 x2)), (9, .t (.bool (decide (x2 < ((p0.length : Int)))))), (10, .t (.int .i64 x2))], [], []⟩ ?_
        refine Wp.srg [] [] ?_
        refine Runs.batch 3 kr ?_
        obtain ⟨y4, e_y4, h⟩ := bind_some h
        refine Runs.idxT (e := 87) (kk := .i64) (sz := 6) Disk.enc p0 x2 rfl kr kr kr kr kr kr e_y4 ?_
        refine Runs.batch 1 kr ?_
        obtain ⟨r5, e_r5, h⟩ := bind_some h
        refine Runs.callK false 16 123 [.fadr [.sl 1 (p1_0.map (eInt .u8))], .fadr [.int .i64 p1_1], .fadr [.sl 1 (p1_2.map (eInt .u8))]] [.agg ((Disk.enc y4).map .t)] [.agg ((Disk.enc y4).map .t), .fptr [.sl 1 (p1_0.map (eInt .u8))], .fptr [.int .i64 p1_1], .fptr [.sl 1 (p1_2.map (eInt .u8))]] (.one (.t (.bool r5))) [] rfl rfl kr kr kr kr kr (impl_SafeFall_1_ok u y4 p1_0 p1_1 p1_2 r5 e_r5) kr ?_
        refine Runs.done ?_
        refine thenN ?_
        refine Wp.fg ⟨[(0, .t (.sl 6 (p0.map Disk.enc))), (1, .clo 123 [.fadr [.sl 1 (p1_0.map (eInt .u8))], .fadr [.int .i64 p1_1], .fadr [.sl 1 (p1_2.map (eInt .u8))]]), (4, .t (.int .i64 0)), (5, .t (.int .i64 x2)), (7, .t (.int .i64 ((p0.length : Int)))), (8, .t (.int .i64 x2)), (9, .t (.bool (decide (x2 < ((p0.length : Int)))))), (10, .t (.int .i64 x2)), (11, .clo 123 [.fadr [.sl 1 (p1_0.map (eInt .u8))], .fadr [.int .i64 p1_1], .fadr [.sl 1 (p1_2.map (eInt .u8))]]), (12, .t (.sl 6 (p0.map Disk.enc))), (13, .t (.int .i64 x2)), (14, .fadr (Disk.enc y4)), (15, .agg ((Disk.enc y4).map .t)), (16, .t (.bool r5))], [], []⟩ ?_
        refine Wp.cond2 (b := r5) kr (fun hc => ?_) (fun hc => ?_)
        · have h := cond_t h hc
          refine Wp.srg [] [] ?_
          refine Runs.alln ?_
          refine Wp.fg ⟨[(0, .t (.sl 6 (p0.map Disk.enc))), (1, .clo 123 [.fadr [.sl 1 (p1_0.map (eInt .u8))], .fadr [.int .i64 p1_1], .fadr [.sl 1 (p1_2.map (eInt .u8))]]), (4, .t (.int .i64 x2)), (5, .t (.int .i64 x2)), (7, .t (.int .i64 ((p0.length : Int)))), (8, .t (.int .i64 x2)), (9, .t (.bool (decide (x2 < ((p0.length : Int)))))), (10, .t (.int .i64 x2)), (11, .clo 123 [.fadr [.sl 1 (p1_0.map (eInt .u8))], .fadr [.int .i64 p1_1], .fadr [.sl 1 (p1_2.map (eInt .u8))]]), (12, .t (.sl 6 (p0.map Disk.enc))), (13, .t (.int .i64 x2)), (14, .fadr (Disk.enc y4)), (15, .agg ((Disk.enc y4).map .t)), (16, .t (.bool r5)), (17, .t (.int .i64 x2))], [], []⟩ ?_
          refine Wp.ret ?_
          refine blkR ?_
          refine thenR ?_
          refine thenR ?_
          refine blkR ?_
          refine thenR ?_
          have hr := Option.some.inj h
          subst hr
          exact RetK [.t (.int .i64 x2)] (.one (.t (.int .i64 x2))) [] kr kr (.refl _) .nil
        · have h := cond_f h hc
          refine Wp.skip ?_
          refine blkN ?_
          refine thenN ?_
          refine Wp.rg [] [] ?_
          refine Runs.alln ?_
          exact ⟨(p0, p1_0, p1_1, p1_2, bAdd .i64 x2 1), h, Le.of (mo := []) (mr := []) kr kr kr kr⟩
      · have h := cond_f h hc
        refine Wp.exit ?_
        refine thenE ?_
        refine thenE ?_
        refine blkE ?_
        refine thenN ?_
        exact ⟨(), h, Le.of (mo := []) (mr := []) kr kr kr kr⟩
theorem slices_ContainsFunc___impl_Disk_impl_Disk__impl_SafeFall_1_ok (u : Nat) (p0 : List Disk) (p1_0 : List Int) (p1_1 : Int) (p1_2 : List Int) (r : Bool) (h : slices_ContainsFunc___impl_Disk_impl_Disk__impl_SafeFall_1 u p0 p1_0 p1_1 p1_2 = some r) : CallOK Tryz.prog 121 [.one (.t (.sl 6 (p0.map Disk.enc))), .clo 123 [.fptr [.sl 1 (p1_0.map (eInt .u8))], .fptr [.int .i64 p1_1], .fptr [.sl 1 (p1_2.map (eInt .u8))]]] (.one (.t (.bool r))) [] := by
  unfold slices_ContainsFunc___impl_Disk_impl_Disk__impl_SafeFall_1 at h
  refine CallOK.of_bodyK (fn := Tryz.f121) (m := false) [.t (.sl 6 (p0.map Disk.enc)), .clo 123 [.fadr [.sl 1 (p1_0.map (eInt .u8))], .fadr [.int .i64 p1_1], .fadr [.sl 1 (p1_2.map (eInt .u8))]]] kr rfl kr kr kr kr kr ?_
  refine Wp.srg [] [] ?_
  refine Runs.alln ?_
  refine Wp.fg ⟨[(0, .t (.sl 6 (p0.map Disk.enc))), (1, .clo 123 [.fadr [.sl 1 (p1_0.map (eInt .u8))], .fadr [.int .i64 p1_1], .fadr [.sl 1 (p1_2.map (eInt .u8))]]), (4, .t (.bool false))], [], []⟩ ?_
  refine Wp.srg [] [] ?_
  refine Runs.batch 2 kr ?_
  obtain ⟨r1, e_r1, h⟩ := bind_some h
  refine Runs.callK false 7 161 [] [.t (.sl 6 (p0.map Disk.enc)), .clo 123 [.fadr [.sl 1 (p1_0.map (eInt .u8))], .fadr [.int .i64 p1_1], .fadr [.sl 1 (p1_2.map (eInt .u8))]]] [.one (.t (.sl 6 (p0.map Disk.enc))), .clo 123 [.fptr [.sl 1 (p1_0.map (eInt .u8))], .fptr [.int .i64 p1_1], .fptr [.sl 1 (p1_2.map (eInt .u8))]]] (.one (.t (.int .i64 r1))) [] rfl rfl kr kr kr kr kr (slices_IndexFunc___impl_Disk_impl_Disk__impl_SafeFall_1_ok u p0 p1_0 p1_1 p1_2 r1 e_r1) kr ?_
  refine Runs.alln ?_
  refine Wp.fg ⟨[(4, .t (.bool (decide (r1 ≥ 0))))], [], []⟩ ?_
  refine Wp.ret ?_
  have hr := Option.some.inj h
  subst hr
  exact RetK [.t (.bool (decide (r1 ≥ 0)))] (.one (.t (.bool (decide (r1 ≥ 0))))) [] kr kr (.refl _) .nil
theorem impl_SafeFall_ok (u : Nat) (p0 : Disk) (p1 : List Int) (p2 : Int) (p3 : List Int) (r : Bool) (h : impl_SafeFall u p0 p1 p2 p3 = some r) : CallOK Tryz.prog 67 [.agg [.t (.sl 1 (p0.fA.map (eInt .u8))), .t (.sl 1 (p0.fB.map (eInt .u8))), .t (.int .i64 p0.fR.fGen), .t (.int .i64 p0.fR.fSlot), .t (.int .i64 p0.fR.fLen), .t (.sl 6 (p0.fP.map Put.enc))], .one (.t (.sl 1 (p1.map (eInt .u8)))), .one (.t (.int .i64 p2)), .one (.t (.sl 1 (p3.map (eInt .u8))))] (.one (.t (.bool r))) [] := by
  unfold impl_SafeFall at h
  refine CallOK.of_bodyK (fn := Tryz.f67) (m := false) [.agg ((Disk.enc p0).map .t), .t (.sl 1 (p1.map (eInt .u8))), .t (.int .i64 p2), .t (.sl 1 (p3.map (eInt .u8)))] kr rfl kr kr kr kr kr ?_
  refine Wp.srg [] [] ?_
  refine Runs.alln ?_
  refine Wp.fg ⟨[(4, .obj 4 0), (5, .obj 5 0), (6, .obj 6 0), (7, .obj 7 0), (8, .t (.bool false))], [(4, ((Disk.enc p0).map .t)), (5, [.t (.sl 1 (p1.map (eInt .u8)))]), (6, [.t (.int .i64 p2)]), (7, [.t (.sl 1 (p3.map (eInt .u8)))])], []⟩ ?_
  refine Wp.seq ?_
  refine Wp.le (Le.trans (Le.frzOb 5 [.sl 1 (p1.map (eInt .u8))] kr kr) (Le.trans (Le.frzOb 6 [.int .i64 p2] kr kr) (Le.trans (Le.frzOb 7 [.sl 1 (p3.map (eInt .u8))] kr kr) (Le.of (s := ⟨[(4, .obj 4 0), (5, .fadr [.sl 1 (p1.map (eInt .u8))]), (6, .fadr [.int .i64 p2]), (7, .fadr [.sl 1 (p3.map (eInt .u8))]), (8, .t (.bool false))], [(4, ((Disk.enc p0).map .t))], []⟩) (mo := []) (mr := []) kr kr kr kr)))) ?_
  refine Wp.rg [] [] ?_
  refine Runs.batch 4 kr ?_
  obtain ⟨r1, e_r1, h⟩ := bind_some h
  refine Runs.callK false 13 120 [] [.agg ((Disk.enc p0).map .t), .t (.sl 1 (p1.map (eInt .u8))), .t (.int .i64 p2), .t (.sl 1 (p3.map (eInt .u8)))] [.agg ((Disk.enc p0).map .t), .one (.t (.sl 1 (p1.map (eInt .u8)))), .one (.t (.int .i64 p2)), .one (.t (.sl 1 (p3.map (eInt .u8))))] (.one (.t (.bool r1))) [] rfl rfl kr kr kr kr kr (impl_HoldsAny_ok u p0 p1 p2 p3 r1 e_r1) kr ?_
  refine Runs.batch 1 kr ?_
  rcases tf (r1) with hc | hc
  · have h := cond_t h hc
    refine Runs.known 14 (v := true) kr hc ?_
    refine Runs.batch 1 kr ?_
    obtain ⟨r2, e_r2, h⟩ := bind_some h
    refine Runs.callK false 16 122 [] [.agg ((Disk.enc p0).map .t)] [.agg ((Disk.enc p0).map .t)] (.one (.ow 87 6 (r2.map Disk.enc))) [] rfl rfl kr kr kr kr kr (impl_AllFalls_ok u p0 r2 e_r2) kr ?_
    refine Runs.batch 1 kr ?_
    obtain ⟨r3, e_r3, h⟩ := bind_some h
    refine Runs.callBK 18 121 [] [.own 1048576, .clo 123 [.fadr [.sl 1 (p1.map (eInt .u8))], .fadr [.int .i64 p2], .fadr [.sl 1 (p3.map (eInt .u8))]]] [.one (.t (.sl 6 (r2.map Disk.enc))), .clo 123 [.fptr [.sl 1 (p1.map (eInt .u8))], .fptr [.int .i64 p2], .fptr [.sl 1 (p3.map (eInt .u8))]]] (.one (.t (.bool r3))) rfl rfl kr kr kr kr kr (slices_ContainsFunc___impl_Disk_impl_Disk__impl_SafeFall_1_ok u r2 p1 p2 p3 r3 e_r3) (by simp [V.plain, V.plains, C.plain, T.sc]) kr ?_
    refine Runs.alln ?_
    refine Wp.fg ⟨[(8, .t (.bool (!r3)))], [], []⟩ ?_
    refine Wp.ret ?_
    have hr := Option.some.inj h
    subst hr
    exact RetK [.t (.bool (!r3))] (.one (.t (.bool (!r3)))) [] kr kr (.refl _) .nil
  · have h := cond_f h hc
    refine Runs.known 14 (v := false) kr hc ?_
    refine Runs.alln ?_
    refine Wp.fg ⟨[(8, .t (.bool false))], [], []⟩ ?_
    refine Wp.ret ?_
    have hr := Option.some.inj h
    subst hr
    exact RetK [.t (.bool false)] (.one (.t (.bool false))) [] kr kr (.refl _) .nil
theorem impl_SafeIn_ok (u : Nat) (p0 : World) (r : Bool) (h : impl_SafeIn u p0 = some r) : CallOK Tryz.prog 20 [.agg [.t (.int .i64 p0.fC.fSize), .t (.int .i64 p0.fC.fWindow), .t (.int .i64 p0.fC.fSuspect), .t (.int .i64 p0.fC.fForget), .t (.sl 1 (p0.fT.fUp.map (eInt .i64))), .t (.sl 1 (p0.fNew.map (eInt .u8))), .t (.sl 1 (p0.fOld.map Image.enc)), .t (.sl 12 (p0.fN.map Node.enc)), .t (.sl 6 (p0.fD.map Disk.enc)), .t (.sl 3 (p0.fNet.map Packet.enc)), .t (.sl 3 (p0.fLog.map Sent.enc)), .t (.int .i64 p0.fLost)]] (.one (.t (.bool r))) [] := by
  unfold impl_SafeIn at h
  refine CallOK.of_bodyK (fn := Tryz.f20) (m := false) [.agg ((World.enc p0).map .t)] kr rfl kr kr kr kr kr ?_
  refine Wp.srg [] [] ?_
  refine Runs.alln ?_
  refine Wp.fg ⟨[(1, .obj 1 0), (2, .t (.bool false))], [(1, ((World.enc p0).map .t))], []⟩ ?_
  refine Wp.seqJ (α := Unit) (fun a => ⟨[(2, .t (.bool false))], [], []⟩) (fun a => impl_SafeIn_j1 u = some r) ?_ ?_
  · rintro ⟨⟩ h
    change impl_SafeIn_j1 u = some r at h
    unfold impl_SafeIn_j1 at h
    refine Wp.srg [] [] ?_
    refine Runs.alln ?_
    refine Wp.fg ⟨[(2, .t (.bool true))], [], []⟩ ?_
    refine Wp.ret ?_
    have hr := Option.some.inj h
    subst hr
    exact RetK [.t (.bool true)] (.one (.t (.bool true))) [] kr kr (.refl _) .nil
  · refine Wp.srg [] [] ?_
    refine Runs.alln ?_
    refine Wp.fg ⟨[(1, .obj 1 0), (2, .t (.bool false)), (3, .t (.int .i64 1))], [(1, ((World.enc p0).map .t))], []⟩ ?_
    refine Wp.block ?_
    refine Wp.loopF (α := Int × World) (fun a => ⟨[(1, .obj 1 0), (2, .t (.bool false)), (3, .t (.int .i64 a.1))], [(1, ((World.enc a.2).map .t))], []⟩) (fun k_impl_SafeIn_l2 a => impl_SafeIn_l2 u k_impl_SafeIn_l2 a.1 a.2 = some r) ?_ ?_ u (1, p0) h (Le.of (mo := []) (mr := []) kr kr kr kr)
    · intro a h; unfold impl_SafeIn_l2 at h; cases h
    · rintro k_impl_SafeIn_l2 ⟨x2, p0⟩ h
      change impl_SafeIn_l2 u (k_impl_SafeIn_l2 + 1) x2 p0 = some r at h
      rw [impl_SafeIn_l2] at h
      refine Wp.seq ?_
      refine Wp.srg [] [] ?_
      refine Runs.batch 3 kr ?_
      refine Runs.lenT (y := .t (.sl 6 (p0.fD.map Disk.enc))) (e := 87) Disk.enc p0.fD 6 rfl rfl rfl kr kr kr kr kr ?_
      refine Runs.batch 2 kr ?_
      refine Runs.lenT (y := .t (.sl 1 (p0.fOld.map Image.enc))) (e := 89) Image.enc p0.fOld 1 rfl rfl rfl kr kr kr kr kr ?_
      refine Runs.alln ?_
      refine Wp.fg ⟨[(1, .obj 1 0), (2, .t (.bool false)), (3, .t (.int .i64 x2)), (4, .t (.int .i64 x2)), (5, .obj 1 8), (6, .t (.sl 6 (p0.fD.map Disk.enc))), (7, .t (.int .i64 ((p0.fD.length : Int)))), (8, .obj 1 6), (9, .t (.sl 1 (p0.fOld.map Image.enc))), (10, .t (.int .i64 ((p0.fOld.length : Int)))), (11, .t (.int .i64 (if ((p0.fOld.length : Int)) < ((p0.fD.length : Int)) then ((p0.fOld.length : Int)) else ((p0.fD.length : Int))))), (12, .t (.bool (decide (x2 < (if ((p0.fOld.length : Int)) < ((p0.fD.length : Int)) then ((p0.fOld.length : Int)) else ((p0.fD.length : Int)))))))], [(1, ((World.enc p0).map .t))], []⟩ ?_
      refine Wp.cond2 (b := decide (x2 < (if ((p0.fOld.length : Int)) < ((p0.fD.length : Int)) then ((p0.fOld.length : Int)) else ((p0.fD.length : Int))))) kr (fun hc => ?_) (fun hc => ?_)
      · have h := cond_t h hc
        refine Wp.skip ?_
        refine thenN ?_
        refine Wp.seq ?_
        refine Wp.block ?_
        refine Wp.seq ?_
        refine Wp.regionA (pOf []) (rhoOf [(1, .obj 1), (3, .frz), (15, .obj 1), (16, .frz), (17, .frz), (18, .frz), (19, .frz), (20, .obj 1), (21, .frz), (22, .frz), (23, .frz), (24, .frz), (25, .frz), (26, .obj 1), (27, .frz), (28, .frz)]) kr kr ?_
        refine Runs.batch 3 kr ?_
        obtain ⟨y4, e_y4, h⟩ := bind_some h
        refine Runs.idxT (e := 87) (kk := .i64) (sz := 6) Disk.enc p0.fD x2 rfl kr kr kr kr kr kr e_y4 ?_
        refine Runs.batch 4 kr ?_
        obtain ⟨y5, e_y5, h⟩ := bind_some h
        refine Runs.idxT (e := 89) (kk := .i64) (sz := 1) Image.enc p0.fOld x2 rfl kr kr kr kr kr kr e_y5 ?_
        refine Runs.batch 4 kr ?_
        obtain ⟨r6, e_r6, h⟩ := bind_some h
        refine Runs.callK false 28 67 [] [.agg ((Disk.enc y4).map .t), .t (.sl 1 (y5.fB.map (eInt .u8))), .t (.int .i64 1), .t (.sl 1 (p0.fNew.map (eInt .u8)))] [.agg ((Disk.enc y4).map .t), .one (.t (.sl 1 (y5.fB.map (eInt .u8)))), .one (.t (.int .i64 1)), .one (.t (.sl 1 (p0.fNew.map (eInt .u8))))] (.one (.t (.bool r6))) [] rfl rfl kr kr kr kr kr (impl_SafeFall_ok u y4 y5.fB 1 p0.fNew r6 e_r6) kr ?_
        refine Runs.alln ?_
        refine Wp.fg ⟨[(1, .obj 1 0), (2, .t (.bool false)), (3, .t (.int .i64 x2)), (4, .t (.int .i64 x2)), (5, .obj 1 8), (6, .t (.sl 6 (p0.fD.map Disk.enc))), (7, .t (.int .i64 ((p0.fD.length : Int)))), (8, .obj 1 6), (9, .t (.sl 1 (p0.fOld.map Image.enc))), (10, .t (.int .i64 ((p0.fOld.length : Int)))), (11, .t (.int .i64 (if ((p0.fOld.length : Int)) < ((p0.fD.length : Int)) then ((p0.fOld.length : Int)) else ((p0.fD.length : Int))))), (12, .t (.bool (decide (x2 < (if ((p0.fOld.length : Int)) < ((p0.fD.length : Int)) then ((p0.fOld.length : Int)) else ((p0.fD.length : Int))))))), (15, .obj 1 8), (16, .t (.sl 6 (p0.fD.map Disk.enc))), (17, .t (.int .i64 x2)), (18, .fadr (Disk.enc y4)), (19, .agg ((Disk.enc y4).map .t)), (20, .obj 1 6), (21, .t (.sl 1 (p0.fOld.map Image.enc))), (22, .t (.int .i64 x2)), (23, .fadr [.sl 1 (y5.fB.map (eInt .u8))]), (24, .fadr [.sl 1 (y5.fB.map (eInt .u8))]), (25, .t (.sl 1 (y5.fB.map (eInt .u8)))), (26, .obj 1 5), (27, .t (.sl 1 (p0.fNew.map (eInt .u8)))), (28, .t (.bool r6)), (29, .t (.bool (!r6)))], [(1, ((World.enc p0).map .t))], []⟩ ?_
        refine Wp.cond2 (b := !r6) kr (fun hc => ?_) (fun hc => ?_)
        · have h := cond_t h hc
          refine Wp.srg [] [] ?_
          refine Runs.alln ?_
          refine Wp.fg ⟨[(1, .obj 1 0), (2, .t (.bool false)), (3, .t (.int .i64 x2)), (4, .t (.int .i64 x2)), (5, .obj 1 8), (6, .t (.sl 6 (p0.fD.map Disk.enc))), (7, .t (.int .i64 ((p0.fD.length : Int)))), (8, .obj 1 6), (9, .t (.sl 1 (p0.fOld.map Image.enc))), (10, .t (.int .i64 ((p0.fOld.length : Int)))), (11, .t (.int .i64 (if ((p0.fOld.length : Int)) < ((p0.fD.length : Int)) then ((p0.fOld.length : Int)) else ((p0.fD.length : Int))))), (12, .t (.bool (decide (x2 < (if ((p0.fOld.length : Int)) < ((p0.fD.length : Int)) then ((p0.fOld.length : Int)) else ((p0.fD.length : Int))))))), (15, .obj 1 8), (16, .t (.sl 6 (p0.fD.map Disk.enc))), (17, .t (.int .i64 x2)), (18, .fadr (Disk.enc y4)), (19, .agg ((Disk.enc y4).map .t)), (20, .obj 1 6), (21, .t (.sl 1 (p0.fOld.map Image.enc))), (22, .t (.int .i64 x2)), (23, .fadr [.sl 1 (y5.fB.map (eInt .u8))]), (24, .fadr [.sl 1 (y5.fB.map (eInt .u8))]), (25, .t (.sl 1 (y5.fB.map (eInt .u8)))), (26, .obj 1 5), (27, .t (.sl 1 (p0.fNew.map (eInt .u8)))), (28, .t (.bool r6)), (29, .t (.bool (!r6)))], [(1, ((World.enc p0).map .t))], []⟩ ?_
          refine Wp.ret ?_
          refine blkR ?_
          refine thenR ?_
          refine thenR ?_
          refine blkR ?_
          refine thenR ?_
          have hr := Option.some.inj h
          subst hr
          exact RetK [.t (.bool false)] (.one (.t (.bool false))) [] kr kr (.refl _) .nil
        · have h := cond_f h hc
          refine Wp.skip ?_
          refine blkN ?_
          refine thenN ?_
          refine Wp.rg [] [] ?_
          refine Runs.alln ?_
          exact ⟨(bAdd .i64 x2 1, p0), h, Le.of (mo := []) (mr := []) kr kr kr kr⟩
      · have h := cond_f h hc
        refine Wp.exit ?_
        refine thenE ?_
        refine thenE ?_
        refine blkE ?_
        refine thenN ?_
        exact ⟨(), h, Le.of (mo := []) (mr := []) kr kr kr kr⟩
theorem laws_eqConf_ok (u : Nat) (p0 : Conf) (p1 : Conf) (r : Bool) (h : laws_eqConf u p0 p1 = some r) : CallOK Tryz.prog 52 [.agg [.t (.int .i64 p0.fSize), .t (.int .i64 p0.fWindow), .t (.int .i64 p0.fSuspect), .t (.int .i64 p0.fForget)], .agg [.t (.int .i64 p1.fSize), .t (.int .i64 p1.fWindow), .t (.int .i64 p1.fSuspect), .t (.int .i64 p1.fForget)]] (.one (.t (.bool r))) [] := by
  unfold laws_eqConf at h
  refine CallOK.of_bodyK (fn := Tryz.f52) (m := false) [.agg ((Conf.enc p0).map .t), .agg ((Conf.enc p1).map .t)] kr rfl kr kr kr kr kr ?_
  refine Wp.srg [] [] ?_
  refine Runs.alln ?_
  refine Wp.fg ⟨[(2, .obj 2 0), (3, .obj 3 0), (4, .t (.bool false))], [(2, ((Conf.enc p0).map .t)), (3, ((Conf.enc p1).map .t))], []⟩ ?_
  refine Wp.seq ?_
  refine Wp.srg [] [] ?_
  refine Runs.alln ?_
  refine Wp.fg ⟨[(2, .obj 2 0), (3, .obj 3 0), (4, .t (.bool false)), (9, .t (.bool (p0.fSize != p1.fSize)))], [(2, ((Conf.enc p0).map .t)), (3, ((Conf.enc p1).map .t))], []⟩ ?_
  refine Wp.cond2 (b := p0.fSize != p1.fSize) kr (fun hc => ?_) (fun hc => ?_)
  · have h := cond_t h hc
    refine Wp.srg [] [] ?_
    refine Runs.alln ?_
    refine Wp.fg ⟨[(2, .obj 2 0), (3, .obj 3 0), (4, .t (.bool false))], [(2, ((Conf.enc p0).map .t)), (3, ((Conf.enc p1).map .t))], []⟩ ?_
    refine Wp.ret ?_
    refine thenR ?_
    have hr := Option.some.inj h
    subst hr
    exact RetK [.t (.bool false)] (.one (.t (.bool false))) [] kr kr (.refl _) .nil
  · have h := cond_f h hc
    refine Wp.skip ?_
    refine thenN ?_
    refine Wp.seq ?_
    refine Wp.srg [] [] ?_
    refine Runs.alln ?_
    refine Wp.fg ⟨[(2, .obj 2 0), (3, .obj 3 0), (4, .t (.bool false)), (14, .t (.bool (p0.fWindow != p1.fWindow)))], [(2, ((Conf.enc p0).map .t)), (3, ((Conf.enc p1).map .t))], []⟩ ?_
    refine Wp.cond2 (b := p0.fWindow != p1.fWindow) kr (fun hc => ?_) (fun hc => ?_)
    · have h := cond_t h hc
      refine Wp.srg [] [] ?_
      refine Runs.alln ?_
      refine Wp.fg ⟨[(2, .obj 2 0), (3, .obj 3 0), (4, .t (.bool false))], [(2, ((Conf.enc p0).map .t)), (3, ((Conf.enc p1).map .t))], []⟩ ?_
      refine Wp.ret ?_
      refine thenR ?_
      have hr := Option.some.inj h
      subst hr
      exact RetK [.t (.bool false)] (.one (.t (.bool false))) [] kr kr (.refl _) .nil
    · have h := cond_f h hc
      refine Wp.skip ?_
      refine thenN ?_
      refine Wp.seq ?_
      refine Wp.srg [] [] ?_
      refine Runs.alln ?_
      refine Wp.fg ⟨[(2, .obj 2 0), (3, .obj 3 0), (4, .t (.bool false)), (19, .t (.bool (p0.fSuspect != p1.fSuspect)))], [(2, ((Conf.enc p0).map .t)), (3, ((Conf.enc p1).map .t))], []⟩ ?_
      refine Wp.cond2 (b := p0.fSuspect != p1.fSuspect) kr (fun hc => ?_) (fun hc => ?_)
      · have h := cond_t h hc
        refine Wp.srg [] [] ?_
        refine Runs.alln ?_
        refine Wp.fg ⟨[(2, .obj 2 0), (3, .obj 3 0), (4, .t (.bool false))], [(2, ((Conf.enc p0).map .t)), (3, ((Conf.enc p1).map .t))], []⟩ ?_
        refine Wp.ret ?_
        refine thenR ?_
        have hr := Option.some.inj h
        subst hr
        exact RetK [.t (.bool false)] (.one (.t (.bool false))) [] kr kr (.refl _) .nil
      · have h := cond_f h hc
        refine Wp.skip ?_
        refine thenN ?_
        refine Wp.seq ?_
        refine Wp.srg [] [] ?_
        refine Runs.alln ?_
        refine Wp.fg ⟨[(4, .t (.bool false)), (24, .t (.bool (p0.fForget != p1.fForget)))], [], []⟩ ?_
        refine Wp.cond2 (b := p0.fForget != p1.fForget) kr (fun hc => ?_) (fun hc => ?_)
        · have h := cond_t h hc
          refine Wp.srg [] [] ?_
          refine Runs.alln ?_
          refine Wp.fg ⟨[(4, .t (.bool false))], [], []⟩ ?_
          refine Wp.ret ?_
          refine thenR ?_
          have hr := Option.some.inj h
          subst hr
          exact RetK [.t (.bool false)] (.one (.t (.bool false))) [] kr kr (.refl _) .nil
        · have h := cond_f h hc
          refine Wp.skip ?_
          refine thenN ?_
          refine Wp.srg [] [] ?_
          refine Runs.alln ?_
          refine Wp.fg ⟨[(4, .t (.bool true))], [], []⟩ ?_
          refine Wp.ret ?_
          have hr := Option.some.inj h
          subst hr
          exact RetK [.t (.bool true)] (.one (.t (.bool true))) [] kr kr (.refl _) .nil
theorem laws_eqIntS_ok (u : Nat) (p0 : List Int) (p1 : List Int) (r : Bool) (h : laws_eqIntS u p0 p1 = some r) : CallOK Tryz.prog 25 [.one (.t (.sl 1 (p0.map (eInt .i64)))), .one (.t (.sl 1 (p1.map (eInt .i64))))] (.one (.t (.bool r))) [] := by
  unfold laws_eqIntS at h
  refine CallOK.of_bodyK (fn := Tryz.f25) (m := false) [.t (.sl 1 (p0.map (eInt .i64))), .t (.sl 1 (p1.map (eInt .i64)))] kr rfl kr kr kr kr kr ?_
  refine Wp.srg [] [] ?_
  refine Runs.alln ?_
  refine Wp.fg ⟨[(0, .t (.sl 1 (p0.map (eInt .i64)))), (1, .t (.sl 1 (p1.map (eInt .i64)))), (4, .t (.bool false))], [], []⟩ ?_
  refine Wp.seq ?_
  refine Wp.srg [] [] ?_
  refine Runs.batch 1 kr ?_
  refine Runs.lenT (y := .t (.sl 1 (p0.map (eInt .i64)))) (e := 3) (eInt .i64) p0 1 rfl rfl rfl kr kr kr kr kr ?_
  refine Runs.batch 1 kr ?_
  refine Runs.lenT (y := .t (.sl 1 (p1.map (eInt .i64)))) (e := 3) (eInt .i64) p1 1 rfl rfl rfl kr kr kr kr kr ?_
  refine Runs.alln ?_
  refine Wp.fg ⟨[(0, .t (.sl 1 (p0.map (eInt .i64)))), (1, .t (.sl 1 (p1.map (eInt .i64)))), (4, .t (.bool false)), (10, .t (.bool (((p0.length : Int)) != ((p1.length : Int)))))], [], []⟩ ?_
  refine Wp.cond2 (b := ((p0.length : Int)) != ((p1.length : Int))) kr (fun hc => ?_) (fun hc => ?_)
  · have h := cond_t h hc
    refine Wp.srg [] [] ?_
    refine Runs.alln ?_
    refine Wp.fg ⟨[(0, .t (.sl 1 (p0.map (eInt .i64)))), (1, .t (.sl 1 (p1.map (eInt .i64)))), (4, .t (.bool false))], [], []⟩ ?_
    refine Wp.ret ?_
    refine thenR ?_
    have hr := Option.some.inj h
    subst hr
    exact RetK [.t (.bool false)] (.one (.t (.bool false))) [] kr kr (.refl _) .nil
  · have h := cond_f h hc
    refine Wp.skip ?_
    refine thenN ?_
    refine Wp.seqJ (α := Unit) (fun a => ⟨[(4, .t (.bool false))], [], []⟩) (fun a => laws_eqIntS_j1 u = some r) ?_ ?_
    · rintro ⟨⟩ h
      change laws_eqIntS_j1 u = some r at h
      unfold laws_eqIntS_j1 at h
      refine Wp.srg [] [] ?_
      refine Runs.alln ?_
      refine Wp.fg ⟨[(4, .t (.bool true))], [], []⟩ ?_
      refine Wp.ret ?_
      have hr := Option.some.inj h
      subst hr
      exact RetK [.t (.bool true)] (.one (.t (.bool true))) [] kr kr (.refl _) .nil
    · refine Wp.srg [] [] ?_
      refine Runs.alln ?_
      refine Wp.fg ⟨[(0, .t (.sl 1 (p0.map (eInt .i64)))), (1, .t (.sl 1 (p1.map (eInt .i64)))), (4, .t (.bool false)), (5, .t (.int .i64 0))], [], []⟩ ?_
      refine Wp.block ?_
      refine Wp.loopF (α := (List Int) × (List Int) × Int) (fun a => ⟨[(0, .t (.sl 1 (a.1.map (eInt .i64)))), (1, .t (.sl 1 (a.2.1.map (eInt .i64)))), (4, .t (.bool false)), (5, .t (.int .i64 a.2.2))], [], []⟩) (fun k_laws_eqIntS_l2 a => laws_eqIntS_l2 u k_laws_eqIntS_l2 a.1 a.2.1 a.2.2 = some r) ?_ ?_ u (p0, p1, 0) h (Le.of (mo := []) (mr := []) kr kr kr kr)
      · intro a h; unfold laws_eqIntS_l2 at h; cases h
      · rintro k_laws_eqIntS_l2 ⟨p0, p1, x2⟩ h
        change laws_eqIntS_l2 u (k_laws_eqIntS_l2 + 1) p0 p1 x2 = some r at h
        rw [laws_eqIntS_l2] at h
        refine Wp.seq ?_
        refine Wp.srg [] [] ?_
        refine Runs.batch 2 kr ?_
        refine Runs.lenT (y := .t (.sl 1 (p0.map (eInt .i64)))) (e := 3) (eInt .i64) p0 1 rfl rfl rfl kr kr kr kr kr ?_
        refine Runs.alln ?_
        refine Wp.fg ⟨[(0, .t (.sl 1 (p0.map (eInt .i64)))), (1, .t (.sl 1 (p1.map (eInt .i64)))), (4, .t (.bool false)), (5, .t (.int .i64 x2)), (11, .t (.int .i64 x2)), (12, .t (.sl 1 (p0.map (eInt .i64)))), (13, .t (.int .i64 ((p0.length : Int)))), (14, .t (.bool (decide (x2 < ((p0.length : Int))))))], [], []⟩ ?_
        refine Wp.cond2 (b := decide (x2 < ((p0.length : Int)))) kr (fun hc => ?_) (fun hc => ?_)
        · have h := cond_t h hc
          refine Wp.skip ?_
          refine thenN ?_
          refine Wp.seq ?_
          refine Wp.block ?_
          refine Wp.seq ?_
          refine Wp.regionA (pOf []) (rhoOf [(0, .frz), (1, .frz), (5, .frz), (17, .frz), (18, .frz), (19, .frz), (20, .frz), (21, .frz), (22, .frz), (23, .frz), (24, .frz)]) kr kr ?_
          refine Runs.batch 2 kr ?_
          obtain ⟨y4, e_y4, h⟩ := bind_some h
          refine Runs.idxT (e := 3) (kk := .i64) (sz := 1) (eInt .i64) p0 x2 rfl kr kr kr kr kr kr e_y4 ?_
          refine Runs.batch 3 kr ?_
          obtain ⟨y5, e_y5, h⟩ := bind_some h
          refine Runs.idxT (e := 3) (kk := .i64) (sz := 1) (eInt .i64) p1 x2 rfl kr kr kr kr kr kr e_y5 ?_
          refine Runs.alln ?_
          refine Wp.fg ⟨[(0, .t (.sl 1 (p0.map (eInt .i64)))), (1, .t (.sl 1 (p1.map (eInt .i64)))), (4, .t (.bool false)), (5, .t (.int .i64 x2)), (11, .t (.int .i64 x2)), (12, .t (.sl 1 (p0.map (eInt .i64)))), (13, .t (.int .i64 ((p0.length : Int)))), (14, .t (.bool (decide (x2 < ((p0.length : Int)))))), (17, .t (.sl 1 (p0.map (eInt .i64)))), (18, .t (.int .i64 x2)), (19, .fadr [.int .i64 y4]), (20, .t (.int .i64 y4)), (21, .t (.sl 1 (p1.map (eInt .i64)))), (22, .t (.int .i64 x2)), (23, .fadr [.int .i64 y5]), (24, .t (.int .i64 y5)), (25, .t (.bool (y4 != y5)))], [], []⟩ ?_
          refine Wp.cond2 (b := y4 != y5) kr (fun hc => ?_) (fun hc => ?_)
          · have h := cond_t h hc
            refine Wp.srg [] [] ?_
            refine Runs.alln ?_
            refine Wp.fg ⟨[(0, .t (.sl 1 (p0.map (eInt .i64)))), (1, .t (.sl 1 (p1.map (eInt .i64)))), (4, .t (.bool false)), (5, .t (.int .i64 x2)), (11, .t (.int .i64 x2)), (12, .t (.sl 1 (p0.map (eInt .i64)))), (13, .t (.int .i64 ((p0.length : Int)))), (14, .t (.bool (decide (x2 < ((p0.length : Int)))))), (17, .t (.sl 1 (p0.map (eInt .i64)))), (18, .t (.int .i64 x2)), (19, .fadr [.int .i64 y4]), (20, .t (.int .i64 y4)), (21, .t (.sl 1 (p1.map (eInt .i64)))), (22, .t (.int .i64 x2)), (23, .fadr [.int .i64 y5]), (24, .t (.int .i64 y5)), (25, .t (.bool (y4 != y5)))], [], []⟩ ?_
            refine Wp.ret ?_
            refine blkR ?_
            refine thenR ?_
            refine thenR ?_
            refine blkR ?_
            refine thenR ?_
            have hr := Option.some.inj h
            subst hr
            exact RetK [.t (.bool false)] (.one (.t (.bool false))) [] kr kr (.refl _) .nil
          · have h := cond_f h hc
            refine Wp.skip ?_
            refine blkN ?_
            refine thenN ?_
            refine Wp.rg [] [] ?_
            refine Runs.alln ?_
            exact ⟨(p0, p1, bAdd .i64 x2 1), h, Le.of (mo := []) (mr := []) kr kr kr kr⟩
        · have h := cond_f h hc
          refine Wp.exit ?_
          refine thenE ?_
          refine thenE ?_
          refine blkE ?_
          refine thenN ?_
          exact ⟨(), h, Le.of (mo := []) (mr := []) kr kr kr kr⟩
theorem laws_eqTree_ok (u : Nat) (p0 : Tree) (p1 : Tree) (r : Bool) (h : laws_eqTree u p0 p1 = some r) : CallOK Tryz.prog 53 [.agg [.t (.sl 1 (p0.fUp.map (eInt .i64)))], .agg [.t (.sl 1 (p1.fUp.map (eInt .i64)))]] (.one (.t (.bool r))) [] := by
  unfold laws_eqTree at h
  refine CallOK.of_bodyK (fn := Tryz.f53) (m := false) [.agg [.t (.sl 1 (p0.fUp.map (eInt .i64)))], .agg [.t (.sl 1 (p1.fUp.map (eInt .i64)))]] kr rfl kr kr kr kr kr ?_
  refine Wp.srg [] [] ?_
  refine Runs.alln ?_
  refine Wp.fg ⟨[(2, .obj 2 0), (3, .obj 3 0), (4, .t (.bool false))], [(2, [.t (.sl 1 (p0.fUp.map (eInt .i64)))]), (3, [.t (.sl 1 (p1.fUp.map (eInt .i64)))])], []⟩ ?_
  refine Wp.seq ?_
  refine Wp.srg [] [] ?_
  refine Runs.batch 4 kr ?_
  obtain ⟨r1, e_r1, h⟩ := bind_some h
  refine Runs.callK false 9 25 [] [.t (.sl 1 (p0.fUp.map (eInt .i64))), .t (.sl 1 (p1.fUp.map (eInt .i64)))] [.one (.t (.sl 1 (p0.fUp.map (eInt .i64)))), .one (.t (.sl 1 (p1.fUp.map (eInt .i64))))] (.one (.t (.bool r1))) [] rfl rfl kr kr kr kr kr (laws_eqIntS_ok u p0.fUp p1.fUp r1 e_r1) kr ?_
  refine Runs.alln ?_
  refine Wp.fg ⟨[(4, .t (.bool false)), (10, .t (.bool (!r1)))], [], []⟩ ?_
  refine Wp.cond2 (b := !r1) kr (fun hc => ?_) (fun hc => ?_)
  · have h := cond_t h hc
    refine Wp.srg [] [] ?_
    refine Runs.alln ?_
    refine Wp.fg ⟨[(4, .t (.bool false))], [], []⟩ ?_
    refine Wp.ret ?_
    refine thenR ?_
    have hr := Option.some.inj h
    subst hr
    exact RetK [.t (.bool false)] (.one (.t (.bool false))) [] kr kr (.refl _) .nil
  · have h := cond_f h hc
    refine Wp.skip ?_
    refine thenN ?_
    refine Wp.srg [] [] ?_
    refine Runs.alln ?_
    refine Wp.fg ⟨[(4, .t (.bool true))], [], []⟩ ?_
    refine Wp.ret ?_
    have hr := Option.some.inj h
    subst hr
    exact RetK [.t (.bool true)] (.one (.t (.bool true))) [] kr kr (.refl _) .nil
theorem laws_eqByteS_ok (u : Nat) (p0 : List Int) (p1 : List Int) (r : Bool) (h : laws_eqByteS u p0 p1 = some r) : CallOK Tryz.prog 54 [.one (.t (.sl 1 (p0.map (eInt .u8)))), .one (.t (.sl 1 (p1.map (eInt .u8))))] (.one (.t (.bool r))) [] := by
  unfold laws_eqByteS at h
  refine CallOK.of_bodyK (fn := Tryz.f54) (m := false) [.t (.sl 1 (p0.map (eInt .u8))), .t (.sl 1 (p1.map (eInt .u8)))] kr rfl kr kr kr kr kr ?_
  refine Wp.srg [] [] ?_
  refine Runs.alln ?_
  refine Wp.fg ⟨[(0, .t (.sl 1 (p0.map (eInt .u8)))), (1, .t (.sl 1 (p1.map (eInt .u8)))), (4, .t (.bool false))], [], []⟩ ?_
  refine Wp.seq ?_
  refine Wp.srg [] [] ?_
  refine Runs.batch 1 kr ?_
  refine Runs.lenT (y := .t (.sl 1 (p0.map (eInt .u8)))) (e := 5) (eInt .u8) p0 1 rfl rfl rfl kr kr kr kr kr ?_
  refine Runs.batch 1 kr ?_
  refine Runs.lenT (y := .t (.sl 1 (p1.map (eInt .u8)))) (e := 5) (eInt .u8) p1 1 rfl rfl rfl kr kr kr kr kr ?_
  refine Runs.alln ?_
  refine Wp.fg ⟨[(0, .t (.sl 1 (p0.map (eInt .u8)))), (1, .t (.sl 1 (p1.map (eInt .u8)))), (4, .t (.bool false)), (10, .t (.bool (((p0.length : Int)) != ((p1.length : Int)))))], [], []⟩ ?_
  refine Wp.cond2 (b := ((p0.length : Int)) != ((p1.length : Int))) kr (fun hc => ?_) (fun hc => ?_)
  · have h := cond_t h hc
    refine Wp.srg [] [] ?_
    refine Runs.alln ?_
    refine Wp.fg ⟨[(0, .t (.sl 1 (p0.map (eInt .u8)))), (1, .t (.sl 1 (p1.map (eInt .u8)))), (4, .t (.bool false))], [], []⟩ ?_
    refine Wp.ret ?_
    refine thenR ?_
    have hr := Option.some.inj h
    subst hr
    exact RetK [.t (.bool false)] (.one (.t (.bool false))) [] kr kr (.refl _) .nil
  · have h := cond_f h hc
    refine Wp.skip ?_
    refine thenN ?_
    refine Wp.seqJ (α := Unit) (fun a => ⟨[(4, .t (.bool false))], [], []⟩) (fun a => laws_eqByteS_j1 u = some r) ?_ ?_
    · rintro ⟨⟩ h
      change laws_eqByteS_j1 u = some r at h
      unfold laws_eqByteS_j1 at h
      refine Wp.srg [] [] ?_
      refine Runs.alln ?_
      refine Wp.fg ⟨[(4, .t (.bool true))], [], []⟩ ?_
      refine Wp.ret ?_
      have hr := Option.some.inj h
      subst hr
      exact RetK [.t (.bool true)] (.one (.t (.bool true))) [] kr kr (.refl _) .nil
    · refine Wp.srg [] [] ?_
      refine Runs.alln ?_
      refine Wp.fg ⟨[(0, .t (.sl 1 (p0.map (eInt .u8)))), (1, .t (.sl 1 (p1.map (eInt .u8)))), (4, .t (.bool false)), (5, .t (.int .i64 0))], [], []⟩ ?_
      refine Wp.block ?_
      refine Wp.loopF (α := (List Int) × (List Int) × Int) (fun a => ⟨[(0, .t (.sl 1 (a.1.map (eInt .u8)))), (1, .t (.sl 1 (a.2.1.map (eInt .u8)))), (4, .t (.bool false)), (5, .t (.int .i64 a.2.2))], [], []⟩) (fun k_laws_eqByteS_l2 a => laws_eqByteS_l2 u k_laws_eqByteS_l2 a.1 a.2.1 a.2.2 = some r) ?_ ?_ u (p0, p1, 0) h (Le.of (mo := []) (mr := []) kr kr kr kr)
      · intro a h; unfold laws_eqByteS_l2 at h; cases h
      · rintro k_laws_eqByteS_l2 ⟨p0, p1, x2⟩ h
        change laws_eqByteS_l2 u (k_laws_eqByteS_l2 + 1) p0 p1 x2 = some r at h
        rw [laws_eqByteS_l2] at h
        refine Wp.seq ?_
        refine Wp.srg [] [] ?_
        refine Runs.batch 2 kr ?_
        refine Runs.lenT (y := .t (.sl 1 (p0.map (eInt .u8)))) (e := 5) (eInt .u8) p0 1 rfl rfl rfl kr kr kr kr kr ?_
        refine Runs.alln ?_
        refine Wp.fg ⟨[(0, .t (.sl 1 (p0.map (eInt .u8)))), (1, .t (.sl 1 (p1.map (eInt .u8)))), (4, .t (.bool false)), (5, .t (.int .i64 x2)), (11, .t (.int .i64 x2)), (12, .t (.sl 1 (p0.map (eInt .u8)))), (13, .t (.int .i64 ((p0.length : Int)))), (14, .t (.bool (decide (x2 < ((p0.length : Int))))))], [], []⟩ ?_
        refine Wp.cond2 (b := decide (x2 < ((p0.length : Int)))) kr (fun hc => ?_) (fun hc => ?_)
        · have h := cond_t h hc
          refine Wp.skip ?_
          refine thenN ?_
          refine Wp.seq ?_
          refine Wp.block ?_
          refine Wp.seq ?_
          refine Wp.regionA (pOf []) (rhoOf [(0, .frz), (1, .frz), (5, .frz), (17, .frz), (18, .frz), (19, .frz), (20, .frz), (21, .frz), (22, .frz), (23, .frz), (24, .frz)]) kr kr ?_
          refine Runs.batch 2 kr ?_
          obtain ⟨y4, e_y4, h⟩ := bind_some h
          refine Runs.idxT (e := 5) (kk := .i64) (sz := 1) (eInt .u8) p0 x2 rfl kr kr kr kr kr kr e_y4 ?_
          refine Runs.batch 3 kr ?_
          obtain ⟨y5, e_y5, h⟩ := bind_some h
          refine Runs.idxT (e := 5) (kk := .i64) (sz := 1) (eInt .u8) p1 x2 rfl kr kr kr kr kr kr e_y5 ?_
          refine Runs.alln ?_
          refine Wp.fg ⟨[(0, .t (.sl 1 (p0.map (eInt .u8)))), (1, .t (.sl 1 (p1.map (eInt .u8)))), (4, .t (.bool false)), (5, .t (.int .i64 x2)), (11, .t (.int .i64 x2)), (12, .t (.sl 1 (p0.map (eInt .u8)))), (13, .t (.int .i64 ((p0.length : Int)))), (14, .t (.bool (decide (x2 < ((p0.length : Int)))))), (17, .t (.sl 1 (p0.map (eInt .u8)))), (18, .t (.int .i64 x2)), (19, .fadr [.int .u8 y4]), (20, .t (.int .u8 y4)), (21, .t (.sl 1 (p1.map (eInt .u8)))), (22, .t (.int .i64 x2)), (23, .fadr [.int .u8 y5]), (24, .t (.int .u8 y5)), (25, .t (.bool (y4 != y5)))], [], []⟩ ?_
          refine Wp.cond2 (b := y4 != y5) kr (fun hc => ?_) (fun hc => ?_)
          · have h := cond_t h hc
            refine Wp.srg [] [] ?_
            refine Runs.alln ?_
            refine Wp.fg ⟨[(0, .t (.sl 1 (p0.map (eInt .u8)))), (1, .t (.sl 1 (p1.map (eInt .u8)))), (4, .t (.bool false)), (5, .t (.int .i64 x2)), (11, .t (.int .i64 x2)), (12, .t (.sl 1 (p0.map (eInt .u8)))), (13, .t (.int .i64 ((p0.length : Int)))), (14, .t (.bool (decide (x2 < ((p0.length : Int)))))), (17, .t (.sl 1 (p0.map (eInt .u8)))), (18, .t (.int .i64 x2)), (19, .fadr [.int .u8 y4]), (20, .t (.int .u8 y4)), (21, .t (.sl 1 (p1.map (eInt .u8)))), (22, .t (.int .i64 x2)), (23, .fadr [.int .u8 y5]), (24, .t (.int .u8 y5)), (25, .t (.bool (y4 != y5)))], [], []⟩ ?_
            refine Wp.ret ?_
            refine blkR ?_
            refine thenR ?_
            refine thenR ?_
            refine blkR ?_
            refine thenR ?_
            have hr := Option.some.inj h
            subst hr
            exact RetK [.t (.bool false)] (.one (.t (.bool false))) [] kr kr (.refl _) .nil
          · have h := cond_f h hc
            refine Wp.skip ?_
            refine blkN ?_
            refine thenN ?_
            refine Wp.rg [] [] ?_
            refine Runs.alln ?_
            exact ⟨(p0, p1, bAdd .i64 x2 1), h, Le.of (mo := []) (mr := []) kr kr kr kr⟩
        · have h := cond_f h hc
          refine Wp.exit ?_
          refine thenE ?_
          refine thenE ?_
          refine blkE ?_
          refine thenN ?_
          exact ⟨(), h, Le.of (mo := []) (mr := []) kr kr kr kr⟩
theorem laws_eqImage_ok (u : Nat) (p0 : Image) (p1 : Image) (r : Bool) (h : laws_eqImage u p0 p1 = some r) : CallOK Tryz.prog 106 [.agg [.t (.sl 1 (p0.fB.map (eInt .u8)))], .agg [.t (.sl 1 (p1.fB.map (eInt .u8)))]] (.one (.t (.bool r))) [] := by
  unfold laws_eqImage at h
  refine CallOK.of_bodyK (fn := Tryz.f106) (m := false) [.agg [.t (.sl 1 (p0.fB.map (eInt .u8)))], .agg [.t (.sl 1 (p1.fB.map (eInt .u8)))]] kr rfl kr kr kr kr kr ?_
  refine Wp.srg [] [] ?_
  refine Runs.alln ?_
  refine Wp.fg ⟨[(2, .obj 2 0), (3, .obj 3 0), (4, .t (.bool false))], [(2, [.t (.sl 1 (p0.fB.map (eInt .u8)))]), (3, [.t (.sl 1 (p1.fB.map (eInt .u8)))])], []⟩ ?_
  refine Wp.seq ?_
  refine Wp.srg [] [] ?_
  refine Runs.batch 4 kr ?_
  obtain ⟨r1, e_r1, h⟩ := bind_some h
  refine Runs.callK false 9 54 [] [.t (.sl 1 (p0.fB.map (eInt .u8))), .t (.sl 1 (p1.fB.map (eInt .u8)))] [.one (.t (.sl 1 (p0.fB.map (eInt .u8)))), .one (.t (.sl 1 (p1.fB.map (eInt .u8))))] (.one (.t (.bool r1))) [] rfl rfl kr kr kr kr kr (laws_eqByteS_ok u p0.fB p1.fB r1 e_r1) kr ?_
  refine Runs.alln ?_
  refine Wp.fg ⟨[(4, .t (.bool false)), (10, .t (.bool (!r1)))], [], []⟩ ?_
  refine Wp.cond2 (b := !r1) kr (fun hc => ?_) (fun hc => ?_)
  · have h := cond_t h hc
    refine Wp.srg [] [] ?_
    refine Runs.alln ?_
    refine Wp.fg ⟨[(4, .t (.bool false))], [], []⟩ ?_
    refine Wp.ret ?_
    refine thenR ?_
    have hr := Option.some.inj h
    subst hr
    exact RetK [.t (.bool false)] (.one (.t (.bool false))) [] kr kr (.refl _) .nil
  · have h := cond_f h hc
    refine Wp.skip ?_
    refine thenN ?_
    refine Wp.srg [] [] ?_
    refine Runs.alln ?_
    refine Wp.fg ⟨[(4, .t (.bool true))], [], []⟩ ?_
    refine Wp.ret ?_
    have hr := Option.some.inj h
    subst hr
    exact RetK [.t (.bool true)] (.one (.t (.bool true))) [] kr kr (.refl _) .nil
theorem laws_eqImageS_ok (u : Nat) (p0 : List Image) (p1 : List Image) (r : Bool) (h : laws_eqImageS u p0 p1 = some r) : CallOK Tryz.prog 55 [.one (.t (.sl 1 (p0.map Image.enc))), .one (.t (.sl 1 (p1.map Image.enc)))] (.one (.t (.bool r))) [] := by
  unfold laws_eqImageS at h
  refine CallOK.of_bodyK (fn := Tryz.f55) (m := false) [.t (.sl 1 (p0.map Image.enc)), .t (.sl 1 (p1.map Image.enc))] kr rfl kr kr kr kr kr ?_
  refine Wp.srg [] [] ?_
  refine Runs.alln ?_
  refine Wp.fg ⟨[(0, .t (.sl 1 (p0.map Image.enc))), (1, .t (.sl 1 (p1.map Image.enc))), (4, .t (.bool false))], [], []⟩ ?_
  refine Wp.seq ?_
  refine Wp.srg [] [] ?_
  refine Runs.batch 1 kr ?_
  refine Runs.lenT (y := .t (.sl 1 (p0.map Image.enc))) (e := 89) Image.enc p0 1 rfl rfl rfl kr kr kr kr kr ?_
  refine Runs.batch 1 kr ?_
  refine Runs.lenT (y := .t (.sl 1 (p1.map Image.enc))) (e := 89) Image.enc p1 1 rfl rfl rfl kr kr kr kr kr ?_
  refine Runs.alln ?_
  refine Wp.fg ⟨[(0, .t (.sl 1 (p0.map Image.enc))), (1, .t (.sl 1 (p1.map Image.enc))), (4, .t (.bool false)), (10, .t (.bool (((p0.length : Int)) != ((p1.length : Int)))))], [], []⟩ ?_
  refine Wp.cond2 (b := ((p0.length : Int)) != ((p1.length : Int))) kr (fun hc => ?_) (fun hc => ?_)
  · have h := cond_t h hc
    refine Wp.srg [] [] ?_
    refine Runs.alln ?_
    refine Wp.fg ⟨[(0, .t (.sl 1 (p0.map Image.enc))), (1, .t (.sl 1 (p1.map Image.enc))), (4, .t (.bool false))], [], []⟩ ?_
    refine Wp.ret ?_
    refine thenR ?_
    have hr := Option.some.inj h
    subst hr
    exact RetK [.t (.bool false)] (.one (.t (.bool false))) [] kr kr (.refl _) .nil
  · have h := cond_f h hc
    refine Wp.skip ?_
    refine thenN ?_
    refine Wp.seqJ (α := Unit) (fun a => ⟨[(4, .t (.bool false))], [], []⟩) (fun a => laws_eqImageS_j1 u = some r) ?_ ?_
    · rintro ⟨⟩ h
      change laws_eqImageS_j1 u = some r at h
      unfold laws_eqImageS_j1 at h
      refine Wp.srg [] [] ?_
      refine Runs.alln ?_
      refine Wp.fg ⟨[(4, .t (.bool true))], [], []⟩ ?_
      refine Wp.ret ?_
      have hr := Option.some.inj h
      subst hr
      exact RetK [.t (.bool true)] (.one (.t (.bool true))) [] kr kr (.refl _) .nil
    · refine Wp.srg [] [] ?_
      refine Runs.alln ?_
      refine Wp.fg ⟨[(0, .t (.sl 1 (p0.map Image.enc))), (1, .t (.sl 1 (p1.map Image.enc))), (4, .t (.bool false)), (5, .t (.int .i64 0))], [], []⟩ ?_
      refine Wp.block ?_
      refine Wp.loopF (α := (List Image) × (List Image) × Int) (fun a => ⟨[(0, .t (.sl 1 (a.1.map Image.enc))), (1, .t (.sl 1 (a.2.1.map Image.enc))), (4, .t (.bool false)), (5, .t (.int .i64 a.2.2))], [], []⟩) (fun k_laws_eqImageS_l2 a => laws_eqImageS_l2 u k_laws_eqImageS_l2 a.1 a.2.1 a.2.2 = some r) ?_ ?_ u (p0, p1, 0) h (Le.of (mo := []) (mr := []) kr kr kr kr)
      · intro a h; unfold laws_eqImageS_l2 at h; cases h
      · rintro k_laws_eqImageS_l2 ⟨p0, p1, x2⟩ h
        change laws_eqImageS_l2 u (k_laws_eqImageS_l2 + 1) p0 p1 x2 = some r at h
        rw [laws_eqImageS_l2] at h
        refine Wp.seq ?_
        refine Wp.srg [] [] ?_
        refine Runs.batch 2 kr ?_
        refine Runs.lenT (y := .t (.sl 1 (p0.map Image.enc))) (e := 89) Image.enc p0 1 rfl rfl rfl kr kr kr kr kr ?_
        refine Runs.alln ?_
        refine Wp.fg ⟨[(0, .t (.sl 1 (p0.map Image.enc))), (1, .t (.sl 1 (p1.map Image.enc))), (4, .t (.bool false)), (5, .t (.int .i64 x2)), (11, .t (.int .i64 x2)), (12, .t (.sl 1 (p0.map Image.enc))), (13, .t (.int .i64 ((p0.length : Int)))), (14, .t (.bool (decide (x2 < ((p0.length : Int))))))], [], []⟩ ?_
        refine Wp.cond2 (b := decide (x2 < ((p0.length : Int)))) kr (fun hc => ?_) (fun hc => ?_)
        · have h := cond_t h hc
          refine Wp.skip ?_
          refine thenN ?_
          refine Wp.seq ?_
          refine Wp.block ?_
          refine Wp.seq ?_
          refine Wp.regionA (pOf []) (rhoOf [(0, .frz), (1, .frz), (5, .frz), (17, .frz), (18, .frz), (19, .frz), (20, .frz), (21, .frz), (22, .frz), (23, .frz), (24, .frz), (25, .frz)]) kr kr ?_
          refine Runs.batch 2 kr ?_
          obtain ⟨y4, e_y4, h⟩ := bind_some h
          refine Runs.idxT (e := 89) (kk := .i64) (sz := 1) Image.enc p0 x2 rfl kr kr kr kr kr kr e_y4 ?_
          refine Runs.batch 3 kr ?_
          obtain ⟨y5, e_y5, h⟩ := bind_some h
          refine Runs.idxT (e := 89) (kk := .i64) (sz := 1) Image.enc p1 x2 rfl kr kr kr kr kr kr e_y5 ?_
          refine Runs.batch 1 kr ?_
          obtain ⟨r6, e_r6, h⟩ := bind_some h
          refine Runs.callK false 25 106 [] [.agg [.t (.sl 1 (y4.fB.map (eInt .u8)))], .agg [.t (.sl 1 (y5.fB.map (eInt .u8)))]] [.agg [.t (.sl 1 (y4.fB.map (eInt .u8)))], .agg [.t (.sl 1 (y5.fB.map (eInt .u8)))]] (.one (.t (.bool r6))) [] rfl rfl kr kr kr kr kr (laws_eqImage_ok u y4 y5 r6 e_r6) kr ?_
          refine Runs.alln ?_
          refine Wp.fg ⟨[(0, .t (.sl 1 (p0.map Image.enc))), (1, .t (.sl 1 (p1.map Image.enc))), (4, .t (.bool false)), (5, .t (.int .i64 x2)), (11, .t (.int .i64 x2)), (12, .t (.sl 1 (p0.map Image.enc))), (13, .t (.int .i64 ((p0.length : Int)))), (14, .t (.bool (decide (x2 < ((p0.length : Int)))))), (17, .t (.sl 1 (p0.map Image.enc))), (18, .t (.int .i64 x2)), (19, .fadr [.sl 1 (y4.fB.map (eInt .u8))]), (20, .agg [.t (.sl 1 (y4.fB.map (eInt .u8)))]), (21, .t (.sl 1 (p1.map Image.enc))), (22, .t (.int .i64 x2)), (23, .fadr [.sl 1 (y5.fB.map (eInt .u8))]), (24, .agg [.t (.sl 1 (y5.fB.map (eInt .u8)))]), (25, .t (.bool r6)), (26, .t (.bool (!r6)))], [], []⟩ ?_
          refine Wp.cond2 (b := !r6) kr (fun hc => ?_) (fun hc => ?_)
          · have h := cond_t h hc
            refine Wp.srg [] [] ?_
            refine Runs.alln ?_
            refine Wp.fg ⟨[(0, .t (.sl 1 (p0.map Image.enc))), (1, .t (.sl 1 (p1.map Image.enc))), (4, .t (.bool false)), (5, .t (.int .i64 x2)), (11, .t (.int .i64 x2)), (12, .t (.sl 1 (p0.map Image.enc))), (13, .t (.int .i64 ((p0.length : Int)))), (14, .t (.bool (decide (x2 < ((p0.length : Int)))))), (17, .t (.sl 1 (p0.map Image.enc))), (18, .t (.int .i64 x2)), (19, .fadr [.sl 1 (y4.fB.map (eInt .u8))]), (20, .agg [.t (.sl 1 (y4.fB.map (eInt .u8)))]), (21, .t (.sl 1 (p1.map Image.enc))), (22, .t (.int .i64 x2)), (23, .fadr [.sl 1 (y5.fB.map (eInt .u8))]), (24, .agg [.t (.sl 1 (y5.fB.map (eInt .u8)))]), (25, .t (.bool r6)), (26, .t (.bool (!r6)))], [], []⟩ ?_
            refine Wp.ret ?_
            refine blkR ?_
            refine thenR ?_
            refine thenR ?_
            refine blkR ?_
            refine thenR ?_
            have hr := Option.some.inj h
            subst hr
            exact RetK [.t (.bool false)] (.one (.t (.bool false))) [] kr kr (.refl _) .nil
          · have h := cond_f h hc
            refine Wp.skip ?_
            refine blkN ?_
            refine thenN ?_
            refine Wp.rg [] [] ?_
            refine Runs.alln ?_
            exact ⟨(p0, p1, bAdd .i64 x2 1), h, Le.of (mo := []) (mr := []) kr kr kr kr⟩
        · have h := cond_f h hc
          refine Wp.exit ?_
          refine thenE ?_
          refine thenE ?_
          refine blkE ?_
          refine thenN ?_
          exact ⟨(), h, Le.of (mo := []) (mr := []) kr kr kr kr⟩
theorem laws_eqSum_ok (u : Nat) (p0 : Sum) (p1 : Sum) (r : Bool) (h : laws_eqSum u p0 p1 = some r) : CallOK Tryz.prog 203 [.agg [.t (.int .i64 p0.fW), .t (.int .i64 p0.fS)], .agg [.t (.int .i64 p1.fW), .t (.int .i64 p1.fS)]] (.one (.t (.bool r))) [] := by
  unfold laws_eqSum at h
  refine CallOK.of_bodyK (fn := Tryz.f203) (m := false) [.agg [.t (.int .i64 p0.fW), .t (.int .i64 p0.fS)], .agg [.t (.int .i64 p1.fW), .t (.int .i64 p1.fS)]] kr rfl kr kr kr kr kr ?_
  refine Wp.srg [] [] ?_
  refine Runs.alln ?_
  refine Wp.fg ⟨[(2, .obj 2 0), (3, .obj 3 0), (4, .t (.bool false))], [(2, [.t (.int .i64 p0.fW), .t (.int .i64 p0.fS)]), (3, [.t (.int .i64 p1.fW), .t (.int .i64 p1.fS)])], []⟩ ?_
  refine Wp.seq ?_
  refine Wp.srg [] [] ?_
  refine Runs.alln ?_
  refine Wp.fg ⟨[(2, .obj 2 0), (3, .obj 3 0), (4, .t (.bool false)), (9, .t (.bool (p0.fW != p1.fW)))], [(2, [.t (.int .i64 p0.fW), .t (.int .i64 p0.fS)]), (3, [.t (.int .i64 p1.fW), .t (.int .i64 p1.fS)])], []⟩ ?_
  refine Wp.cond2 (b := p0.fW != p1.fW) kr (fun hc => ?_) (fun hc => ?_)
  · have h := cond_t h hc
    refine Wp.srg [] [] ?_
    refine Runs.alln ?_
    refine Wp.fg ⟨[(2, .obj 2 0), (3, .obj 3 0), (4, .t (.bool false))], [(2, [.t (.int .i64 p0.fW), .t (.int .i64 p0.fS)]), (3, [.t (.int .i64 p1.fW), .t (.int .i64 p1.fS)])], []⟩ ?_
    refine Wp.ret ?_
    refine thenR ?_
    have hr := Option.some.inj h
    subst hr
    exact RetK [.t (.bool false)] (.one (.t (.bool false))) [] kr kr (.refl _) .nil
  · have h := cond_f h hc
    refine Wp.skip ?_
    refine thenN ?_
    refine Wp.seq ?_
    refine Wp.srg [] [] ?_
    refine Runs.alln ?_
    refine Wp.fg ⟨[(4, .t (.bool false)), (14, .t (.bool (p0.fS != p1.fS)))], [], []⟩ ?_
    refine Wp.cond2 (b := p0.fS != p1.fS) kr (fun hc => ?_) (fun hc => ?_)
    · have h := cond_t h hc
      refine Wp.srg [] [] ?_
      refine Runs.alln ?_
      refine Wp.fg ⟨[(4, .t (.bool false))], [], []⟩ ?_
      refine Wp.ret ?_
      refine thenR ?_
      have hr := Option.some.inj h
      subst hr
      exact RetK [.t (.bool false)] (.one (.t (.bool false))) [] kr kr (.refl _) .nil
    · have h := cond_f h hc
      refine Wp.skip ?_
      refine thenN ?_
      refine Wp.srg [] [] ?_
      refine Runs.alln ?_
      refine Wp.fg ⟨[(4, .t (.bool true))], [], []⟩ ?_
      refine Wp.ret ?_
      have hr := Option.some.inj h
      subst hr
      exact RetK [.t (.bool true)] (.one (.t (.bool true))) [] kr kr (.refl _) .nil
theorem laws_eqSumS_ok (u : Nat) (p0 : List Sum) (p1 : List Sum) (r : Bool) (h : laws_eqSumS u p0 p1 = some r) : CallOK Tryz.prog 178 [.one (.t (.sl 2 (p0.map Sum.enc))), .one (.t (.sl 2 (p1.map Sum.enc)))] (.one (.t (.bool r))) [] := by
  unfold laws_eqSumS at h
  refine CallOK.of_bodyK (fn := Tryz.f178) (m := false) [.t (.sl 2 (p0.map Sum.enc)), .t (.sl 2 (p1.map Sum.enc))] kr rfl kr kr kr kr kr ?_
  refine Wp.srg [] [] ?_
  refine Runs.alln ?_
  refine Wp.fg ⟨[(0, .t (.sl 2 (p0.map Sum.enc))), (1, .t (.sl 2 (p1.map Sum.enc))), (4, .t (.bool false))], [], []⟩ ?_
  refine Wp.seq ?_
  refine Wp.srg [] [] ?_
  refine Runs.batch 1 kr ?_
  refine Runs.lenT (y := .t (.sl 2 (p0.map Sum.enc))) (e := 184) Sum.enc p0 2 rfl rfl rfl kr kr kr kr kr ?_
  refine Runs.batch 1 kr ?_
  refine Runs.lenT (y := .t (.sl 2 (p1.map Sum.enc))) (e := 184) Sum.enc p1 2 rfl rfl rfl kr kr kr kr kr ?_
  refine Runs.alln ?_
  refine Wp.fg ⟨[(0, .t (.sl 2 (p0.map Sum.enc))), (1, .t (.sl 2 (p1.map Sum.enc))), (4, .t (.bool false)), (10, .t (.bool (((p0.length : Int)) != ((p1.length : Int)))))], [], []⟩ ?_
  refine Wp.cond2 (b := ((p0.length : Int)) != ((p1.length : Int))) kr (fun hc => ?_) (fun hc => ?_)
  · have h := cond_t h hc
    refine Wp.srg [] [] ?_
    refine Runs.alln ?_
    refine Wp.fg ⟨[(0, .t (.sl 2 (p0.map Sum.enc))), (1, .t (.sl 2 (p1.map Sum.enc))), (4, .t (.bool false))], [], []⟩ ?_
    refine Wp.ret ?_
    refine thenR ?_
    have hr := Option.some.inj h
    subst hr
    exact RetK [.t (.bool false)] (.one (.t (.bool false))) [] kr kr (.refl _) .nil
  · have h := cond_f h hc
    refine Wp.skip ?_
    refine thenN ?_
    refine Wp.seqJ (α := Unit) (fun a => ⟨[(4, .t (.bool false))], [], []⟩) (fun a => laws_eqSumS_j1 u = some r) ?_ ?_
    · rintro ⟨⟩ h
      change laws_eqSumS_j1 u = some r at h
      unfold laws_eqSumS_j1 at h
      refine Wp.srg [] [] ?_
      refine Runs.alln ?_
      refine Wp.fg ⟨[(4, .t (.bool true))], [], []⟩ ?_
      refine Wp.ret ?_
      have hr := Option.some.inj h
      subst hr
      exact RetK [.t (.bool true)] (.one (.t (.bool true))) [] kr kr (.refl _) .nil
    · refine Wp.srg [] [] ?_
      refine Runs.alln ?_
      refine Wp.fg ⟨[(0, .t (.sl 2 (p0.map Sum.enc))), (1, .t (.sl 2 (p1.map Sum.enc))), (4, .t (.bool false)), (5, .t (.int .i64 0))], [], []⟩ ?_
      refine Wp.block ?_
      refine Wp.loopF (α := (List Sum) × (List Sum) × Int) (fun a => ⟨[(0, .t (.sl 2 (a.1.map Sum.enc))), (1, .t (.sl 2 (a.2.1.map Sum.enc))), (4, .t (.bool false)), (5, .t (.int .i64 a.2.2))], [], []⟩) (fun k_laws_eqSumS_l2 a => laws_eqSumS_l2 u k_laws_eqSumS_l2 a.1 a.2.1 a.2.2 = some r) ?_ ?_ u (p0, p1, 0) h (Le.of (mo := []) (mr := []) kr kr kr kr)
      · intro a h; unfold laws_eqSumS_l2 at h; cases h
      · rintro k_laws_eqSumS_l2 ⟨p0, p1, x2⟩ h
        change laws_eqSumS_l2 u (k_laws_eqSumS_l2 + 1) p0 p1 x2 = some r at h
        rw [laws_eqSumS_l2] at h
        refine Wp.seq ?_
        refine Wp.srg [] [] ?_
        refine Runs.batch 2 kr ?_
        refine Runs.lenT (y := .t (.sl 2 (p0.map Sum.enc))) (e := 184) Sum.enc p0 2 rfl rfl rfl kr kr kr kr kr ?_
        refine Runs.alln ?_
        refine Wp.fg ⟨[(0, .t (.sl 2 (p0.map Sum.enc))), (1, .t (.sl 2 (p1.map Sum.enc))), (4, .t (.bool false)), (5, .t (.int .i64 x2)), (11, .t (.int .i64 x2)), (12, .t (.sl 2 (p0.map Sum.enc))), (13, .t (.int .i64 ((p0.length : Int)))), (14, .t (.bool (decide (x2 < ((p0.length : Int))))))], [], []⟩ ?_
        refine Wp.cond2 (b := decide (x2 < ((p0.length : Int)))) kr (fun hc => ?_) (fun hc => ?_)
        · have h := cond_t h hc
          refine Wp.skip ?_
          refine thenN ?_
          refine Wp.seq ?_
          refine Wp.block ?_
          refine Wp.seq ?_
          refine Wp.regionA (pOf []) (rhoOf [(0, .frz), (1, .frz), (5, .frz), (17, .frz), (18, .frz), (19, .frz), (20, .frz), (21, .frz), (22, .frz), (23, .frz), (24, .frz), (25, .frz)]) kr kr ?_
          refine Runs.batch 2 kr ?_
          obtain ⟨y4, e_y4, h⟩ := bind_some h
          refine Runs.idxT (e := 184) (kk := .i64) (sz := 2) Sum.enc p0 x2 rfl kr kr kr kr kr kr e_y4 ?_
          refine Runs.batch 3 kr ?_
          obtain ⟨y5, e_y5, h⟩ := bind_some h
          refine Runs.idxT (e := 184) (kk := .i64) (sz := 2) Sum.enc p1 x2 rfl kr kr kr kr kr kr e_y5 ?_
          refine Runs.batch 1 kr ?_
          obtain ⟨r6, e_r6, h⟩ := bind_some h
          refine Runs.callK false 25 203 [] [.agg [.t (.int .i64 y4.fW), .t (.int .i64 y4.fS)], .agg [.t (.int .i64 y5.fW), .t (.int .i64 y5.fS)]] [.agg [.t (.int .i64 y4.fW), .t (.int .i64 y4.fS)], .agg [.t (.int .i64 y5.fW), .t (.int .i64 y5.fS)]] (.one (.t (.bool r6))) [] rfl rfl kr kr kr kr kr (laws_eqSum_ok u y4 y5 r6 e_r6) kr ?_
          refine Runs.alln ?_
          refine Wp.fg ⟨[(0, .t (.sl 2 (p0.map Sum.enc))), (1, .t (.sl 2 (p1.map Sum.enc))), (4, .t (.bool false)), (5, .t (.int .i64 x2)), (11, .t (.int .i64 x2)), (12, .t (.sl 2 (p0.map Sum.enc))), (13, .t (.int .i64 ((p0.length : Int)))), (14, .t (.bool (decide (x2 < ((p0.length : Int)))))), (17, .t (.sl 2 (p0.map Sum.enc))), (18, .t (.int .i64 x2)), (19, .fadr [.int .i64 y4.fW, .int .i64 y4.fS]), (20, .agg [.t (.int .i64 y4.fW), .t (.int .i64 y4.fS)]), (21, .t (.sl 2 (p1.map Sum.enc))), (22, .t (.int .i64 x2)), (23, .fadr [.int .i64 y5.fW, .int .i64 y5.fS]), (24, .agg [.t (.int .i64 y5.fW), .t (.int .i64 y5.fS)]), (25, .t (.bool r6)), (26, .t (.bool (!r6)))], [], []⟩ ?_
          refine Wp.cond2 (b := !r6) kr (fun hc => ?_) (fun hc => ?_)
          · have h := cond_t h hc
            refine Wp.srg [] [] ?_
            refine Runs.alln ?_
            refine Wp.fg ⟨[(0, .t (.sl 2 (p0.map Sum.enc))), (1, .t (.sl 2 (p1.map Sum.enc))), (4, .t (.bool false)), (5, .t (.int .i64 x2)), (11, .t (.int .i64 x2)), (12, .t (.sl 2 (p0.map Sum.enc))), (13, .t (.int .i64 ((p0.length : Int)))), (14, .t (.bool (decide (x2 < ((p0.length : Int)))))), (17, .t (.sl 2 (p0.map Sum.enc))), (18, .t (.int .i64 x2)), (19, .fadr [.int .i64 y4.fW, .int .i64 y4.fS]), (20, .agg [.t (.int .i64 y4.fW), .t (.int .i64 y4.fS)]), (21, .t (.sl 2 (p1.map Sum.enc))), (22, .t (.int .i64 x2)), (23, .fadr [.int .i64 y5.fW, .int .i64 y5.fS]), (24, .agg [.t (.int .i64 y5.fW), .t (.int .i64 y5.fS)]), (25, .t (.bool r6)), (26, .t (.bool (!r6)))], [], []⟩ ?_
            refine Wp.ret ?_
            refine blkR ?_
            refine thenR ?_
            refine thenR ?_
            refine blkR ?_
            refine thenR ?_
            have hr := Option.some.inj h
            subst hr
            exact RetK [.t (.bool false)] (.one (.t (.bool false))) [] kr kr (.refl _) .nil
          · have h := cond_f h hc
            refine Wp.skip ?_
            refine blkN ?_
            refine thenN ?_
            refine Wp.rg [] [] ?_
            refine Runs.alln ?_
            exact ⟨(p0, p1, bAdd .i64 x2 1), h, Le.of (mo := []) (mr := []) kr kr kr kr⟩
        · have h := cond_f h hc
          refine Wp.exit ?_
          refine thenE ?_
          refine thenE ?_
          refine blkE ?_
          refine thenN ?_
          exact ⟨(), h, Le.of (mo := []) (mr := []) kr kr kr kr⟩
theorem laws_eqManifest_ok (u : Nat) (p0 : Manifest) (p1 : Manifest) (r : Bool) (h : laws_eqManifest u p0 p1 = some r) : CallOK Tryz.prog 145 [.agg [.t (.int .i64 p0.fGen), .t (.int .i64 p0.fSize), .t (.int .i64 p0.fLen), .t (.sl 2 (p0.fSums.map Sum.enc))], .agg [.t (.int .i64 p1.fGen), .t (.int .i64 p1.fSize), .t (.int .i64 p1.fLen), .t (.sl 2 (p1.fSums.map Sum.enc))]] (.one (.t (.bool r))) [] := by
  unfold laws_eqManifest at h
  refine CallOK.of_bodyK (fn := Tryz.f145) (m := false) [.agg ((Manifest.enc p0).map .t), .agg ((Manifest.enc p1).map .t)] kr rfl kr kr kr kr kr ?_
  refine Wp.srg [] [] ?_
  refine Runs.alln ?_
  refine Wp.fg ⟨[(2, .obj 2 0), (3, .obj 3 0), (4, .t (.bool false))], [(2, ((Manifest.enc p0).map .t)), (3, ((Manifest.enc p1).map .t))], []⟩ ?_
  refine Wp.seq ?_
  refine Wp.srg [] [] ?_
  refine Runs.alln ?_
  refine Wp.fg ⟨[(2, .obj 2 0), (3, .obj 3 0), (4, .t (.bool false)), (9, .t (.bool (p0.fGen != p1.fGen)))], [(2, ((Manifest.enc p0).map .t)), (3, ((Manifest.enc p1).map .t))], []⟩ ?_
  refine Wp.cond2 (b := p0.fGen != p1.fGen) kr (fun hc => ?_) (fun hc => ?_)
  · have h := cond_t h hc
    refine Wp.srg [] [] ?_
    refine Runs.alln ?_
    refine Wp.fg ⟨[(2, .obj 2 0), (3, .obj 3 0), (4, .t (.bool false))], [(2, ((Manifest.enc p0).map .t)), (3, ((Manifest.enc p1).map .t))], []⟩ ?_
    refine Wp.ret ?_
    refine thenR ?_
    have hr := Option.some.inj h
    subst hr
    exact RetK [.t (.bool false)] (.one (.t (.bool false))) [] kr kr (.refl _) .nil
  · have h := cond_f h hc
    refine Wp.skip ?_
    refine thenN ?_
    refine Wp.seq ?_
    refine Wp.srg [] [] ?_
    refine Runs.alln ?_
    refine Wp.fg ⟨[(2, .obj 2 0), (3, .obj 3 0), (4, .t (.bool false)), (14, .t (.bool (p0.fSize != p1.fSize)))], [(2, ((Manifest.enc p0).map .t)), (3, ((Manifest.enc p1).map .t))], []⟩ ?_
    refine Wp.cond2 (b := p0.fSize != p1.fSize) kr (fun hc => ?_) (fun hc => ?_)
    · have h := cond_t h hc
      refine Wp.srg [] [] ?_
      refine Runs.alln ?_
      refine Wp.fg ⟨[(2, .obj 2 0), (3, .obj 3 0), (4, .t (.bool false))], [(2, ((Manifest.enc p0).map .t)), (3, ((Manifest.enc p1).map .t))], []⟩ ?_
      refine Wp.ret ?_
      refine thenR ?_
      have hr := Option.some.inj h
      subst hr
      exact RetK [.t (.bool false)] (.one (.t (.bool false))) [] kr kr (.refl _) .nil
    · have h := cond_f h hc
      refine Wp.skip ?_
      refine thenN ?_
      refine Wp.seq ?_
      refine Wp.srg [] [] ?_
      refine Runs.alln ?_
      refine Wp.fg ⟨[(2, .obj 2 0), (3, .obj 3 0), (4, .t (.bool false)), (19, .t (.bool (p0.fLen != p1.fLen)))], [(2, ((Manifest.enc p0).map .t)), (3, ((Manifest.enc p1).map .t))], []⟩ ?_
      refine Wp.cond2 (b := p0.fLen != p1.fLen) kr (fun hc => ?_) (fun hc => ?_)
      · have h := cond_t h hc
        refine Wp.srg [] [] ?_
        refine Runs.alln ?_
        refine Wp.fg ⟨[(2, .obj 2 0), (3, .obj 3 0), (4, .t (.bool false))], [(2, ((Manifest.enc p0).map .t)), (3, ((Manifest.enc p1).map .t))], []⟩ ?_
        refine Wp.ret ?_
        refine thenR ?_
        have hr := Option.some.inj h
        subst hr
        exact RetK [.t (.bool false)] (.one (.t (.bool false))) [] kr kr (.refl _) .nil
      · have h := cond_f h hc
        refine Wp.skip ?_
        refine thenN ?_
        refine Wp.seq ?_
        refine Wp.srg [] [] ?_
        refine Runs.batch 4 kr ?_
        obtain ⟨r1, e_r1, h⟩ := bind_some h
        refine Runs.callK false 24 178 [] [.t (.sl 2 (p0.fSums.map Sum.enc)), .t (.sl 2 (p1.fSums.map Sum.enc))] [.one (.t (.sl 2 (p0.fSums.map Sum.enc))), .one (.t (.sl 2 (p1.fSums.map Sum.enc)))] (.one (.t (.bool r1))) [] rfl rfl kr kr kr kr kr (laws_eqSumS_ok u p0.fSums p1.fSums r1 e_r1) kr ?_
        refine Runs.alln ?_
        refine Wp.fg ⟨[(4, .t (.bool false)), (25, .t (.bool (!r1)))], [], []⟩ ?_
        refine Wp.cond2 (b := !r1) kr (fun hc => ?_) (fun hc => ?_)
        · have h := cond_t h hc
          refine Wp.srg [] [] ?_
          refine Runs.alln ?_
          refine Wp.fg ⟨[(4, .t (.bool false))], [], []⟩ ?_
          refine Wp.ret ?_
          refine thenR ?_
          have hr := Option.some.inj h
          subst hr
          exact RetK [.t (.bool false)] (.one (.t (.bool false))) [] kr kr (.refl _) .nil
        · have h := cond_f h hc
          refine Wp.skip ?_
          refine thenN ?_
          refine Wp.srg [] [] ?_
          refine Runs.alln ?_
          refine Wp.fg ⟨[(4, .t (.bool true))], [], []⟩ ?_
          refine Wp.ret ?_
          have hr := Option.some.inj h
          subst hr
          exact RetK [.t (.bool true)] (.one (.t (.bool true))) [] kr kr (.refl _) .nil
theorem laws_eqBuild_ok (u : Nat) (p0 : Build) (p1 : Build) (r : Bool) (h : laws_eqBuild u p0 p1 = some r) : CallOK Tryz.prog 146 [.agg [.t (.int .i64 p0.fHave), .t (.sl 1 (p0.fBuf.map (eInt .u8)))], .agg [.t (.int .i64 p1.fHave), .t (.sl 1 (p1.fBuf.map (eInt .u8)))]] (.one (.t (.bool r))) [] := by
  unfold laws_eqBuild at h
  refine CallOK.of_bodyK (fn := Tryz.f146) (m := false) [.agg [.t (.int .i64 p0.fHave), .t (.sl 1 (p0.fBuf.map (eInt .u8)))], .agg [.t (.int .i64 p1.fHave), .t (.sl 1 (p1.fBuf.map (eInt .u8)))]] kr rfl kr kr kr kr kr ?_
  refine Wp.srg [] [] ?_
  refine Runs.alln ?_
  refine Wp.fg ⟨[(2, .obj 2 0), (3, .obj 3 0), (4, .t (.bool false))], [(2, [.t (.int .i64 p0.fHave), .t (.sl 1 (p0.fBuf.map (eInt .u8)))]), (3, [.t (.int .i64 p1.fHave), .t (.sl 1 (p1.fBuf.map (eInt .u8)))])], []⟩ ?_
  refine Wp.seq ?_
  refine Wp.srg [] [] ?_
  refine Runs.alln ?_
  refine Wp.fg ⟨[(2, .obj 2 0), (3, .obj 3 0), (4, .t (.bool false)), (9, .t (.bool (p0.fHave != p1.fHave)))], [(2, [.t (.int .i64 p0.fHave), .t (.sl 1 (p0.fBuf.map (eInt .u8)))]), (3, [.t (.int .i64 p1.fHave), .t (.sl 1 (p1.fBuf.map (eInt .u8)))])], []⟩ ?_
  refine Wp.cond2 (b := p0.fHave != p1.fHave) kr (fun hc => ?_) (fun hc => ?_)
  · have h := cond_t h hc
    refine Wp.srg [] [] ?_
    refine Runs.alln ?_
    refine Wp.fg ⟨[(2, .obj 2 0), (3, .obj 3 0), (4, .t (.bool false))], [(2, [.t (.int .i64 p0.fHave), .t (.sl 1 (p0.fBuf.map (eInt .u8)))]), (3, [.t (.int .i64 p1.fHave), .t (.sl 1 (p1.fBuf.map (eInt .u8)))])], []⟩ ?_
    refine Wp.ret ?_
    refine thenR ?_
    have hr := Option.some.inj h
    subst hr
    exact RetK [.t (.bool false)] (.one (.t (.bool false))) [] kr kr (.refl _) .nil
  · have h := cond_f h hc
    refine Wp.skip ?_
    refine thenN ?_
    refine Wp.seq ?_
    refine Wp.srg [] [] ?_
    refine Runs.batch 4 kr ?_
    obtain ⟨r1, e_r1, h⟩ := bind_some h
    refine Runs.callK false 14 54 [] [.t (.sl 1 (p0.fBuf.map (eInt .u8))), .t (.sl 1 (p1.fBuf.map (eInt .u8)))] [.one (.t (.sl 1 (p0.fBuf.map (eInt .u8)))), .one (.t (.sl 1 (p1.fBuf.map (eInt .u8))))] (.one (.t (.bool r1))) [] rfl rfl kr kr kr kr kr (laws_eqByteS_ok u p0.fBuf p1.fBuf r1 e_r1) kr ?_
    refine Runs.alln ?_
    refine Wp.fg ⟨[(4, .t (.bool false)), (15, .t (.bool (!r1)))], [], []⟩ ?_
    refine Wp.cond2 (b := !r1) kr (fun hc => ?_) (fun hc => ?_)
    · have h := cond_t h hc
      refine Wp.srg [] [] ?_
      refine Runs.alln ?_
      refine Wp.fg ⟨[(4, .t (.bool false))], [], []⟩ ?_
      refine Wp.ret ?_
      refine thenR ?_
      have hr := Option.some.inj h
      subst hr
      exact RetK [.t (.bool false)] (.one (.t (.bool false))) [] kr kr (.refl _) .nil
    · have h := cond_f h hc
      refine Wp.skip ?_
      refine thenN ?_
      refine Wp.srg [] [] ?_
      refine Runs.alln ?_
      refine Wp.fg ⟨[(4, .t (.bool true))], [], []⟩ ?_
      refine Wp.ret ?_
      have hr := Option.some.inj h
      subst hr
      exact RetK [.t (.bool true)] (.one (.t (.bool true))) [] kr kr (.refl _) .nil
theorem laws_eqKid_ok (u : Nat) (p0 : Kid) (p1 : Kid) (r : Bool) (h : laws_eqKid u p0 p1 = some r) : CallOK Tryz.prog 179 [.agg [.t (.int .i64 p0.fId), .t (.int .i64 p0.fWant), .t (.int .i64 p0.fDone), .t (.int .i64 p0.fAge), .t (.int .i64 p0.fSent)], .agg [.t (.int .i64 p1.fId), .t (.int .i64 p1.fWant), .t (.int .i64 p1.fDone), .t (.int .i64 p1.fAge), .t (.int .i64 p1.fSent)]] (.one (.t (.bool r))) [] := by
  unfold laws_eqKid at h
  refine CallOK.of_bodyK (fn := Tryz.f179) (m := false) [.agg ((Kid.enc p0).map .t), .agg ((Kid.enc p1).map .t)] kr rfl kr kr kr kr kr ?_
  refine Wp.srg [] [] ?_
  refine Runs.alln ?_
  refine Wp.fg ⟨[(2, .obj 2 0), (3, .obj 3 0), (4, .t (.bool false))], [(2, ((Kid.enc p0).map .t)), (3, ((Kid.enc p1).map .t))], []⟩ ?_
  refine Wp.seq ?_
  refine Wp.srg [] [] ?_
  refine Runs.alln ?_
  refine Wp.fg ⟨[(2, .obj 2 0), (3, .obj 3 0), (4, .t (.bool false)), (9, .t (.bool (p0.fId != p1.fId)))], [(2, ((Kid.enc p0).map .t)), (3, ((Kid.enc p1).map .t))], []⟩ ?_
  refine Wp.cond2 (b := p0.fId != p1.fId) kr (fun hc => ?_) (fun hc => ?_)
  · have h := cond_t h hc
    refine Wp.srg [] [] ?_
    refine Runs.alln ?_
    refine Wp.fg ⟨[(2, .obj 2 0), (3, .obj 3 0), (4, .t (.bool false))], [(2, ((Kid.enc p0).map .t)), (3, ((Kid.enc p1).map .t))], []⟩ ?_
    refine Wp.ret ?_
    refine thenR ?_
    have hr := Option.some.inj h
    subst hr
    exact RetK [.t (.bool false)] (.one (.t (.bool false))) [] kr kr (.refl _) .nil
  · have h := cond_f h hc
    refine Wp.skip ?_
    refine thenN ?_
    refine Wp.seq ?_
    refine Wp.srg [] [] ?_
    refine Runs.alln ?_
    refine Wp.fg ⟨[(2, .obj 2 0), (3, .obj 3 0), (4, .t (.bool false)), (14, .t (.bool (p0.fWant != p1.fWant)))], [(2, ((Kid.enc p0).map .t)), (3, ((Kid.enc p1).map .t))], []⟩ ?_
    refine Wp.cond2 (b := p0.fWant != p1.fWant) kr (fun hc => ?_) (fun hc => ?_)
    · have h := cond_t h hc
      refine Wp.srg [] [] ?_
      refine Runs.alln ?_
      refine Wp.fg ⟨[(2, .obj 2 0), (3, .obj 3 0), (4, .t (.bool false))], [(2, ((Kid.enc p0).map .t)), (3, ((Kid.enc p1).map .t))], []⟩ ?_
      refine Wp.ret ?_
      refine thenR ?_
      have hr := Option.some.inj h
      subst hr
      exact RetK [.t (.bool false)] (.one (.t (.bool false))) [] kr kr (.refl _) .nil
    · have h := cond_f h hc
      refine Wp.skip ?_
      refine thenN ?_
      refine Wp.seq ?_
      refine Wp.srg [] [] ?_
      refine Runs.alln ?_
      refine Wp.fg ⟨[(2, .obj 2 0), (3, .obj 3 0), (4, .t (.bool false)), (19, .t (.bool (p0.fDone != p1.fDone)))], [(2, ((Kid.enc p0).map .t)), (3, ((Kid.enc p1).map .t))], []⟩ ?_
      refine Wp.cond2 (b := p0.fDone != p1.fDone) kr (fun hc => ?_) (fun hc => ?_)
      · have h := cond_t h hc
        refine Wp.srg [] [] ?_
        refine Runs.alln ?_
        refine Wp.fg ⟨[(2, .obj 2 0), (3, .obj 3 0), (4, .t (.bool false))], [(2, ((Kid.enc p0).map .t)), (3, ((Kid.enc p1).map .t))], []⟩ ?_
        refine Wp.ret ?_
        refine thenR ?_
        have hr := Option.some.inj h
        subst hr
        exact RetK [.t (.bool false)] (.one (.t (.bool false))) [] kr kr (.refl _) .nil
      · have h := cond_f h hc
        refine Wp.skip ?_
        refine thenN ?_
        refine Wp.seq ?_
        refine Wp.srg [] [] ?_
        refine Runs.alln ?_
        refine Wp.fg ⟨[(2, .obj 2 0), (3, .obj 3 0), (4, .t (.bool false)), (24, .t (.bool (p0.fAge != p1.fAge)))], [(2, ((Kid.enc p0).map .t)), (3, ((Kid.enc p1).map .t))], []⟩ ?_
        refine Wp.cond2 (b := p0.fAge != p1.fAge) kr (fun hc => ?_) (fun hc => ?_)
        · have h := cond_t h hc
          refine Wp.srg [] [] ?_
          refine Runs.alln ?_
          refine Wp.fg ⟨[(2, .obj 2 0), (3, .obj 3 0), (4, .t (.bool false))], [(2, ((Kid.enc p0).map .t)), (3, ((Kid.enc p1).map .t))], []⟩ ?_
          refine Wp.ret ?_
          refine thenR ?_
          have hr := Option.some.inj h
          subst hr
          exact RetK [.t (.bool false)] (.one (.t (.bool false))) [] kr kr (.refl _) .nil
        · have h := cond_f h hc
          refine Wp.skip ?_
          refine thenN ?_
          refine Wp.seq ?_
          refine Wp.srg [] [] ?_
          refine Runs.alln ?_
          refine Wp.fg ⟨[(4, .t (.bool false)), (29, .t (.bool (p0.fSent != p1.fSent)))], [], []⟩ ?_
          refine Wp.cond2 (b := p0.fSent != p1.fSent) kr (fun hc => ?_) (fun hc => ?_)
          · have h := cond_t h hc
            refine Wp.srg [] [] ?_
            refine Runs.alln ?_
            refine Wp.fg ⟨[(4, .t (.bool false))], [], []⟩ ?_
            refine Wp.ret ?_
            refine thenR ?_
            have hr := Option.some.inj h
            subst hr
            exact RetK [.t (.bool false)] (.one (.t (.bool false))) [] kr kr (.refl _) .nil
          · have h := cond_f h hc
            refine Wp.skip ?_
            refine thenN ?_
            refine Wp.srg [] [] ?_
            refine Runs.alln ?_
            refine Wp.fg ⟨[(4, .t (.bool true))], [], []⟩ ?_
            refine Wp.ret ?_
            have hr := Option.some.inj h
            subst hr
            exact RetK [.t (.bool true)] (.one (.t (.bool true))) [] kr kr (.refl _) .nil
theorem laws_eqKidS_ok (u : Nat) (p0 : List Kid) (p1 : List Kid) (r : Bool) (h : laws_eqKidS u p0 p1 = some r) : CallOK Tryz.prog 147 [.one (.t (.sl 5 (p0.map Kid.enc))), .one (.t (.sl 5 (p1.map Kid.enc)))] (.one (.t (.bool r))) [] := by
  unfold laws_eqKidS at h
  refine CallOK.of_bodyK (fn := Tryz.f147) (m := false) [.t (.sl 5 (p0.map Kid.enc)), .t (.sl 5 (p1.map Kid.enc))] kr rfl kr kr kr kr kr ?_
  refine Wp.srg [] [] ?_
  refine Runs.alln ?_
  refine Wp.fg ⟨[(0, .t (.sl 5 (p0.map Kid.enc))), (1, .t (.sl 5 (p1.map Kid.enc))), (4, .t (.bool false))], [], []⟩ ?_
  refine Wp.seq ?_
  refine Wp.srg [] [] ?_
  refine Runs.batch 1 kr ?_
  refine Runs.lenT (y := .t (.sl 5 (p0.map Kid.enc))) (e := 175) Kid.enc p0 5 rfl rfl rfl kr kr kr kr kr ?_
  refine Runs.batch 1 kr ?_
  refine Runs.lenT (y := .t (.sl 5 (p1.map Kid.enc))) (e := 175) Kid.enc p1 5 rfl rfl rfl kr kr kr kr kr ?_
  refine Runs.alln ?_
  refine Wp.fg ⟨[(0, .t (.sl 5 (p0.map Kid.enc))), (1, .t (.sl 5 (p1.map Kid.enc))), (4, .t (.bool false)), (10, .t (.bool (((p0.length : Int)) != ((p1.length : Int)))))], [], []⟩ ?_
  refine Wp.cond2 (b := ((p0.length : Int)) != ((p1.length : Int))) kr (fun hc => ?_) (fun hc => ?_)
  · have h := cond_t h hc
    refine Wp.srg [] [] ?_
    refine Runs.alln ?_
    refine Wp.fg ⟨[(0, .t (.sl 5 (p0.map Kid.enc))), (1, .t (.sl 5 (p1.map Kid.enc))), (4, .t (.bool false))], [], []⟩ ?_
    refine Wp.ret ?_
    refine thenR ?_
    have hr := Option.some.inj h
    subst hr
    exact RetK [.t (.bool false)] (.one (.t (.bool false))) [] kr kr (.refl _) .nil
  · have h := cond_f h hc
    refine Wp.skip ?_
    refine thenN ?_
    refine Wp.seqJ (α := Unit) (fun a => ⟨[(4, .t (.bool false))], [], []⟩) (fun a => laws_eqKidS_j1 u = some r) ?_ ?_
    · rintro ⟨⟩ h
      change laws_eqKidS_j1 u = some r at h
      unfold laws_eqKidS_j1 at h
      refine Wp.srg [] [] ?_
      refine Runs.alln ?_
      refine Wp.fg ⟨[(4, .t (.bool true))], [], []⟩ ?_
      refine Wp.ret ?_
      have hr := Option.some.inj h
      subst hr
      exact RetK [.t (.bool true)] (.one (.t (.bool true))) [] kr kr (.refl _) .nil
    · refine Wp.srg [] [] ?_
      refine Runs.alln ?_
      refine Wp.fg ⟨[(0, .t (.sl 5 (p0.map Kid.enc))), (1, .t (.sl 5 (p1.map Kid.enc))), (4, .t (.bool false)), (5, .t (.int .i64 0))], [], []⟩ ?_
      refine Wp.block ?_
      refine Wp.loopF (α := (List Kid) × (List Kid) × Int) (fun a => ⟨[(0, .t (.sl 5 (a.1.map Kid.enc))), (1, .t (.sl 5 (a.2.1.map Kid.enc))), (4, .t (.bool false)), (5, .t (.int .i64 a.2.2))], [], []⟩) (fun k_laws_eqKidS_l2 a => laws_eqKidS_l2 u k_laws_eqKidS_l2 a.1 a.2.1 a.2.2 = some r) ?_ ?_ u (p0, p1, 0) h (Le.of (mo := []) (mr := []) kr kr kr kr)
      · intro a h; unfold laws_eqKidS_l2 at h; cases h
      · rintro k_laws_eqKidS_l2 ⟨p0, p1, x2⟩ h
        change laws_eqKidS_l2 u (k_laws_eqKidS_l2 + 1) p0 p1 x2 = some r at h
        rw [laws_eqKidS_l2] at h
        refine Wp.seq ?_
        refine Wp.srg [] [] ?_
        refine Runs.batch 2 kr ?_
        refine Runs.lenT (y := .t (.sl 5 (p0.map Kid.enc))) (e := 175) Kid.enc p0 5 rfl rfl rfl kr kr kr kr kr ?_
        refine Runs.alln ?_
        refine Wp.fg ⟨[(0, .t (.sl 5 (p0.map Kid.enc))), (1, .t (.sl 5 (p1.map Kid.enc))), (4, .t (.bool false)), (5, .t (.int .i64 x2)), (11, .t (.int .i64 x2)), (12, .t (.sl 5 (p0.map Kid.enc))), (13, .t (.int .i64 ((p0.length : Int)))), (14, .t (.bool (decide (x2 < ((p0.length : Int))))))], [], []⟩ ?_
        refine Wp.cond2 (b := decide (x2 < ((p0.length : Int)))) kr (fun hc => ?_) (fun hc => ?_)
        · have h := cond_t h hc
          refine Wp.skip ?_
          refine thenN ?_
          refine Wp.seq ?_
          refine Wp.block ?_
          refine Wp.seq ?_
          refine Wp.regionA (pOf []) (rhoOf [(0, .frz), (1, .frz), (5, .frz), (17, .frz), (18, .frz), (19, .frz), (20, .frz), (21, .frz), (22, .frz), (23, .frz), (24, .frz), (25, .frz)]) kr kr ?_
          refine Runs.batch 2 kr ?_
          obtain ⟨y4, e_y4, h⟩ := bind_some h
          refine Runs.idxT (e := 175) (kk := .i64) (sz := 5) Kid.enc p0 x2 rfl kr kr kr kr kr kr e_y4 ?_
          refine Runs.batch 3 kr ?_
          obtain ⟨y5, e_y5, h⟩ := bind_some h
          refine Runs.idxT (e := 175) (kk := .i64) (sz := 5) Kid.enc p1 x2 rfl kr kr kr kr kr kr e_y5 ?_
          refine Runs.batch 1 kr ?_
          obtain ⟨r6, e_r6, h⟩ := bind_some h
          refine Runs.callK false 25 179 [] [.agg ((Kid.enc y4).map .t), .agg ((Kid.enc y5).map .t)] [.agg ((Kid.enc y4).map .t), .agg ((Kid.enc y5).map .t)] (.one (.t (.bool r6))) [] rfl rfl kr kr kr kr kr (laws_eqKid_ok u y4 y5 r6 e_r6) kr ?_
          refine Runs.alln ?_
          refine Wp.fg ⟨[(0, .t (.sl 5 (p0.map Kid.enc))), (1, .t (.sl 5 (p1.map Kid.enc))), (4, .t (.bool false)), (5, .t (.int .i64 x2)), (11, .t (.int .i64 x2)), (12, .t (.sl 5 (p0.map Kid.enc))), (13, .t (.int .i64 ((p0.length : Int)))), (14, .t (.bool (decide (x2 < ((p0.length : Int)))))), (17, .t (.sl 5 (p0.map Kid.enc))), (18, .t (.int .i64 x2)), (19, .fadr (Kid.enc y4)), (20, .agg ((Kid.enc y4).map .t)), (21, .t (.sl 5 (p1.map Kid.enc))), (22, .t (.int .i64 x2)), (23, .fadr (Kid.enc y5)), (24, .agg ((Kid.enc y5).map .t)), (25, .t (.bool r6)), (26, .t (.bool (!r6)))], [], []⟩ ?_
          refine Wp.cond2 (b := !r6) kr (fun hc => ?_) (fun hc => ?_)
          · have h := cond_t h hc
            refine Wp.srg [] [] ?_
            refine Runs.alln ?_
            refine Wp.fg ⟨[(0, .t (.sl 5 (p0.map Kid.enc))), (1, .t (.sl 5 (p1.map Kid.enc))), (4, .t (.bool false)), (5, .t (.int .i64 x2)), (11, .t (.int .i64 x2)), (12, .t (.sl 5 (p0.map Kid.enc))), (13, .t (.int .i64 ((p0.length : Int)))), (14, .t (.bool (decide (x2 < ((p0.length : Int)))))), (17, .t (.sl 5 (p0.map Kid.enc))), (18, .t (.int .i64 x2)), (19, .fadr (Kid.enc y4)), (20, .agg ((Kid.enc y4).map .t)), (21, .t (.sl 5 (p1.map Kid.enc))), (22, .t (.int .i64 x2)), (23, .fadr (Kid.enc y5)), (24, .agg ((Kid.enc y5).map .t)), (25, .t (.bool r6)), (26, .t (.bool (!r6)))], [], []⟩ ?_
            refine Wp.ret ?_
            refine blkR ?_
            refine thenR ?_
            refine thenR ?_
            refine blkR ?_
            refine thenR ?_
            have hr := Option.some.inj h
            subst hr
            exact RetK [.t (.bool false)] (.one (.t (.bool false))) [] kr kr (.refl _) .nil
          · have h := cond_f h hc
            refine Wp.skip ?_
            refine blkN ?_
            refine thenN ?_
            refine Wp.rg [] [] ?_
            refine Runs.alln ?_
            exact ⟨(p0, p1, bAdd .i64 x2 1), h, Le.of (mo := []) (mr := []) kr kr kr kr⟩
        · have h := cond_f h hc
          refine Wp.exit ?_
          refine thenE ?_
          refine thenE ?_
          refine blkE ?_
          refine thenN ?_
          exact ⟨(), h, Le.of (mo := []) (mr := []) kr kr kr kr⟩
theorem laws_eqNode_ok (u : Nat) (p0 : Node) (p1 : Node) (r : Bool) (h : laws_eqNode u p0 p1 = some r) : CallOK Tryz.prog 107 [.agg [.t (.bool p0.fOn), .t (.int .i64 p0.fBoss), .t (.int .i64 p0.fQuiet), .t (.int .i64 p0.fMan.fGen), .t (.int .i64 p0.fMan.fSize), .t (.int .i64 p0.fMan.fLen), .t (.sl 2 (p0.fMan.fSums.map Sum.enc)), .t (.int .i64 p0.fBld.fHave), .t (.sl 1 (p0.fBld.fBuf.map (eInt .u8))), .t (.int .i64 p0.fPhase), .t (.sl 5 (p0.fKids.map Kid.enc)), .t (.int .i64 p0.fDrops)], .agg [.t (.bool p1.fOn), .t (.int .i64 p1.fBoss), .t (.int .i64 p1.fQuiet), .t (.int .i64 p1.fMan.fGen), .t (.int .i64 p1.fMan.fSize), .t (.int .i64 p1.fMan.fLen), .t (.sl 2 (p1.fMan.fSums.map Sum.enc)), .t (.int .i64 p1.fBld.fHave), .t (.sl 1 (p1.fBld.fBuf.map (eInt .u8))), .t (.int .i64 p1.fPhase), .t (.sl 5 (p1.fKids.map Kid.enc)), .t (.int .i64 p1.fDrops)]] (.one (.t (.bool r))) [] := by
  unfold laws_eqNode at h
  refine CallOK.of_bodyK (fn := Tryz.f107) (m := false) [.agg ((Node.enc p0).map .t), .agg ((Node.enc p1).map .t)] kr rfl kr kr kr kr kr ?_
  refine Wp.srg [] [] ?_
  refine Runs.alln ?_
  refine Wp.fg ⟨[(2, .obj 2 0), (3, .obj 3 0), (4, .t (.bool false))], [(2, ((Node.enc p0).map .t)), (3, ((Node.enc p1).map .t))], []⟩ ?_
  refine Wp.seq ?_
  refine Wp.srg [] [] ?_
  refine Runs.alln ?_
  refine Wp.fg ⟨[(2, .obj 2 0), (3, .obj 3 0), (4, .t (.bool false)), (9, .t (.bool (!(p0.fOn == p1.fOn))))], [(2, ((Node.enc p0).map .t)), (3, ((Node.enc p1).map .t))], []⟩ ?_
  refine Wp.cond2 (b := !(p0.fOn == p1.fOn)) kr (fun hc => ?_) (fun hc => ?_)
  · have h := cond_t h hc
    refine Wp.srg [] [] ?_
    refine Runs.alln ?_
    refine Wp.fg ⟨[(2, .obj 2 0), (3, .obj 3 0), (4, .t (.bool false))], [(2, ((Node.enc p0).map .t)), (3, ((Node.enc p1).map .t))], []⟩ ?_
    refine Wp.ret ?_
    refine thenR ?_
    have hr := Option.some.inj h
    subst hr
    exact RetK [.t (.bool false)] (.one (.t (.bool false))) [] kr kr (.refl _) .nil
  · have h := cond_f h hc
    refine Wp.skip ?_
    refine thenN ?_
    refine Wp.seq ?_
    refine Wp.srg [] [] ?_
    refine Runs.alln ?_
    refine Wp.fg ⟨[(2, .obj 2 0), (3, .obj 3 0), (4, .t (.bool false)), (14, .t (.bool (p0.fBoss != p1.fBoss)))], [(2, ((Node.enc p0).map .t)), (3, ((Node.enc p1).map .t))], []⟩ ?_
    refine Wp.cond2 (b := p0.fBoss != p1.fBoss) kr (fun hc => ?_) (fun hc => ?_)
    · have h := cond_t h hc
      refine Wp.srg [] [] ?_
      refine Runs.alln ?_
      refine Wp.fg ⟨[(2, .obj 2 0), (3, .obj 3 0), (4, .t (.bool false))], [(2, ((Node.enc p0).map .t)), (3, ((Node.enc p1).map .t))], []⟩ ?_
      refine Wp.ret ?_
      refine thenR ?_
      have hr := Option.some.inj h
      subst hr
      exact RetK [.t (.bool false)] (.one (.t (.bool false))) [] kr kr (.refl _) .nil
    · have h := cond_f h hc
      refine Wp.skip ?_
      refine thenN ?_
      refine Wp.seq ?_
      refine Wp.srg [] [] ?_
      refine Runs.alln ?_
      refine Wp.fg ⟨[(2, .obj 2 0), (3, .obj 3 0), (4, .t (.bool false)), (19, .t (.bool (p0.fQuiet != p1.fQuiet)))], [(2, ((Node.enc p0).map .t)), (3, ((Node.enc p1).map .t))], []⟩ ?_
      refine Wp.cond2 (b := p0.fQuiet != p1.fQuiet) kr (fun hc => ?_) (fun hc => ?_)
      · have h := cond_t h hc
        refine Wp.srg [] [] ?_
        refine Runs.alln ?_
        refine Wp.fg ⟨[(2, .obj 2 0), (3, .obj 3 0), (4, .t (.bool false))], [(2, ((Node.enc p0).map .t)), (3, ((Node.enc p1).map .t))], []⟩ ?_
        refine Wp.ret ?_
        refine thenR ?_
        have hr := Option.some.inj h
        subst hr
        exact RetK [.t (.bool false)] (.one (.t (.bool false))) [] kr kr (.refl _) .nil
      · have h := cond_f h hc
        refine Wp.skip ?_
        refine thenN ?_
        refine Wp.seq ?_
        refine Wp.srg [] [] ?_
        refine Runs.batch 4 kr ?_
        obtain ⟨r1, e_r1, h⟩ := bind_some h
        refine Runs.callK false 24 145 [] [.agg ((Manifest.enc p0.fMan).map .t), .agg ((Manifest.enc p1.fMan).map .t)] [.agg ((Manifest.enc p0.fMan).map .t), .agg ((Manifest.enc p1.fMan).map .t)] (.one (.t (.bool r1))) [] rfl rfl kr kr kr kr kr (laws_eqManifest_ok u p0.fMan p1.fMan r1 e_r1) kr ?_
        refine Runs.alln ?_
        refine Wp.fg ⟨[(2, .obj 2 0), (3, .obj 3 0), (4, .t (.bool false)), (25, .t (.bool (!r1)))], [(2, ((Node.enc p0).map .t)), (3, ((Node.enc p1).map .t))], []⟩ ?_
        refine Wp.cond2 (b := !r1) kr (fun hc => ?_) (fun hc => ?_)
        · have h := cond_t h hc
          refine Wp.srg [] [] ?_
          refine Runs.alln ?_
          refine Wp.fg ⟨[(2, .obj 2 0), (3, .obj 3 0), (4, .t (.bool false))], [(2, ((Node.enc p0).map .t)), (3, ((Node.enc p1).map .t))], []⟩ ?_
          refine Wp.ret ?_
          refine thenR ?_
          have hr := Option.some.inj h
          subst hr
          exact RetK [.t (.bool false)] (.one (.t (.bool false))) [] kr kr (.refl _) .nil
        · have h := cond_f h hc
          refine Wp.skip ?_
          refine thenN ?_
          refine Wp.seq ?_
          refine Wp.srg [] [] ?_
          refine Runs.batch 4 kr ?_
          obtain ⟨r2, e_r2, h⟩ := bind_some h
          refine Runs.callK false 30 146 [] [.agg [.t (.int .i64 p0.fBld.fHave), .t (.sl 1 (p0.fBld.fBuf.map (eInt .u8)))], .agg [.t (.int .i64 p1.fBld.fHave), .t (.sl 1 (p1.fBld.fBuf.map (eInt .u8)))]] [.agg [.t (.int .i64 p0.fBld.fHave), .t (.sl 1 (p0.fBld.fBuf.map (eInt .u8)))], .agg [.t (.int .i64 p1.fBld.fHave), .t (.sl 1 (p1.fBld.fBuf.map (eInt .u8)))]] (.one (.t (.bool r2))) [] rfl rfl kr kr kr kr kr (laws_eqBuild_ok u p0.fBld p1.fBld r2 e_r2) kr ?_
          refine Runs.alln ?_
          refine Wp.fg ⟨[(2, .obj 2 0), (3, .obj 3 0), (4, .t (.bool false)), (31, .t (.bool (!r2)))], [(2, ((Node.enc p0).map .t)), (3, ((Node.enc p1).map .t))], []⟩ ?_
          refine Wp.cond2 (b := !r2) kr (fun hc => ?_) (fun hc => ?_)
          · have h := cond_t h hc
            refine Wp.srg [] [] ?_
            refine Runs.alln ?_
            refine Wp.fg ⟨[(2, .obj 2 0), (3, .obj 3 0), (4, .t (.bool false))], [(2, ((Node.enc p0).map .t)), (3, ((Node.enc p1).map .t))], []⟩ ?_
            refine Wp.ret ?_
            refine thenR ?_
            have hr := Option.some.inj h
            subst hr
            exact RetK [.t (.bool false)] (.one (.t (.bool false))) [] kr kr (.refl _) .nil
          · have h := cond_f h hc
            refine Wp.skip ?_
            refine thenN ?_
            refine Wp.seq ?_
            refine Wp.srg [] [] ?_
            refine Runs.alln ?_
            refine Wp.fg ⟨[(2, .obj 2 0), (3, .obj 3 0), (4, .t (.bool false)), (36, .t (.bool (p0.fPhase != p1.fPhase)))], [(2, ((Node.enc p0).map .t)), (3, ((Node.enc p1).map .t))], []⟩ ?_
            refine Wp.cond2 (b := p0.fPhase != p1.fPhase) kr (fun hc => ?_) (fun hc => ?_)
            · have h := cond_t h hc
              refine Wp.srg [] [] ?_
              refine Runs.alln ?_
              refine Wp.fg ⟨[(2, .obj 2 0), (3, .obj 3 0), (4, .t (.bool false))], [(2, ((Node.enc p0).map .t)), (3, ((Node.enc p1).map .t))], []⟩ ?_
              refine Wp.ret ?_
              refine thenR ?_
              have hr := Option.some.inj h
              subst hr
              exact RetK [.t (.bool false)] (.one (.t (.bool false))) [] kr kr (.refl _) .nil
            · have h := cond_f h hc
              refine Wp.skip ?_
              refine thenN ?_
              refine Wp.seq ?_
              refine Wp.srg [] [] ?_
              refine Runs.batch 4 kr ?_
              obtain ⟨r3, e_r3, h⟩ := bind_some h
              refine Runs.callK false 41 147 [] [.t (.sl 5 (p0.fKids.map Kid.enc)), .t (.sl 5 (p1.fKids.map Kid.enc))] [.one (.t (.sl 5 (p0.fKids.map Kid.enc))), .one (.t (.sl 5 (p1.fKids.map Kid.enc)))] (.one (.t (.bool r3))) [] rfl rfl kr kr kr kr kr (laws_eqKidS_ok u p0.fKids p1.fKids r3 e_r3) kr ?_
              refine Runs.alln ?_
              refine Wp.fg ⟨[(2, .obj 2 0), (3, .obj 3 0), (4, .t (.bool false)), (42, .t (.bool (!r3)))], [(2, ((Node.enc p0).map .t)), (3, ((Node.enc p1).map .t))], []⟩ ?_
              refine Wp.cond2 (b := !r3) kr (fun hc => ?_) (fun hc => ?_)
              · have h := cond_t h hc
                refine Wp.srg [] [] ?_
                refine Runs.alln ?_
                refine Wp.fg ⟨[(2, .obj 2 0), (3, .obj 3 0), (4, .t (.bool false))], [(2, ((Node.enc p0).map .t)), (3, ((Node.enc p1).map .t))], []⟩ ?_
                refine Wp.ret ?_
                refine thenR ?_
                have hr := Option.some.inj h
                subst hr
                exact RetK [.t (.bool false)] (.one (.t (.bool false))) [] kr kr (.refl _) .nil
              · have h := cond_f h hc
                refine Wp.skip ?_
                refine thenN ?_
                refine Wp.seq ?_
                refine Wp.srg [] [] ?_
                refine Runs.alln ?_
                refine Wp.fg ⟨[(4, .t (.bool false)), (47, .t (.bool (p0.fDrops != p1.fDrops)))], [], []⟩ ?_
                refine Wp.cond2 (b := p0.fDrops != p1.fDrops) kr (fun hc => ?_) (fun hc => ?_)
                · have h := cond_t h hc
                  refine Wp.srg [] [] ?_
                  refine Runs.alln ?_
                  refine Wp.fg ⟨[(4, .t (.bool false))], [], []⟩ ?_
                  refine Wp.ret ?_
                  refine thenR ?_
                  have hr := Option.some.inj h
                  subst hr
                  exact RetK [.t (.bool false)] (.one (.t (.bool false))) [] kr kr (.refl _) .nil
                · have h := cond_f h hc
                  refine Wp.skip ?_
                  refine thenN ?_
                  refine Wp.srg [] [] ?_
                  refine Runs.alln ?_
                  refine Wp.fg ⟨[(4, .t (.bool true))], [], []⟩ ?_
                  refine Wp.ret ?_
                  have hr := Option.some.inj h
                  subst hr
                  exact RetK [.t (.bool true)] (.one (.t (.bool true))) [] kr kr (.refl _) .nil
theorem laws_eqNodeS_ok (u : Nat) (p0 : List Node) (p1 : List Node) (r : Bool) (h : laws_eqNodeS u p0 p1 = some r) : CallOK Tryz.prog 56 [.one (.t (.sl 12 (p0.map Node.enc))), .one (.t (.sl 12 (p1.map Node.enc)))] (.one (.t (.bool r))) [] := by
  unfold laws_eqNodeS at h
  refine CallOK.of_bodyK (fn := Tryz.f56) (m := false) [.t (.sl 12 (p0.map Node.enc)), .t (.sl 12 (p1.map Node.enc))] kr rfl kr kr kr kr kr ?_
  refine Wp.srg [] [] ?_
  refine Runs.alln ?_
  refine Wp.fg ⟨[(0, .t (.sl 12 (p0.map Node.enc))), (1, .t (.sl 12 (p1.map Node.enc))), (4, .t (.bool false))], [], []⟩ ?_
  refine Wp.seq ?_
  refine Wp.srg [] [] ?_
  refine Runs.batch 1 kr ?_
  refine Runs.lenT (y := .t (.sl 12 (p0.map Node.enc))) (e := 97) Node.enc p0 12 rfl rfl rfl kr kr kr kr kr ?_
  refine Runs.batch 1 kr ?_
  refine Runs.lenT (y := .t (.sl 12 (p1.map Node.enc))) (e := 97) Node.enc p1 12 rfl rfl rfl kr kr kr kr kr ?_
  refine Runs.alln ?_
  refine Wp.fg ⟨[(0, .t (.sl 12 (p0.map Node.enc))), (1, .t (.sl 12 (p1.map Node.enc))), (4, .t (.bool false)), (10, .t (.bool (((p0.length : Int)) != ((p1.length : Int)))))], [], []⟩ ?_
  refine Wp.cond2 (b := ((p0.length : Int)) != ((p1.length : Int))) kr (fun hc => ?_) (fun hc => ?_)
  · have h := cond_t h hc
    refine Wp.srg [] [] ?_
    refine Runs.alln ?_
    refine Wp.fg ⟨[(0, .t (.sl 12 (p0.map Node.enc))), (1, .t (.sl 12 (p1.map Node.enc))), (4, .t (.bool false))], [], []⟩ ?_
    refine Wp.ret ?_
    refine thenR ?_
    have hr := Option.some.inj h
    subst hr
    exact RetK [.t (.bool false)] (.one (.t (.bool false))) [] kr kr (.refl _) .nil
  · have h := cond_f h hc
    refine Wp.skip ?_
    refine thenN ?_
    refine Wp.seqJ (α := Unit) (fun a => ⟨[(4, .t (.bool false))], [], []⟩) (fun a => laws_eqNodeS_j1 u = some r) ?_ ?_
    · rintro ⟨⟩ h
      change laws_eqNodeS_j1 u = some r at h
      unfold laws_eqNodeS_j1 at h
      refine Wp.srg [] [] ?_
      refine Runs.alln ?_
      refine Wp.fg ⟨[(4, .t (.bool true))], [], []⟩ ?_
      refine Wp.ret ?_
      have hr := Option.some.inj h
      subst hr
      exact RetK [.t (.bool true)] (.one (.t (.bool true))) [] kr kr (.refl _) .nil
    · refine Wp.srg [] [] ?_
      refine Runs.alln ?_
      refine Wp.fg ⟨[(0, .t (.sl 12 (p0.map Node.enc))), (1, .t (.sl 12 (p1.map Node.enc))), (4, .t (.bool false)), (5, .t (.int .i64 0))], [], []⟩ ?_
      refine Wp.block ?_
      refine Wp.loopF (α := (List Node) × (List Node) × Int) (fun a => ⟨[(0, .t (.sl 12 (a.1.map Node.enc))), (1, .t (.sl 12 (a.2.1.map Node.enc))), (4, .t (.bool false)), (5, .t (.int .i64 a.2.2))], [], []⟩) (fun k_laws_eqNodeS_l2 a => laws_eqNodeS_l2 u k_laws_eqNodeS_l2 a.1 a.2.1 a.2.2 = some r) ?_ ?_ u (p0, p1, 0) h (Le.of (mo := []) (mr := []) kr kr kr kr)
      · intro a h; unfold laws_eqNodeS_l2 at h; cases h
      · rintro k_laws_eqNodeS_l2 ⟨p0, p1, x2⟩ h
        change laws_eqNodeS_l2 u (k_laws_eqNodeS_l2 + 1) p0 p1 x2 = some r at h
        rw [laws_eqNodeS_l2] at h
        refine Wp.seq ?_
        refine Wp.srg [] [] ?_
        refine Runs.batch 2 kr ?_
        refine Runs.lenT (y := .t (.sl 12 (p0.map Node.enc))) (e := 97) Node.enc p0 12 rfl rfl rfl kr kr kr kr kr ?_
        refine Runs.alln ?_
        refine Wp.fg ⟨[(0, .t (.sl 12 (p0.map Node.enc))), (1, .t (.sl 12 (p1.map Node.enc))), (4, .t (.bool false)), (5, .t (.int .i64 x2)), (11, .t (.int .i64 x2)), (12, .t (.sl 12 (p0.map Node.enc))), (13, .t (.int .i64 ((p0.length : Int)))), (14, .t (.bool (decide (x2 < ((p0.length : Int))))))], [], []⟩ ?_
        refine Wp.cond2 (b := decide (x2 < ((p0.length : Int)))) kr (fun hc => ?_) (fun hc => ?_)
        · have h := cond_t h hc
          refine Wp.skip ?_
          refine thenN ?_
          refine Wp.seq ?_
          refine Wp.block ?_
          refine Wp.seq ?_
          refine Wp.regionA (pOf []) (rhoOf [(0, .frz), (1, .frz), (5, .frz), (17, .frz), (18, .frz), (19, .frz), (20, .frz), (21, .frz), (22, .frz), (23, .frz), (24, .frz), (25, .frz)]) kr kr ?_
          refine Runs.batch 2 kr ?_
          obtain ⟨y4, e_y4, h⟩ := bind_some h
          refine Runs.idxT (e := 97) (kk := .i64) (sz := 12) Node.enc p0 x2 rfl kr kr kr kr kr kr e_y4 ?_
          refine Runs.batch 3 kr ?_
          obtain ⟨y5, e_y5, h⟩ := bind_some h
          refine Runs.idxT (e := 97) (kk := .i64) (sz := 12) Node.enc p1 x2 rfl kr kr kr kr kr kr e_y5 ?_
          refine Runs.batch 1 kr ?_
          obtain ⟨r6, e_r6, h⟩ := bind_some h
          refine Runs.callK false 25 107 [] [.agg ((Node.enc y4).map .t), .agg ((Node.enc y5).map .t)] [.agg ((Node.enc y4).map .t), .agg ((Node.enc y5).map .t)] (.one (.t (.bool r6))) [] rfl rfl kr kr kr kr kr (laws_eqNode_ok u y4 y5 r6 e_r6) kr ?_
          refine Runs.alln ?_
          refine Wp.fg ⟨[(0, .t (.sl 12 (p0.map Node.enc))), (1, .t (.sl 12 (p1.map Node.enc))), (4, .t (.bool false)), (5, .t (.int .i64 x2)), (11, .t (.int .i64 x2)), (12, .t (.sl 12 (p0.map Node.enc))), (13, .t (.int .i64 ((p0.length : Int)))), (14, .t (.bool (decide (x2 < ((p0.length : Int)))))), (17, .t (.sl 12 (p0.map Node.enc))), (18, .t (.int .i64 x2)), (19, .fadr (Node.enc y4)), (20, .agg ((Node.enc y4).map .t)), (21, .t (.sl 12 (p1.map Node.enc))), (22, .t (.int .i64 x2)), (23, .fadr (Node.enc y5)), (24, .agg ((Node.enc y5).map .t)), (25, .t (.bool r6)), (26, .t (.bool (!r6)))], [], []⟩ ?_
          refine Wp.cond2 (b := !r6) kr (fun hc => ?_) (fun hc => ?_)
          · have h := cond_t h hc
            refine Wp.srg [] [] ?_
            refine Runs.alln ?_
            refine Wp.fg ⟨[(0, .t (.sl 12 (p0.map Node.enc))), (1, .t (.sl 12 (p1.map Node.enc))), (4, .t (.bool false)), (5, .t (.int .i64 x2)), (11, .t (.int .i64 x2)), (12, .t (.sl 12 (p0.map Node.enc))), (13, .t (.int .i64 ((p0.length : Int)))), (14, .t (.bool (decide (x2 < ((p0.length : Int)))))), (17, .t (.sl 12 (p0.map Node.enc))), (18, .t (.int .i64 x2)), (19, .fadr (Node.enc y4)), (20, .agg ((Node.enc y4).map .t)), (21, .t (.sl 12 (p1.map Node.enc))), (22, .t (.int .i64 x2)), (23, .fadr (Node.enc y5)), (24, .agg ((Node.enc y5).map .t)), (25, .t (.bool r6)), (26, .t (.bool (!r6)))], [], []⟩ ?_
            refine Wp.ret ?_
            refine blkR ?_
            refine thenR ?_
            refine thenR ?_
            refine blkR ?_
            refine thenR ?_
            have hr := Option.some.inj h
            subst hr
            exact RetK [.t (.bool false)] (.one (.t (.bool false))) [] kr kr (.refl _) .nil
          · have h := cond_f h hc
            refine Wp.skip ?_
            refine blkN ?_
            refine thenN ?_
            refine Wp.rg [] [] ?_
            refine Runs.alln ?_
            exact ⟨(p0, p1, bAdd .i64 x2 1), h, Le.of (mo := []) (mr := []) kr kr kr kr⟩
        · have h := cond_f h hc
          refine Wp.exit ?_
          refine thenE ?_
          refine thenE ?_
          refine blkE ?_
          refine thenN ?_
          exact ⟨(), h, Le.of (mo := []) (mr := []) kr kr kr kr⟩
theorem laws_eqRecord_ok (u : Nat) (p0 : Record) (p1 : Record) (r : Bool) (h : laws_eqRecord u p0 p1 = some r) : CallOK Tryz.prog 148 [.agg [.t (.int .i64 p0.fGen), .t (.int .i64 p0.fSlot), .t (.int .i64 p0.fLen)], .agg [.t (.int .i64 p1.fGen), .t (.int .i64 p1.fSlot), .t (.int .i64 p1.fLen)]] (.one (.t (.bool r))) [] := by
  unfold laws_eqRecord at h
  refine CallOK.of_bodyK (fn := Tryz.f148) (m := false) [.agg ((Record.enc p0).map .t), .agg ((Record.enc p1).map .t)] kr rfl kr kr kr kr kr ?_
  refine Wp.srg [] [] ?_
  refine Runs.alln ?_
  refine Wp.fg ⟨[(2, .obj 2 0), (3, .obj 3 0), (4, .t (.bool false))], [(2, ((Record.enc p0).map .t)), (3, ((Record.enc p1).map .t))], []⟩ ?_
  refine Wp.seq ?_
  refine Wp.srg [] [] ?_
  refine Runs.alln ?_
  refine Wp.fg ⟨[(2, .obj 2 0), (3, .obj 3 0), (4, .t (.bool false)), (9, .t (.bool (p0.fGen != p1.fGen)))], [(2, ((Record.enc p0).map .t)), (3, ((Record.enc p1).map .t))], []⟩ ?_
  refine Wp.cond2 (b := p0.fGen != p1.fGen) kr (fun hc => ?_) (fun hc => ?_)
  · have h := cond_t h hc
    refine Wp.srg [] [] ?_
    refine Runs.alln ?_
    refine Wp.fg ⟨[(2, .obj 2 0), (3, .obj 3 0), (4, .t (.bool false))], [(2, ((Record.enc p0).map .t)), (3, ((Record.enc p1).map .t))], []⟩ ?_
    refine Wp.ret ?_
    refine thenR ?_
    have hr := Option.some.inj h
    subst hr
    exact RetK [.t (.bool false)] (.one (.t (.bool false))) [] kr kr (.refl _) .nil
  · have h := cond_f h hc
    refine Wp.skip ?_
    refine thenN ?_
    refine Wp.seq ?_
    refine Wp.srg [] [] ?_
    refine Runs.alln ?_
    refine Wp.fg ⟨[(2, .obj 2 0), (3, .obj 3 0), (4, .t (.bool false)), (14, .t (.bool (p0.fSlot != p1.fSlot)))], [(2, ((Record.enc p0).map .t)), (3, ((Record.enc p1).map .t))], []⟩ ?_
    refine Wp.cond2 (b := p0.fSlot != p1.fSlot) kr (fun hc => ?_) (fun hc => ?_)
    · have h := cond_t h hc
      refine Wp.srg [] [] ?_
      refine Runs.alln ?_
      refine Wp.fg ⟨[(2, .obj 2 0), (3, .obj 3 0), (4, .t (.bool false))], [(2, ((Record.enc p0).map .t)), (3, ((Record.enc p1).map .t))], []⟩ ?_
      refine Wp.ret ?_
      refine thenR ?_
      have hr := Option.some.inj h
      subst hr
      exact RetK [.t (.bool false)] (.one (.t (.bool false))) [] kr kr (.refl _) .nil
    · have h := cond_f h hc
      refine Wp.skip ?_
      refine thenN ?_
      refine Wp.seq ?_
      refine Wp.srg [] [] ?_
      refine Runs.alln ?_
      refine Wp.fg ⟨[(4, .t (.bool false)), (19, .t (.bool (p0.fLen != p1.fLen)))], [], []⟩ ?_
      refine Wp.cond2 (b := p0.fLen != p1.fLen) kr (fun hc => ?_) (fun hc => ?_)
      · have h := cond_t h hc
        refine Wp.srg [] [] ?_
        refine Runs.alln ?_
        refine Wp.fg ⟨[(4, .t (.bool false))], [], []⟩ ?_
        refine Wp.ret ?_
        refine thenR ?_
        have hr := Option.some.inj h
        subst hr
        exact RetK [.t (.bool false)] (.one (.t (.bool false))) [] kr kr (.refl _) .nil
      · have h := cond_f h hc
        refine Wp.skip ?_
        refine thenN ?_
        refine Wp.srg [] [] ?_
        refine Runs.alln ?_
        refine Wp.fg ⟨[(4, .t (.bool true))], [], []⟩ ?_
        refine Wp.ret ?_
        have hr := Option.some.inj h
        subst hr
        exact RetK [.t (.bool true)] (.one (.t (.bool true))) [] kr kr (.refl _) .nil
theorem laws_eqPut_ok (u : Nat) (p0 : Put) (p1 : Put) (r : Bool) (h : laws_eqPut u p0 p1 = some r) : CallOK Tryz.prog 180 [.agg [.t (.int .i64 p0.fWhat), .t (.int .i64 p0.fAt), .t (.sl 1 (p0.fB.map (eInt .u8))), .t (.int .i64 p0.fR.fGen), .t (.int .i64 p0.fR.fSlot), .t (.int .i64 p0.fR.fLen)], .agg [.t (.int .i64 p1.fWhat), .t (.int .i64 p1.fAt), .t (.sl 1 (p1.fB.map (eInt .u8))), .t (.int .i64 p1.fR.fGen), .t (.int .i64 p1.fR.fSlot), .t (.int .i64 p1.fR.fLen)]] (.one (.t (.bool r))) [] := by
  unfold laws_eqPut at h
  refine CallOK.of_bodyK (fn := Tryz.f180) (m := false) [.agg ((Put.enc p0).map .t), .agg ((Put.enc p1).map .t)] kr rfl kr kr kr kr kr ?_
  refine Wp.srg [] [] ?_
  refine Runs.alln ?_
  refine Wp.fg ⟨[(2, .obj 2 0), (3, .obj 3 0), (4, .t (.bool false))], [(2, ((Put.enc p0).map .t)), (3, ((Put.enc p1).map .t))], []⟩ ?_
  refine Wp.seq ?_
  refine Wp.srg [] [] ?_
  refine Runs.alln ?_
  refine Wp.fg ⟨[(2, .obj 2 0), (3, .obj 3 0), (4, .t (.bool false)), (9, .t (.bool (p0.fWhat != p1.fWhat)))], [(2, ((Put.enc p0).map .t)), (3, ((Put.enc p1).map .t))], []⟩ ?_
  refine Wp.cond2 (b := p0.fWhat != p1.fWhat) kr (fun hc => ?_) (fun hc => ?_)
  · have h := cond_t h hc
    refine Wp.srg [] [] ?_
    refine Runs.alln ?_
    refine Wp.fg ⟨[(2, .obj 2 0), (3, .obj 3 0), (4, .t (.bool false))], [(2, ((Put.enc p0).map .t)), (3, ((Put.enc p1).map .t))], []⟩ ?_
    refine Wp.ret ?_
    refine thenR ?_
    have hr := Option.some.inj h
    subst hr
    exact RetK [.t (.bool false)] (.one (.t (.bool false))) [] kr kr (.refl _) .nil
  · have h := cond_f h hc
    refine Wp.skip ?_
    refine thenN ?_
    refine Wp.seq ?_
    refine Wp.srg [] [] ?_
    refine Runs.alln ?_
    refine Wp.fg ⟨[(2, .obj 2 0), (3, .obj 3 0), (4, .t (.bool false)), (14, .t (.bool (p0.fAt != p1.fAt)))], [(2, ((Put.enc p0).map .t)), (3, ((Put.enc p1).map .t))], []⟩ ?_
    refine Wp.cond2 (b := p0.fAt != p1.fAt) kr (fun hc => ?_) (fun hc => ?_)
    · have h := cond_t h hc
      refine Wp.srg [] [] ?_
      refine Runs.alln ?_
      refine Wp.fg ⟨[(2, .obj 2 0), (3, .obj 3 0), (4, .t (.bool false))], [(2, ((Put.enc p0).map .t)), (3, ((Put.enc p1).map .t))], []⟩ ?_
      refine Wp.ret ?_
      refine thenR ?_
      have hr := Option.some.inj h
      subst hr
      exact RetK [.t (.bool false)] (.one (.t (.bool false))) [] kr kr (.refl _) .nil
    · have h := cond_f h hc
      refine Wp.skip ?_
      refine thenN ?_
      refine Wp.seq ?_
      refine Wp.srg [] [] ?_
      refine Runs.batch 4 kr ?_
      obtain ⟨r1, e_r1, h⟩ := bind_some h
      refine Runs.callK false 19 54 [] [.t (.sl 1 (p0.fB.map (eInt .u8))), .t (.sl 1 (p1.fB.map (eInt .u8)))] [.one (.t (.sl 1 (p0.fB.map (eInt .u8)))), .one (.t (.sl 1 (p1.fB.map (eInt .u8))))] (.one (.t (.bool r1))) [] rfl rfl kr kr kr kr kr (laws_eqByteS_ok u p0.fB p1.fB r1 e_r1) kr ?_
      refine Runs.alln ?_
      refine Wp.fg ⟨[(2, .obj 2 0), (3, .obj 3 0), (4, .t (.bool false)), (20, .t (.bool (!r1)))], [(2, ((Put.enc p0).map .t)), (3, ((Put.enc p1).map .t))], []⟩ ?_
      refine Wp.cond2 (b := !r1) kr (fun hc => ?_) (fun hc => ?_)
      · have h := cond_t h hc
        refine Wp.srg [] [] ?_
        refine Runs.alln ?_
        refine Wp.fg ⟨[(2, .obj 2 0), (3, .obj 3 0), (4, .t (.bool false))], [(2, ((Put.enc p0).map .t)), (3, ((Put.enc p1).map .t))], []⟩ ?_
        refine Wp.ret ?_
        refine thenR ?_
        have hr := Option.some.inj h
        subst hr
        exact RetK [.t (.bool false)] (.one (.t (.bool false))) [] kr kr (.refl _) .nil
      · have h := cond_f h hc
        refine Wp.skip ?_
        refine thenN ?_
        refine Wp.seq ?_
        refine Wp.srg [] [] ?_
        refine Runs.batch 4 kr ?_
        obtain ⟨r2, e_r2, h⟩ := bind_some h
        refine Runs.callK false 25 148 [] [.agg ((Record.enc p0.fR).map .t), .agg ((Record.enc p1.fR).map .t)] [.agg ((Record.enc p0.fR).map .t), .agg ((Record.enc p1.fR).map .t)] (.one (.t (.bool r2))) [] rfl rfl kr kr kr kr kr (laws_eqRecord_ok u p0.fR p1.fR r2 e_r2) kr ?_
        refine Runs.alln ?_
        refine Wp.fg ⟨[(4, .t (.bool false)), (26, .t (.bool (!r2)))], [], []⟩ ?_
        refine Wp.cond2 (b := !r2) kr (fun hc => ?_) (fun hc => ?_)
        · have h := cond_t h hc
          refine Wp.srg [] [] ?_
          refine Runs.alln ?_
          refine Wp.fg ⟨[(4, .t (.bool false))], [], []⟩ ?_
          refine Wp.ret ?_
          refine thenR ?_
          have hr := Option.some.inj h
          subst hr
          exact RetK [.t (.bool false)] (.one (.t (.bool false))) [] kr kr (.refl _) .nil
        · have h := cond_f h hc
          refine Wp.skip ?_
          refine thenN ?_
          refine Wp.srg [] [] ?_
          refine Runs.alln ?_
          refine Wp.fg ⟨[(4, .t (.bool true))], [], []⟩ ?_
          refine Wp.ret ?_
          have hr := Option.some.inj h
          subst hr
          exact RetK [.t (.bool true)] (.one (.t (.bool true))) [] kr kr (.refl _) .nil
theorem laws_eqPutS_ok (u : Nat) (p0 : List Put) (p1 : List Put) (r : Bool) (h : laws_eqPutS u p0 p1 = some r) : CallOK Tryz.prog 149 [.one (.t (.sl 6 (p0.map Put.enc))), .one (.t (.sl 6 (p1.map Put.enc)))] (.one (.t (.bool r))) [] := by
  unfold laws_eqPutS at h
  refine CallOK.of_bodyK (fn := Tryz.f149) (m := false) [.t (.sl 6 (p0.map Put.enc)), .t (.sl 6 (p1.map Put.enc))] kr rfl kr kr kr kr kr ?_
  refine Wp.srg [] [] ?_
  refine Runs.alln ?_
  refine Wp.fg ⟨[(0, .t (.sl 6 (p0.map Put.enc))), (1, .t (.sl 6 (p1.map Put.enc))), (4, .t (.bool false))], [], []⟩ ?_
  refine Wp.seq ?_
  refine Wp.srg [] [] ?_
  refine Runs.batch 1 kr ?_
  refine Runs.lenT (y := .t (.sl 6 (p0.map Put.enc))) (e := 186) Put.enc p0 6 rfl rfl rfl kr kr kr kr kr ?_
  refine Runs.batch 1 kr ?_
  refine Runs.lenT (y := .t (.sl 6 (p1.map Put.enc))) (e := 186) Put.enc p1 6 rfl rfl rfl kr kr kr kr kr ?_
  refine Runs.alln ?_
  refine Wp.fg ⟨[(0, .t (.sl 6 (p0.map Put.enc))), (1, .t (.sl 6 (p1.map Put.enc))), (4, .t (.bool false)), (10, .t (.bool (((p0.length : Int)) != ((p1.length : Int)))))], [], []⟩ ?_
  refine Wp.cond2 (b := ((p0.length : Int)) != ((p1.length : Int))) kr (fun hc => ?_) (fun hc => ?_)
  · have h := cond_t h hc
    refine Wp.srg [] [] ?_
    refine Runs.alln ?_
    refine Wp.fg ⟨[(0, .t (.sl 6 (p0.map Put.enc))), (1, .t (.sl 6 (p1.map Put.enc))), (4, .t (.bool false))], [], []⟩ ?_
    refine Wp.ret ?_
    refine thenR ?_
    have hr := Option.some.inj h
    subst hr
    exact RetK [.t (.bool false)] (.one (.t (.bool false))) [] kr kr (.refl _) .nil
  · have h := cond_f h hc
    refine Wp.skip ?_
    refine thenN ?_
    refine Wp.seqJ (α := Unit) (fun a => ⟨[(4, .t (.bool false))], [], []⟩) (fun a => laws_eqPutS_j1 u = some r) ?_ ?_
    · rintro ⟨⟩ h
      change laws_eqPutS_j1 u = some r at h
      unfold laws_eqPutS_j1 at h
      refine Wp.srg [] [] ?_
      refine Runs.alln ?_
      refine Wp.fg ⟨[(4, .t (.bool true))], [], []⟩ ?_
      refine Wp.ret ?_
      have hr := Option.some.inj h
      subst hr
      exact RetK [.t (.bool true)] (.one (.t (.bool true))) [] kr kr (.refl _) .nil
    · refine Wp.srg [] [] ?_
      refine Runs.alln ?_
      refine Wp.fg ⟨[(0, .t (.sl 6 (p0.map Put.enc))), (1, .t (.sl 6 (p1.map Put.enc))), (4, .t (.bool false)), (5, .t (.int .i64 0))], [], []⟩ ?_
      refine Wp.block ?_
      refine Wp.loopF (α := (List Put) × (List Put) × Int) (fun a => ⟨[(0, .t (.sl 6 (a.1.map Put.enc))), (1, .t (.sl 6 (a.2.1.map Put.enc))), (4, .t (.bool false)), (5, .t (.int .i64 a.2.2))], [], []⟩) (fun k_laws_eqPutS_l2 a => laws_eqPutS_l2 u k_laws_eqPutS_l2 a.1 a.2.1 a.2.2 = some r) ?_ ?_ u (p0, p1, 0) h (Le.of (mo := []) (mr := []) kr kr kr kr)
      · intro a h; unfold laws_eqPutS_l2 at h; cases h
      · rintro k_laws_eqPutS_l2 ⟨p0, p1, x2⟩ h
        change laws_eqPutS_l2 u (k_laws_eqPutS_l2 + 1) p0 p1 x2 = some r at h
        rw [laws_eqPutS_l2] at h
        refine Wp.seq ?_
        refine Wp.srg [] [] ?_
        refine Runs.batch 2 kr ?_
        refine Runs.lenT (y := .t (.sl 6 (p0.map Put.enc))) (e := 186) Put.enc p0 6 rfl rfl rfl kr kr kr kr kr ?_
        refine Runs.alln ?_
        refine Wp.fg ⟨[(0, .t (.sl 6 (p0.map Put.enc))), (1, .t (.sl 6 (p1.map Put.enc))), (4, .t (.bool false)), (5, .t (.int .i64 x2)), (11, .t (.int .i64 x2)), (12, .t (.sl 6 (p0.map Put.enc))), (13, .t (.int .i64 ((p0.length : Int)))), (14, .t (.bool (decide (x2 < ((p0.length : Int))))))], [], []⟩ ?_
        refine Wp.cond2 (b := decide (x2 < ((p0.length : Int)))) kr (fun hc => ?_) (fun hc => ?_)
        · have h := cond_t h hc
          refine Wp.skip ?_
          refine thenN ?_
          refine Wp.seq ?_
          refine Wp.block ?_
          refine Wp.seq ?_
          refine Wp.regionA (pOf []) (rhoOf [(0, .frz), (1, .frz), (5, .frz), (17, .frz), (18, .frz), (19, .frz), (20, .frz), (21, .frz), (22, .frz), (23, .frz), (24, .frz), (25, .frz)]) kr kr ?_
          refine Runs.batch 2 kr ?_
          obtain ⟨y4, e_y4, h⟩ := bind_some h
          refine Runs.idxT (e := 186) (kk := .i64) (sz := 6) Put.enc p0 x2 rfl kr kr kr kr kr kr e_y4 ?_
          refine Runs.batch 3 kr ?_
          obtain ⟨y5, e_y5, h⟩ := bind_some h
          refine Runs.idxT (e := 186) (kk := .i64) (sz := 6) Put.enc p1 x2 rfl kr kr kr kr kr kr e_y5 ?_
          refine Runs.batch 1 kr ?_
          obtain ⟨r6, e_r6, h⟩ := bind_some h
          refine Runs.callK false 25 180 [] [.agg ((Put.enc y4).map .t), .agg ((Put.enc y5).map .t)] [.agg ((Put.enc y4).map .t), .agg ((Put.enc y5).map .t)] (.one (.t (.bool r6))) [] rfl rfl kr kr kr kr kr (laws_eqPut_ok u y4 y5 r6 e_r6) kr ?_
          refine Runs.alln ?_
          refine Wp.fg ⟨[(0, .t (.sl 6 (p0.map Put.enc))), (1, .t (.sl 6 (p1.map Put.enc))), (4, .t (.bool false)), (5, .t (.int .i64 x2)), (11, .t (.int .i64 x2)), (12, .t (.sl 6 (p0.map Put.enc))), (13, .t (.int .i64 ((p0.length : Int)))), (14, .t (.bool (decide (x2 < ((p0.length : Int)))))), (17, .t (.sl 6 (p0.map Put.enc))), (18, .t (.int .i64 x2)), (19, .fadr (Put.enc y4)), (20, .agg ((Put.enc y4).map .t)), (21, .t (.sl 6 (p1.map Put.enc))), (22, .t (.int .i64 x2)), (23, .fadr (Put.enc y5)), (24, .agg ((Put.enc y5).map .t)), (25, .t (.bool r6)), (26, .t (.bool (!r6)))], [], []⟩ ?_
          refine Wp.cond2 (b := !r6) kr (fun hc => ?_) (fun hc => ?_)
          · have h := cond_t h hc
            refine Wp.srg [] [] ?_
            refine Runs.alln ?_
            refine Wp.fg ⟨[(0, .t (.sl 6 (p0.map Put.enc))), (1, .t (.sl 6 (p1.map Put.enc))), (4, .t (.bool false)), (5, .t (.int .i64 x2)), (11, .t (.int .i64 x2)), (12, .t (.sl 6 (p0.map Put.enc))), (13, .t (.int .i64 ((p0.length : Int)))), (14, .t (.bool (decide (x2 < ((p0.length : Int)))))), (17, .t (.sl 6 (p0.map Put.enc))), (18, .t (.int .i64 x2)), (19, .fadr (Put.enc y4)), (20, .agg ((Put.enc y4).map .t)), (21, .t (.sl 6 (p1.map Put.enc))), (22, .t (.int .i64 x2)), (23, .fadr (Put.enc y5)), (24, .agg ((Put.enc y5).map .t)), (25, .t (.bool r6)), (26, .t (.bool (!r6)))], [], []⟩ ?_
            refine Wp.ret ?_
            refine blkR ?_
            refine thenR ?_
            refine thenR ?_
            refine blkR ?_
            refine thenR ?_
            have hr := Option.some.inj h
            subst hr
            exact RetK [.t (.bool false)] (.one (.t (.bool false))) [] kr kr (.refl _) .nil
          · have h := cond_f h hc
            refine Wp.skip ?_
            refine blkN ?_
            refine thenN ?_
            refine Wp.rg [] [] ?_
            refine Runs.alln ?_
            exact ⟨(p0, p1, bAdd .i64 x2 1), h, Le.of (mo := []) (mr := []) kr kr kr kr⟩
        · have h := cond_f h hc
          refine Wp.exit ?_
          refine thenE ?_
          refine thenE ?_
          refine blkE ?_
          refine thenN ?_
          exact ⟨(), h, Le.of (mo := []) (mr := []) kr kr kr kr⟩
theorem laws_eqDisk_ok (u : Nat) (p0 : Disk) (p1 : Disk) (r : Bool) (h : laws_eqDisk u p0 p1 = some r) : CallOK Tryz.prog 108 [.agg [.t (.sl 1 (p0.fA.map (eInt .u8))), .t (.sl 1 (p0.fB.map (eInt .u8))), .t (.int .i64 p0.fR.fGen), .t (.int .i64 p0.fR.fSlot), .t (.int .i64 p0.fR.fLen), .t (.sl 6 (p0.fP.map Put.enc))], .agg [.t (.sl 1 (p1.fA.map (eInt .u8))), .t (.sl 1 (p1.fB.map (eInt .u8))), .t (.int .i64 p1.fR.fGen), .t (.int .i64 p1.fR.fSlot), .t (.int .i64 p1.fR.fLen), .t (.sl 6 (p1.fP.map Put.enc))]] (.one (.t (.bool r))) [] := by
  unfold laws_eqDisk at h
  refine CallOK.of_bodyK (fn := Tryz.f108) (m := false) [.agg ((Disk.enc p0).map .t), .agg ((Disk.enc p1).map .t)] kr rfl kr kr kr kr kr ?_
  refine Wp.srg [] [] ?_
  refine Runs.alln ?_
  refine Wp.fg ⟨[(2, .obj 2 0), (3, .obj 3 0), (4, .t (.bool false))], [(2, ((Disk.enc p0).map .t)), (3, ((Disk.enc p1).map .t))], []⟩ ?_
  refine Wp.seq ?_
  refine Wp.srg [] [] ?_
  refine Runs.batch 4 kr ?_
  obtain ⟨r1, e_r1, h⟩ := bind_some h
  refine Runs.callK false 9 54 [] [.t (.sl 1 (p0.fA.map (eInt .u8))), .t (.sl 1 (p1.fA.map (eInt .u8)))] [.one (.t (.sl 1 (p0.fA.map (eInt .u8)))), .one (.t (.sl 1 (p1.fA.map (eInt .u8))))] (.one (.t (.bool r1))) [] rfl rfl kr kr kr kr kr (laws_eqByteS_ok u p0.fA p1.fA r1 e_r1) kr ?_
  refine Runs.alln ?_
  refine Wp.fg ⟨[(2, .obj 2 0), (3, .obj 3 0), (4, .t (.bool false)), (10, .t (.bool (!r1)))], [(2, ((Disk.enc p0).map .t)), (3, ((Disk.enc p1).map .t))], []⟩ ?_
  refine Wp.cond2 (b := !r1) kr (fun hc => ?_) (fun hc => ?_)
  · have h := cond_t h hc
    refine Wp.srg [] [] ?_
    refine Runs.alln ?_
    refine Wp.fg ⟨[(2, .obj 2 0), (3, .obj 3 0), (4, .t (.bool false))], [(2, ((Disk.enc p0).map .t)), (3, ((Disk.enc p1).map .t))], []⟩ ?_
    refine Wp.ret ?_
    refine thenR ?_
    have hr := Option.some.inj h
    subst hr
    exact RetK [.t (.bool false)] (.one (.t (.bool false))) [] kr kr (.refl _) .nil
  · have h := cond_f h hc
    refine Wp.skip ?_
    refine thenN ?_
    refine Wp.seq ?_
    refine Wp.srg [] [] ?_
    refine Runs.batch 4 kr ?_
    obtain ⟨r2, e_r2, h⟩ := bind_some h
    refine Runs.callK false 15 54 [] [.t (.sl 1 (p0.fB.map (eInt .u8))), .t (.sl 1 (p1.fB.map (eInt .u8)))] [.one (.t (.sl 1 (p0.fB.map (eInt .u8)))), .one (.t (.sl 1 (p1.fB.map (eInt .u8))))] (.one (.t (.bool r2))) [] rfl rfl kr kr kr kr kr (laws_eqByteS_ok u p0.fB p1.fB r2 e_r2) kr ?_
    refine Runs.alln ?_
    refine Wp.fg ⟨[(2, .obj 2 0), (3, .obj 3 0), (4, .t (.bool false)), (16, .t (.bool (!r2)))], [(2, ((Disk.enc p0).map .t)), (3, ((Disk.enc p1).map .t))], []⟩ ?_
    refine Wp.cond2 (b := !r2) kr (fun hc => ?_) (fun hc => ?_)
    · have h := cond_t h hc
      refine Wp.srg [] [] ?_
      refine Runs.alln ?_
      refine Wp.fg ⟨[(2, .obj 2 0), (3, .obj 3 0), (4, .t (.bool false))], [(2, ((Disk.enc p0).map .t)), (3, ((Disk.enc p1).map .t))], []⟩ ?_
      refine Wp.ret ?_
      refine thenR ?_
      have hr := Option.some.inj h
      subst hr
      exact RetK [.t (.bool false)] (.one (.t (.bool false))) [] kr kr (.refl _) .nil
    · have h := cond_f h hc
      refine Wp.skip ?_
      refine thenN ?_
      refine Wp.seq ?_
      refine Wp.srg [] [] ?_
      refine Runs.batch 4 kr ?_
      obtain ⟨r3, e_r3, h⟩ := bind_some h
      refine Runs.callK false 21 148 [] [.agg ((Record.enc p0.fR).map .t), .agg ((Record.enc p1.fR).map .t)] [.agg ((Record.enc p0.fR).map .t), .agg ((Record.enc p1.fR).map .t)] (.one (.t (.bool r3))) [] rfl rfl kr kr kr kr kr (laws_eqRecord_ok u p0.fR p1.fR r3 e_r3) kr ?_
      refine Runs.alln ?_
      refine Wp.fg ⟨[(2, .obj 2 0), (3, .obj 3 0), (4, .t (.bool false)), (22, .t (.bool (!r3)))], [(2, ((Disk.enc p0).map .t)), (3, ((Disk.enc p1).map .t))], []⟩ ?_
      refine Wp.cond2 (b := !r3) kr (fun hc => ?_) (fun hc => ?_)
      · have h := cond_t h hc
        refine Wp.srg [] [] ?_
        refine Runs.alln ?_
        refine Wp.fg ⟨[(2, .obj 2 0), (3, .obj 3 0), (4, .t (.bool false))], [(2, ((Disk.enc p0).map .t)), (3, ((Disk.enc p1).map .t))], []⟩ ?_
        refine Wp.ret ?_
        refine thenR ?_
        have hr := Option.some.inj h
        subst hr
        exact RetK [.t (.bool false)] (.one (.t (.bool false))) [] kr kr (.refl _) .nil
      · have h := cond_f h hc
        refine Wp.skip ?_
        refine thenN ?_
        refine Wp.seq ?_
        refine Wp.srg [] [] ?_
        refine Runs.batch 4 kr ?_
        obtain ⟨r4, e_r4, h⟩ := bind_some h
        refine Runs.callK false 27 149 [] [.t (.sl 6 (p0.fP.map Put.enc)), .t (.sl 6 (p1.fP.map Put.enc))] [.one (.t (.sl 6 (p0.fP.map Put.enc))), .one (.t (.sl 6 (p1.fP.map Put.enc)))] (.one (.t (.bool r4))) [] rfl rfl kr kr kr kr kr (laws_eqPutS_ok u p0.fP p1.fP r4 e_r4) kr ?_
        refine Runs.alln ?_
        refine Wp.fg ⟨[(4, .t (.bool false)), (28, .t (.bool (!r4)))], [], []⟩ ?_
        refine Wp.cond2 (b := !r4) kr (fun hc => ?_) (fun hc => ?_)
        · have h := cond_t h hc
          refine Wp.srg [] [] ?_
          refine Runs.alln ?_
          refine Wp.fg ⟨[(4, .t (.bool false))], [], []⟩ ?_
          refine Wp.ret ?_
          refine thenR ?_
          have hr := Option.some.inj h
          subst hr
          exact RetK [.t (.bool false)] (.one (.t (.bool false))) [] kr kr (.refl _) .nil
        · have h := cond_f h hc
          refine Wp.skip ?_
          refine thenN ?_
          refine Wp.srg [] [] ?_
          refine Runs.alln ?_
          refine Wp.fg ⟨[(4, .t (.bool true))], [], []⟩ ?_
          refine Wp.ret ?_
          have hr := Option.some.inj h
          subst hr
          exact RetK [.t (.bool true)] (.one (.t (.bool true))) [] kr kr (.refl _) .nil
theorem laws_eqDiskS_ok (u : Nat) (p0 : List Disk) (p1 : List Disk) (r : Bool) (h : laws_eqDiskS u p0 p1 = some r) : CallOK Tryz.prog 57 [.one (.t (.sl 6 (p0.map Disk.enc))), .one (.t (.sl 6 (p1.map Disk.enc)))] (.one (.t (.bool r))) [] := by
  unfold laws_eqDiskS at h
  refine CallOK.of_bodyK (fn := Tryz.f57) (m := false) [.t (.sl 6 (p0.map Disk.enc)), .t (.sl 6 (p1.map Disk.enc))] kr rfl kr kr kr kr kr ?_
  refine Wp.srg [] [] ?_
  refine Runs.alln ?_
  refine Wp.fg ⟨[(0, .t (.sl 6 (p0.map Disk.enc))), (1, .t (.sl 6 (p1.map Disk.enc))), (4, .t (.bool false))], [], []⟩ ?_
  refine Wp.seq ?_
  refine Wp.srg [] [] ?_
  refine Runs.batch 1 kr ?_
  refine Runs.lenT (y := .t (.sl 6 (p0.map Disk.enc))) (e := 87) Disk.enc p0 6 rfl rfl rfl kr kr kr kr kr ?_
  refine Runs.batch 1 kr ?_
  refine Runs.lenT (y := .t (.sl 6 (p1.map Disk.enc))) (e := 87) Disk.enc p1 6 rfl rfl rfl kr kr kr kr kr ?_
  refine Runs.alln ?_
  refine Wp.fg ⟨[(0, .t (.sl 6 (p0.map Disk.enc))), (1, .t (.sl 6 (p1.map Disk.enc))), (4, .t (.bool false)), (10, .t (.bool (((p0.length : Int)) != ((p1.length : Int)))))], [], []⟩ ?_
  refine Wp.cond2 (b := ((p0.length : Int)) != ((p1.length : Int))) kr (fun hc => ?_) (fun hc => ?_)
  · have h := cond_t h hc
    refine Wp.srg [] [] ?_
    refine Runs.alln ?_
    refine Wp.fg ⟨[(0, .t (.sl 6 (p0.map Disk.enc))), (1, .t (.sl 6 (p1.map Disk.enc))), (4, .t (.bool false))], [], []⟩ ?_
    refine Wp.ret ?_
    refine thenR ?_
    have hr := Option.some.inj h
    subst hr
    exact RetK [.t (.bool false)] (.one (.t (.bool false))) [] kr kr (.refl _) .nil
  · have h := cond_f h hc
    refine Wp.skip ?_
    refine thenN ?_
    refine Wp.seqJ (α := Unit) (fun a => ⟨[(4, .t (.bool false))], [], []⟩) (fun a => laws_eqDiskS_j1 u = some r) ?_ ?_
    · rintro ⟨⟩ h
      change laws_eqDiskS_j1 u = some r at h
      unfold laws_eqDiskS_j1 at h
      refine Wp.srg [] [] ?_
      refine Runs.alln ?_
      refine Wp.fg ⟨[(4, .t (.bool true))], [], []⟩ ?_
      refine Wp.ret ?_
      have hr := Option.some.inj h
      subst hr
      exact RetK [.t (.bool true)] (.one (.t (.bool true))) [] kr kr (.refl _) .nil
    · refine Wp.srg [] [] ?_
      refine Runs.alln ?_
      refine Wp.fg ⟨[(0, .t (.sl 6 (p0.map Disk.enc))), (1, .t (.sl 6 (p1.map Disk.enc))), (4, .t (.bool false)), (5, .t (.int .i64 0))], [], []⟩ ?_
      refine Wp.block ?_
      refine Wp.loopF (α := (List Disk) × (List Disk) × Int) (fun a => ⟨[(0, .t (.sl 6 (a.1.map Disk.enc))), (1, .t (.sl 6 (a.2.1.map Disk.enc))), (4, .t (.bool false)), (5, .t (.int .i64 a.2.2))], [], []⟩) (fun k_laws_eqDiskS_l2 a => laws_eqDiskS_l2 u k_laws_eqDiskS_l2 a.1 a.2.1 a.2.2 = some r) ?_ ?_ u (p0, p1, 0) h (Le.of (mo := []) (mr := []) kr kr kr kr)
      · intro a h; unfold laws_eqDiskS_l2 at h; cases h
      · rintro k_laws_eqDiskS_l2 ⟨p0, p1, x2⟩ h
        change laws_eqDiskS_l2 u (k_laws_eqDiskS_l2 + 1) p0 p1 x2 = some r at h
        rw [laws_eqDiskS_l2] at h
        refine Wp.seq ?_
        refine Wp.srg [] [] ?_
        refine Runs.batch 2 kr ?_
        refine Runs.lenT (y := .t (.sl 6 (p0.map Disk.enc))) (e := 87) Disk.enc p0 6 rfl rfl rfl kr kr kr kr kr ?_
        refine Runs.alln ?_
        refine Wp.fg ⟨[(0, .t (.sl 6 (p0.map Disk.enc))), (1, .t (.sl 6 (p1.map Disk.enc))), (4, .t (.bool false)), (5, .t (.int .i64 x2)), (11, .t (.int .i64 x2)), (12, .t (.sl 6 (p0.map Disk.enc))), (13, .t (.int .i64 ((p0.length : Int)))), (14, .t (.bool (decide (x2 < ((p0.length : Int))))))], [], []⟩ ?_
        refine Wp.cond2 (b := decide (x2 < ((p0.length : Int)))) kr (fun hc => ?_) (fun hc => ?_)
        · have h := cond_t h hc
          refine Wp.skip ?_
          refine thenN ?_
          refine Wp.seq ?_
          refine Wp.block ?_
          refine Wp.seq ?_
          refine Wp.regionA (pOf []) (rhoOf [(0, .frz), (1, .frz), (5, .frz), (17, .frz), (18, .frz), (19, .frz), (20, .frz), (21, .frz), (22, .frz), (23, .frz), (24, .frz), (25, .frz)]) kr kr ?_
          refine Runs.batch 2 kr ?_
          obtain ⟨y4, e_y4, h⟩ := bind_some h
          refine Runs.idxT (e := 87) (kk := .i64) (sz := 6) Disk.enc p0 x2 rfl kr kr kr kr kr kr e_y4 ?_
          refine Runs.batch 3 kr ?_
          obtain ⟨y5, e_y5, h⟩ := bind_some h
          refine Runs.idxT (e := 87) (kk := .i64) (sz := 6) Disk.enc p1 x2 rfl kr kr kr kr kr kr e_y5 ?_
          refine Runs.batch 1 kr ?_
          obtain ⟨r6, e_r6, h⟩ := bind_some h
          refine Runs.callK false 25 108 [] [.agg ((Disk.enc y4).map .t), .agg ((Disk.enc y5).map .t)] [.agg ((Disk.enc y4).map .t), .agg ((Disk.enc y5).map .t)] (.one (.t (.bool r6))) [] rfl rfl kr kr kr kr kr (laws_eqDisk_ok u y4 y5 r6 e_r6) kr ?_
          refine Runs.alln ?_
          refine Wp.fg ⟨[(0, .t (.sl 6 (p0.map Disk.enc))), (1, .t (.sl 6 (p1.map Disk.enc))), (4, .t (.bool false)), (5, .t (.int .i64 x2)), (11, .t (.int .i64 x2)), (12, .t (.sl 6 (p0.map Disk.enc))), (13, .t (.int .i64 ((p0.length : Int)))), (14, .t (.bool (decide (x2 < ((p0.length : Int)))))), (17, .t (.sl 6 (p0.map Disk.enc))), (18, .t (.int .i64 x2)), (19, .fadr (Disk.enc y4)), (20, .agg ((Disk.enc y4).map .t)), (21, .t (.sl 6 (p1.map Disk.enc))), (22, .t (.int .i64 x2)), (23, .fadr (Disk.enc y5)), (24, .agg ((Disk.enc y5).map .t)), (25, .t (.bool r6)), (26, .t (.bool (!r6)))], [], []⟩ ?_
          refine Wp.cond2 (b := !r6) kr (fun hc => ?_) (fun hc => ?_)
          · have h := cond_t h hc
            refine Wp.srg [] [] ?_
            refine Runs.alln ?_
            refine Wp.fg ⟨[(0, .t (.sl 6 (p0.map Disk.enc))), (1, .t (.sl 6 (p1.map Disk.enc))), (4, .t (.bool false)), (5, .t (.int .i64 x2)), (11, .t (.int .i64 x2)), (12, .t (.sl 6 (p0.map Disk.enc))), (13, .t (.int .i64 ((p0.length : Int)))), (14, .t (.bool (decide (x2 < ((p0.length : Int)))))), (17, .t (.sl 6 (p0.map Disk.enc))), (18, .t (.int .i64 x2)), (19, .fadr (Disk.enc y4)), (20, .agg ((Disk.enc y4).map .t)), (21, .t (.sl 6 (p1.map Disk.enc))), (22, .t (.int .i64 x2)), (23, .fadr (Disk.enc y5)), (24, .agg ((Disk.enc y5).map .t)), (25, .t (.bool r6)), (26, .t (.bool (!r6)))], [], []⟩ ?_
            refine Wp.ret ?_
            refine blkR ?_
            refine thenR ?_
            refine thenR ?_
            refine blkR ?_
            refine thenR ?_
            have hr := Option.some.inj h
            subst hr
            exact RetK [.t (.bool false)] (.one (.t (.bool false))) [] kr kr (.refl _) .nil
          · have h := cond_f h hc
            refine Wp.skip ?_
            refine blkN ?_
            refine thenN ?_
            refine Wp.rg [] [] ?_
            refine Runs.alln ?_
            exact ⟨(p0, p1, bAdd .i64 x2 1), h, Le.of (mo := []) (mr := []) kr kr kr kr⟩
        · have h := cond_f h hc
          refine Wp.exit ?_
          refine thenE ?_
          refine thenE ?_
          refine blkE ?_
          refine thenN ?_
          exact ⟨(), h, Le.of (mo := []) (mr := []) kr kr kr kr⟩
end Go.Tm
