/- The functions as they are translated do what the pure functions say (printed). -/
import Derived.Test.YtdgkjbcglhekoaaGreatCCompleteK1
import Derived.Test.YtdgkjbcglhekoaaGreatTm40
import Derived.Test.YtdgkjbcglhekoaaGreatProg
set_option maxRecDepth 100000
set_option linter.unusedVariables false
set_option linter.unusedSimpArgs false
namespace Go.Tm
open Go.Proofs
theorem impl_PartsIn_ok (u : Nat) (p0 : Int) (r : (List Int)) (h : impl_PartsIn u p0 = some r) : CallOK Tryz.prog 115 [.one (.t (.int .i64 p0))] (.one (.ow 3 1 (r.map (eInt .i64)))) [] := by
  unfold impl_PartsIn at h
  refine CallOK.of_bodyK (fn := Tryz.f115) (m := true) [.t (.int .i64 p0)] kr rfl kr kr kr kr kr ?_
  refine Wp.srg [] [] ?_
  refine Runs.alln ?_
  refine Wp.fg ⟨[(0, .t (.int .i64 p0)), (2, .nil)], [], []⟩ ?_
  refine Wp.srg [] [] ?_
  refine Runs.alln ?_
  refine Wp.fg ⟨[(0, .t (.int .i64 p0)), (2, .nil), (3, .own 327680)], [], [(327680, .live 3 1 ((([] : List Int)).map (eInt .i64)))]⟩ ?_
  refine Wp.seqJ (α := (List Int)) (fun a => ⟨[(2, .nil), (3, .own 196609)], [], [(196609, .live 3 1 (a.map (eInt .i64)))]⟩) (fun a => impl_PartsIn_j1 u a = some r) ?_ ?_
  · rintro x9 h
    change impl_PartsIn_j1 u x9 = some r at h
    unfold impl_PartsIn_j1 at h
    refine Wp.srg [] [] ?_
    refine Runs.alln ?_
    refine Wp.fg ⟨[(2, .own 196609)], [], [(196609, .live 3 1 (x9.map (eInt .i64)))]⟩ ?_
    refine Wp.ret ?_
    have hr := Option.some.inj h
    subst hr
    exact RetK [.own 196609] (.one (.ow 3 1 (x9.map (eInt .i64)))) [] kr kr (.refl _) .nil
  · refine Wp.srg [] [] ?_
    refine Runs.alln ?_
    refine Wp.fg ⟨[(0, .t (.int .i64 p0)), (2, .nil), (3, .own 327680), (6, .t (.int .i64 0))], [], [(327680, .live 3 1 ((([] : List Int)).map (eInt .i64)))]⟩ ?_
    refine Wp.block ?_
    refine Wp.loopF (α := Int × (List Int) × Int) (fun a => ⟨[(0, .t (.int .i64 a.1)), (2, .nil), (3, .own 196609), (6, .t (.int .i64 a.2.2))], [], [(196609, .live 3 1 (a.2.1.map (eInt .i64)))]⟩) (fun k_impl_PartsIn_l2 a => impl_PartsIn_l2 u k_impl_PartsIn_l2 a.1 a.2.1 a.2.2 = some r) ?_ ?_ u (p0, ([] : List Int), 0) h (Le.of (mo := []) (mr := [(196609, 327680)]) kr kr kr kr)
    · intro a h; unfold impl_PartsIn_l2 at h; cases h
    · rintro k_impl_PartsIn_l2 ⟨p0, x3, x4⟩ h
      change impl_PartsIn_l2 u (k_impl_PartsIn_l2 + 1) p0 x3 x4 = some r at h
      rw [impl_PartsIn_l2] at h
      refine Wp.srg [] [] ?_
      refine Runs.alln ?_
      refine Wp.fg ⟨[(0, .t (.int .i64 p0)), (2, .nil), (3, .own 196609), (6, .t (.int .i64 x4)), (7, .t (.bool (decide (x4 < 40))))], [], [(196609, .live 3 1 (x3.map (eInt .i64)))]⟩ ?_
      refine Wp.seq ?_
      refine Wp.cond2 (b := decide (x4 < 40)) kr (fun hc => ?_) (fun hc => ?_)
      · have h := cond_t h hc
        refine Wp.skip ?_
        refine thenN ?_
        refine Wp.seqJ (α := Int × (List Int) × Int × Bool) (fun a => ⟨[(0, .t (.int .i64 a.1)), (2, .nil), (3, .own 196609), (4, .t (.int .i64 a.2.2.1)), (6, .t (.int .i64 a.2.2.1)), (7, .t (.bool (decide (a.2.2.1 < 40)))), (8, .t (.int .i64 a.2.2.1)), (9, .t (.int .i64 a.1)), (10, .t (.int .i64 a.2.2.1)), (11, .t (.bool a.2.2.2))], [], [(196609, .live 3 1 (a.2.1.map (eInt .i64)))]⟩) (fun a => impl_PartsIn_j3 u (fun z0 z1 z2 => impl_PartsIn_l2 u k_impl_PartsIn_l2 z0 z1 z2) a.1 a.2.1 a.2.2.1 a.2.2.2 = some r) ?_ ?_
        · rintro ⟨p0, x8, x4, r7⟩ h
          change impl_PartsIn_j3 u (fun z0 z1 z2 => impl_PartsIn_l2 u k_impl_PartsIn_l2 z0 z1 z2) p0 x8 x4 r7 = some r at h
          unfold impl_PartsIn_j3 at h
          refine Wp.rg [] [] ?_
          refine Runs.alln ?_
          exact ⟨(p0, x8, bAdd .i64 x4 1), h, Le.of (mo := []) (mr := []) kr kr kr kr⟩
        · refine Wp.block ?_
          refine Wp.srg [] [] ?_
          refine Runs.alln ?_
          refine Wp.fg ⟨[(0, .t (.int .i64 p0)), (2, .nil), (3, .own 196609), (4, .t (.int .i64 x4)), (6, .t (.int .i64 x4)), (7, .t (.bool (decide (x4 < 40)))), (8, .t (.int .i64 x4))], [], [(196609, .live 3 1 (x3.map (eInt .i64)))]⟩ ?_
          refine Wp.srg [] [] ?_
          refine Runs.batch 2 kr ?_
          obtain ⟨r7, e_r7, h⟩ := bind_some h
          refine Runs.callK false 11 154 [] [.t (.int .i64 p0), .t (.int .i64 x4)] [.one (.t (.int .i64 p0)), .one (.t (.int .i64 x4))] (.one (.t (.bool r7))) [] rfl rfl kr kr kr kr kr (impl_InSet_ok u p0 x4 r7 e_r7) kr ?_
          refine Runs.done ?_
          refine thenN ?_
          refine Wp.fg ⟨[(0, .t (.int .i64 p0)), (2, .nil), (3, .own 196609), (4, .t (.int .i64 x4)), (6, .t (.int .i64 x4)), (7, .t (.bool (decide (x4 < 40)))), (8, .t (.int .i64 x4)), (9, .t (.int .i64 p0)), (10, .t (.int .i64 x4)), (11, .t (.bool r7))], [], [(196609, .live 3 1 (x3.map (eInt .i64)))]⟩ ?_
          refine Wp.cond2 (b := r7) kr (fun hc => ?_) (fun hc => ?_)
          · have h := cond_t h hc
            refine Wp.rg [] [] ?_
            refine Runs.batch 3 kr ?_
            obtain ⟨_, e_8, h⟩ := bind_some h
            refine Runs.appT (y := .own 917504) (eInt .i64) 15 1 3 1 8 196609 x3 ([x4]) rfl rfl rfl rfl kr kr kr kr kr kr (.inl rfl) kr (of_decide_eq_true (chk_some e_8)) kr kr ?_
            refine Runs.all kr ?_
            refine blkN ?_
            refine thenN ?_
            exact ⟨(p0, x3 ++ ([x4]), x4, r7), h, Le.of (mo := []) (mr := [(196609, 983040)]) kr kr kr kr⟩
          · have h := cond_f h hc
            refine Wp.skip ?_
            refine blkN ?_
            refine thenN ?_
            exact ⟨(p0, x3, x4, r7), h, Le.of (mo := []) (mr := []) kr kr kr kr⟩
      · have h := cond_f h hc
        refine Wp.exit ?_
        refine thenE ?_
        refine thenE ?_
        refine blkE ?_
        refine thenN ?_
        exact ⟨x3, h, Le.of (mo := []) (mr := []) kr kr kr kr⟩
theorem impl_Reported_ok (u : Nat) (p0 : World) (r : (List Int)) (h : impl_Reported u p0 = some r) : CallOK Tryz.prog 63 [.agg [.t (.int .i64 p0.fC.fSize), .t (.int .i64 p0.fC.fWindow), .t (.int .i64 p0.fC.fSuspect), .t (.int .i64 p0.fC.fForget), .t (.sl 1 (p0.fT.fUp.map (eInt .i64))), .t (.sl 1 (p0.fNew.map (eInt .u8))), .t (.sl 1 (p0.fOld.map Image.enc)), .t (.sl 12 (p0.fN.map Node.enc)), .t (.sl 6 (p0.fD.map Disk.enc)), .t (.sl 3 (p0.fNet.map Packet.enc)), .t (.sl 3 (p0.fLog.map Sent.enc)), .t (.int .i64 p0.fLost)]] (.one (.ow 3 1 (r.map (eInt .i64)))) [] := by
  unfold impl_Reported at h
  refine CallOK.of_bodyK (fn := Tryz.f63) (m := true) [.agg ((World.enc p0).map .t)] kr rfl kr kr kr kr kr ?_
  refine Wp.srg [] [] ?_
  refine Runs.alln ?_
  refine Wp.fg ⟨[(1, .obj 1 0), (2, .nil)], [(1, ((World.enc p0).map .t))], []⟩ ?_
  refine Wp.seq ?_
  refine Wp.srg [] [] ?_
  refine Runs.batch 2 kr ?_
  refine Runs.lenT (y := .t (.sl 12 (p0.fN.map Node.enc))) (e := 97) Node.enc p0.fN 12 rfl rfl rfl kr kr kr kr kr ?_
  refine Runs.alln ?_
  refine Wp.fg ⟨[(1, .obj 1 0), (2, .nil), (6, .t (.bool (((p0.fN.length : Int)) == 0)))], [(1, ((World.enc p0).map .t))], []⟩ ?_
  refine Wp.cond2 (b := ((p0.fN.length : Int)) == 0) kr (fun hc => ?_) (fun hc => ?_)
  · have h := cond_t h hc
    refine Wp.srg [] [] ?_
    refine Runs.alln ?_
    refine Wp.fg ⟨[(1, .obj 1 0), (2, .nil)], [(1, ((World.enc p0).map .t))], []⟩ ?_
    refine Wp.ret ?_
    refine thenR ?_
    have hr := Option.some.inj h
    subst hr
    exact RetK [.nil] (.one (.nil)) [] kr kr (.one (.nilO _ _)) .nil
  · have h := cond_f h hc
    refine Wp.skip ?_
    refine thenN ?_
    refine Wp.srg [] [] ?_
    refine Runs.batch 2 kr ?_
    obtain ⟨y1, e_y1, h⟩ := bind_some h
    refine Runs.idxT (e := 97) (kk := .i64) (sz := 12) Node.enc p0.fN 0 rfl kr kr kr kr kr kr e_y1 ?_
    refine Runs.batch 2 kr ?_
    obtain ⟨r2, e_r2, h⟩ := bind_some h
    refine Runs.callK false 12 116 [] [.t (.sl 5 (y1.fKids.map Kid.enc))] [.one (.t (.sl 5 (y1.fKids.map Kid.enc)))] (.one (.t (.int .i64 r2))) [] rfl rfl kr kr kr kr kr (impl_DoneOf_ok u y1.fKids r2 e_r2) kr ?_
    obtain ⟨r3, e_r3, h⟩ := bind_some h
    refine Runs.callK false 13 115 [] [.t (.int .i64 r2)] [.one (.t (.int .i64 r2))] (.one (.ow 3 1 (r3.map (eInt .i64)))) [] rfl rfl kr kr kr kr kr (impl_PartsIn_ok u r2 r3 e_r3) kr ?_
    refine Runs.alln ?_
    refine Wp.fg ⟨[(2, .own 851968)], [], [(851968, .live 3 1 (r3.map (eInt .i64)))]⟩ ?_
    refine Wp.ret ?_
    have hr := Option.some.inj h
    subst hr
    exact RetK [.own 851968] (.one (.ow 3 1 (r3.map (eInt .i64)))) [] kr kr (.refl _) .nil
theorem impl_UpIn_1_ok (u : Nat) (p0 : Node) (r : Bool) (h : impl_UpIn_1 u p0 = some r) : CallOK Tryz.prog 125 [.agg [.t (.bool p0.fOn), .t (.int .i64 p0.fBoss), .t (.int .i64 p0.fQuiet), .t (.int .i64 p0.fMan.fGen), .t (.int .i64 p0.fMan.fSize), .t (.int .i64 p0.fMan.fLen), .t (.sl 2 (p0.fMan.fSums.map Sum.enc)), .t (.int .i64 p0.fBld.fHave), .t (.sl 1 (p0.fBld.fBuf.map (eInt .u8))), .t (.int .i64 p0.fPhase), .t (.sl 5 (p0.fKids.map Kid.enc)), .t (.int .i64 p0.fDrops)]] (.one (.t (.bool r))) [] := by
  unfold impl_UpIn_1 at h
  refine CallOK.of_bodyK (fn := Tryz.f125) (m := false) [.agg ((Node.enc p0).map .t)] kr rfl kr kr kr kr kr ?_
  refine Wp.srg [] [] ?_
  refine Runs.alln ?_
  refine Wp.fg ⟨[(1, .obj 1 0), (2, .t (.bool false))], [(1, ((Node.enc p0).map .t))], []⟩ ?_
  refine Wp.srg [] [] ?_
  refine Runs.alln ?_
  refine Wp.fg ⟨[(2, .t (.bool p0.fOn))], [], []⟩ ?_
  refine Wp.ret ?_
  have hr := Option.some.inj h
  subst hr
  exact RetK [.t (.bool p0.fOn)] (.one (.t (.bool p0.fOn))) [] kr kr (.refl _) .nil
theorem impl_World__nodesIn__impl_UpIn_1_ok (u : Nat) (p0 : World) (r : (List Int)) (h : impl_World__nodesIn__impl_UpIn_1 u p0 = some r) : CallOK Tryz.prog 124 [.agg [.t (.int .i64 p0.fC.fSize), .t (.int .i64 p0.fC.fWindow), .t (.int .i64 p0.fC.fSuspect), .t (.int .i64 p0.fC.fForget), .t (.sl 1 (p0.fT.fUp.map (eInt .i64))), .t (.sl 1 (p0.fNew.map (eInt .u8))), .t (.sl 1 (p0.fOld.map Image.enc)), .t (.sl 12 (p0.fN.map Node.enc)), .t (.sl 6 (p0.fD.map Disk.enc)), .t (.sl 3 (p0.fNet.map Packet.enc)), .t (.sl 3 (p0.fLog.map Sent.enc)), .t (.int .i64 p0.fLost)], .clo 125 []] (.one (.ow 3 1 (r.map (eInt .i64)))) [] := by
  unfold impl_World__nodesIn__impl_UpIn_1 at h
  refine CallOK.of_bodyK (fn := Tryz.f124) (m := true) [.agg ((World.enc p0).map .t), .clo 125 []] kr rfl kr kr kr kr kr ?_
  refine Wp.srg [] [] ?_
  refine Runs.alln ?_
  refine Wp.fg ⟨[(1, .clo 125 []), (2, .obj 2 0), (4, .nil)], [(2, ((World.enc p0).map .t))], []⟩ ?_
  refine Wp.srg [] [] ?_
  refine Runs.alln ?_
  refine Wp.fg ⟨[(1, .clo 125 []), (2, .obj 2 0), (4, .nil), (5, .own 524288)], [(2, ((World.enc p0).map .t))], [(524288, .live 3 1 ((([] : List Int)).map (eInt .i64)))]⟩ ?_
  refine Wp.seqJ (α := (List Int)) (fun a => ⟨[(4, .nil), (5, .own 327681)], [], [(327681, .live 3 1 (a.map (eInt .i64)))]⟩) (fun a => impl_World__nodesIn__impl_UpIn_1_j1 u a = some r) ?_ ?_
  · rintro x10 h
    change impl_World__nodesIn__impl_UpIn_1_j1 u x10 = some r at h
    unfold impl_World__nodesIn__impl_UpIn_1_j1 at h
    refine Wp.srg [] [] ?_
    refine Runs.alln ?_
    refine Wp.fg ⟨[(4, .own 327681)], [], [(327681, .live 3 1 (x10.map (eInt .i64)))]⟩ ?_
    refine Wp.ret ?_
    have hr := Option.some.inj h
    subst hr
    exact RetK [.own 327681] (.one (.ow 3 1 (x10.map (eInt .i64)))) [] kr kr (.refl _) .nil
  · refine Wp.srg [] [] ?_
    refine Runs.batch 2 kr ?_
    refine Runs.lenT (y := .t (.sl 12 (p0.fN.map Node.enc))) (e := 97) Node.enc p0.fN 12 rfl rfl rfl kr kr kr kr kr ?_
    refine Runs.alln ?_
    refine Wp.fg ⟨[(1, .clo 125 []), (4, .nil), (5, .own 524288), (10, .t (.sl 12 (p0.fN.map Node.enc))), (11, .t (.int .i64 ((p0.fN.length : Int)))), (12, .t (.int .i64 0))], [], [(524288, .live 3 1 ((([] : List Int)).map (eInt .i64)))]⟩ ?_
    refine Wp.block ?_
    refine Wp.loopF (α := (List Int) × World × Int) (fun a => ⟨[(1, .clo 125 []), (4, .nil), (5, .own 327681), (10, .t (.sl 12 (a.2.1.fN.map Node.enc))), (11, .t (.int .i64 ((a.2.1.fN.length : Int)))), (12, .t (.int .i64 a.2.2))], [], [(327681, .live 3 1 (a.1.map (eInt .i64)))]⟩) (fun k_impl_World__nodesIn__impl_UpIn_1_l2 a => impl_World__nodesIn__impl_UpIn_1_l2 u k_impl_World__nodesIn__impl_UpIn_1_l2 a.1 a.2.1 a.2.2 = some r) ?_ ?_ u (([] : List Int), p0, 0) h (Le.of (mo := []) (mr := [(327681, 524288)]) kr kr kr kr)
    · intro a h; unfold impl_World__nodesIn__impl_UpIn_1_l2 at h; cases h
    · rintro k_impl_World__nodesIn__impl_UpIn_1_l2 ⟨x3, p0, x4⟩ h
      change impl_World__nodesIn__impl_UpIn_1_l2 u (k_impl_World__nodesIn__impl_UpIn_1_l2 + 1) x3 p0 x4 = some r at h
      rw [impl_World__nodesIn__impl_UpIn_1_l2] at h
      refine Wp.srg [] [] ?_
      refine Runs.alln ?_
      refine Wp.fg ⟨[(1, .clo 125 []), (4, .nil), (5, .own 327681), (10, .t (.sl 12 (p0.fN.map Node.enc))), (11, .t (.int .i64 ((p0.fN.length : Int)))), (12, .t (.int .i64 x4)), (13, .t (.bool (decide (x4 < ((p0.fN.length : Int))))))], [], [(327681, .live 3 1 (x3.map (eInt .i64)))]⟩ ?_
      refine Wp.seq ?_
      refine Wp.cond2 (b := decide (x4 < ((p0.fN.length : Int)))) kr (fun hc => ?_) (fun hc => ?_)
      · have h := cond_t h hc
        refine Wp.skip ?_
        refine thenN ?_
        refine Wp.seqJ (α := (List Int) × Int × World × Node × Bool) (fun a => ⟨[(1, .clo 125 []), (4, .nil), (5, .own 327681), (6, .t (.int .i64 a.2.1)), (7, .obj 7 0), (10, .t (.sl 12 (a.2.2.1.fN.map Node.enc))), (11, .t (.int .i64 ((a.2.2.1.fN.length : Int)))), (12, .t (.int .i64 a.2.1)), (13, .t (.bool (decide (a.2.1 < ((a.2.2.1.fN.length : Int)))))), (14, .t (.int .i64 a.2.1)), (15, .fadr (Node.enc a.2.2.2.1)), (16, .agg ((Node.enc a.2.2.2.1).map .t)), (17, .clo 125 []), (18, .agg ((Node.enc a.2.2.2.1).map .t)), (19, .t (.bool a.2.2.2.2))], [(7, ((Node.enc a.2.2.2.1).map .t))], [(327681, .live 3 1 (a.1.map (eInt .i64)))]⟩) (fun a => impl_World__nodesIn__impl_UpIn_1_j3 u (fun z0 z1 z2 => impl_World__nodesIn__impl_UpIn_1_l2 u k_impl_World__nodesIn__impl_UpIn_1_l2 z0 z1 z2) a.1 a.2.1 a.2.2.1 a.2.2.2.1 a.2.2.2.2 = some r) ?_ ?_
        · rintro ⟨x9, x4, p0, y7, r8⟩ h
          change impl_World__nodesIn__impl_UpIn_1_j3 u (fun z0 z1 z2 => impl_World__nodesIn__impl_UpIn_1_l2 u k_impl_World__nodesIn__impl_UpIn_1_l2 z0 z1 z2) x9 x4 p0 y7 r8 = some r at h
          unfold impl_World__nodesIn__impl_UpIn_1_j3 at h
          refine Wp.rg [] [] ?_
          refine Runs.alln ?_
          exact ⟨(x9, p0, bAdd .i64 x4 1), h, Le.of (mo := []) (mr := []) kr kr kr kr⟩
        · refine Wp.block ?_
          refine Wp.srg [] [] ?_
          refine Runs.batch 1 kr ?_
          obtain ⟨y7, e_y7, h⟩ := bind_some h
          refine Runs.idxT (e := 97) (kk := .i64) (sz := 12) Node.enc p0.fN x4 rfl kr kr kr kr kr kr e_y7 ?_
          refine Runs.alln ?_
          refine Wp.fg ⟨[(1, .clo 125 []), (4, .nil), (5, .own 327681), (6, .t (.int .i64 x4)), (7, .obj 7 0), (10, .t (.sl 12 (p0.fN.map Node.enc))), (11, .t (.int .i64 ((p0.fN.length : Int)))), (12, .t (.int .i64 x4)), (13, .t (.bool (decide (x4 < ((p0.fN.length : Int)))))), (14, .t (.int .i64 x4)), (15, .fadr (Node.enc y7)), (16, .agg ((Node.enc y7).map .t))], [(7, ((Node.enc y7).map .t))], [(327681, .live 3 1 (x3.map (eInt .i64)))]⟩ ?_
          refine Wp.srg [] [] ?_
          refine Runs.batch 2 kr ?_
          obtain ⟨r8, e_r8, h⟩ := bind_some h
          refine Runs.callK false 19 125 [] [.agg ((Node.enc y7).map .t)] [.agg ((Node.enc y7).map .t)] (.one (.t (.bool r8))) [] rfl rfl kr kr kr kr kr (impl_UpIn_1_ok u y7 r8 e_r8) kr ?_
          refine Runs.done ?_
          refine thenN ?_
          refine Wp.fg ⟨[(1, .clo 125 []), (4, .nil), (5, .own 327681), (6, .t (.int .i64 x4)), (7, .obj 7 0), (10, .t (.sl 12 (p0.fN.map Node.enc))), (11, .t (.int .i64 ((p0.fN.length : Int)))), (12, .t (.int .i64 x4)), (13, .t (.bool (decide (x4 < ((p0.fN.length : Int)))))), (14, .t (.int .i64 x4)), (15, .fadr (Node.enc y7)), (16, .agg ((Node.enc y7).map .t)), (17, .clo 125 []), (18, .agg ((Node.enc y7).map .t)), (19, .t (.bool r8))], [(7, ((Node.enc y7).map .t))], [(327681, .live 3 1 (x3.map (eInt .i64)))]⟩ ?_
          refine Wp.cond2 (b := r8) kr (fun hc => ?_) (fun hc => ?_)
          · have h := cond_t h hc
            refine Wp.rg [] [] ?_
            refine Runs.batch 3 kr ?_
            obtain ⟨_, e_9, h⟩ := bind_some h
            refine Runs.appT (y := .own 1441792) (eInt .i64) 23 1 3 1 8 327681 x3 ([x4]) rfl rfl rfl rfl kr kr kr kr kr kr (.inl rfl) kr (of_decide_eq_true (chk_some e_9)) kr kr ?_
            refine Runs.all kr ?_
            refine blkN ?_
            refine thenN ?_
            exact ⟨(x3 ++ ([x4]), x4, p0, y7, r8), h, Le.of (mo := []) (mr := [(327681, 1507328)]) kr kr kr kr⟩
          · have h := cond_f h hc
            refine Wp.skip ?_
            refine blkN ?_
            refine thenN ?_
            exact ⟨(x3, x4, p0, y7, r8), h, Le.of (mo := []) (mr := []) kr kr kr kr⟩
      · have h := cond_f h hc
        refine Wp.exit ?_
        refine thenE ?_
        refine thenE ?_
        refine blkE ?_
        refine thenN ?_
        exact ⟨x3, h, Le.of (mo := []) (mr := []) kr kr kr kr⟩
theorem impl_UpIn_ok (u : Nat) (p0 : World) (r : (List Int)) (h : impl_UpIn u p0 = some r) : CallOK Tryz.prog 73 [.agg [.t (.int .i64 p0.fC.fSize), .t (.int .i64 p0.fC.fWindow), .t (.int .i64 p0.fC.fSuspect), .t (.int .i64 p0.fC.fForget), .t (.sl 1 (p0.fT.fUp.map (eInt .i64))), .t (.sl 1 (p0.fNew.map (eInt .u8))), .t (.sl 1 (p0.fOld.map Image.enc)), .t (.sl 12 (p0.fN.map Node.enc)), .t (.sl 6 (p0.fD.map Disk.enc)), .t (.sl 3 (p0.fNet.map Packet.enc)), .t (.sl 3 (p0.fLog.map Sent.enc)), .t (.int .i64 p0.fLost)]] (.one (.ow 3 1 (r.map (eInt .i64)))) [] := by
  unfold impl_UpIn at h
  refine CallOK.of_bodyK (fn := Tryz.f73) (m := true) [.agg ((World.enc p0).map .t)] kr rfl kr kr kr kr kr ?_
  refine Wp.srg [] [] ?_
  refine Runs.alln ?_
  refine Wp.fg ⟨[(1, .obj 1 0), (2, .nil)], [(1, ((World.enc p0).map .t))], []⟩ ?_
  refine Wp.srg [] [] ?_
  refine Runs.batch 1 kr ?_
  obtain ⟨r1, e_r1, h⟩ := bind_some h
  refine Runs.callK false 4 124 [] [.agg ((World.enc p0).map .t), .clo 125 []] [.agg ((World.enc p0).map .t), .clo 125 []] (.one (.ow 3 1 (r1.map (eInt .i64)))) [] rfl rfl kr kr kr kr kr (impl_World__nodesIn__impl_UpIn_1_ok u p0 r1 e_r1) kr ?_
  refine Runs.alln ?_
  refine Wp.fg ⟨[(2, .own 262144)], [], [(262144, .live 3 1 (r1.map (eInt .i64)))]⟩ ?_
  refine Wp.ret ?_
  have hr := Option.some.inj h
  subst hr
  exact RetK [.own 262144] (.one (.ow 3 1 (r1.map (eInt .i64)))) [] kr kr (.refl _) .nil
theorem impl_isGen_ok (u : Nat) (p0 : Int) (r : Bool) (h : impl_isGen u p0 = some r) : CallOK Tryz.prog 219 [.one (.t (.int .i64 p0))] (.one (.t (.bool r))) [] := by
  unfold impl_isGen at h
  refine CallOK.of_bodyK (fn := Tryz.f219) (m := false) [.t (.int .i64 p0)] kr rfl kr kr kr kr kr ?_
  refine Wp.srg [] [] ?_
  refine Runs.alln ?_
  refine Wp.fg ⟨[(0, .t (.int .i64 p0)), (2, .t (.bool false))], [], []⟩ ?_
  refine Wp.srg [] [] ?_
  refine Runs.batch 1 kr ?_
  obtain ⟨r1, e_r1, h⟩ := bind_some h
  refine Runs.callK false 4 92 [] [.t (.int .i64 p0), .t (.int .i64 0), .t (.int .i64 1000000)] [.one (.t (.int .i64 p0)), .one (.t (.int .i64 0)), .one (.t (.int .i64 1000000))] (.one (.t (.bool r1))) [] rfl rfl kr kr kr kr kr (impl_within_ok u p0 0 1000000 r1 e_r1) kr ?_
  refine Runs.alln ?_
  refine Wp.fg ⟨[(2, .t (.bool r1))], [], []⟩ ?_
  refine Wp.ret ?_
  have hr := Option.some.inj h
  subst hr
  exact RetK [.t (.bool r1)] (.one (.t (.bool r1))) [] kr kr (.refl _) .nil
theorem impl_isSlot_ok (u : Nat) (p0 : Int) (r : Bool) (h : impl_isSlot u p0 = some r) : CallOK Tryz.prog 220 [.one (.t (.int .i64 p0))] (.one (.t (.bool r))) [] := by
  unfold impl_isSlot at h
  refine CallOK.of_bodyK (fn := Tryz.f220) (m := false) [.t (.int .i64 p0)] kr rfl kr kr kr kr kr ?_
  refine Wp.srg [] [] ?_
  refine Runs.alln ?_
  refine Wp.fg ⟨[(0, .t (.int .i64 p0)), (2, .t (.bool false))], [], []⟩ ?_
  refine Wp.srg [] [] ?_
  refine Runs.batch 3 kr ?_
  rcases tf (p0 == 0) with hc | hc
  · have h := cond_t h hc
    refine Runs.known 5 (v := true) kr hc ?_
    refine Runs.alln ?_
    refine Wp.fg ⟨[(2, .t (.bool true))], [], []⟩ ?_
    refine Wp.ret ?_
    have hr := Option.some.inj h
    subst hr
    exact RetK [.t (.bool true)] (.one (.t (.bool true))) [] kr kr (.refl _) .nil
  · have h := cond_f h hc
    refine Runs.known 5 (v := false) kr hc ?_
    refine Runs.alln ?_
    refine Wp.fg ⟨[(2, .t (.bool (p0 == 1)))], [], []⟩ ?_
    refine Wp.ret ?_
    have hr := Option.some.inj h
    subst hr
    exact RetK [.t (.bool (p0 == 1))] (.one (.t (.bool (p0 == 1)))) [] kr kr (.refl _) .nil
theorem impl_isRecord_ok (u : Nat) (p0 : Record) (r : Bool) (h : impl_isRecord u p0 = some r) : CallOK Tryz.prog 206 [.agg [.t (.int .i64 p0.fGen), .t (.int .i64 p0.fSlot), .t (.int .i64 p0.fLen)]] (.one (.t (.bool r))) [] := by
  unfold impl_isRecord at h
  refine CallOK.of_bodyK (fn := Tryz.f206) (m := false) [.agg ((Record.enc p0).map .t)] kr rfl kr kr kr kr kr ?_
  refine Wp.srg [] [] ?_
  refine Runs.alln ?_
  refine Wp.fg ⟨[(1, .obj 1 0), (2, .t (.bool false))], [(1, ((Record.enc p0).map .t))], []⟩ ?_
  refine Wp.srg [] [] ?_
  refine Runs.batch 2 kr ?_
  obtain ⟨r1, e_r1, h⟩ := bind_some h
  refine Runs.callK false 5 219 [] [.t (.int .i64 p0.fGen)] [.one (.t (.int .i64 p0.fGen))] (.one (.t (.bool r1))) [] rfl rfl kr kr kr kr kr (impl_isGen_ok u p0.fGen r1 e_r1) kr ?_
  refine Runs.batch 1 kr ?_
  rcases tf (r1) with hc | hc
  · have h := cond_t h hc
    refine Runs.known 6 (v := true) kr hc ?_
    refine Runs.batch 2 kr ?_
    obtain ⟨r2, e_r2, h⟩ := bind_some h
    refine Runs.callK false 9 220 [] [.t (.int .i64 p0.fSlot)] [.one (.t (.int .i64 p0.fSlot))] (.one (.t (.bool r2))) [] rfl rfl kr kr kr kr kr (impl_isSlot_ok u p0.fSlot r2 e_r2) kr ?_
    refine Runs.batch 2 kr ?_
    rcases tf (r2) with hc | hc
    · have h := cond_t h hc
      refine Runs.known 11 (v := true) kr hc ?_
      refine Runs.batch 2 kr ?_
      obtain ⟨r3, e_r3, h⟩ := bind_some h
      refine Runs.callK false 14 92 [] [.t (.int .i64 p0.fLen), .t (.int .i64 0), .t (.int .i64 240)] [.one (.t (.int .i64 p0.fLen)), .one (.t (.int .i64 0)), .one (.t (.int .i64 240))] (.one (.t (.bool r3))) [] rfl rfl kr kr kr kr kr (impl_within_ok u p0.fLen 0 240 r3 e_r3) kr ?_
      refine Runs.alln ?_
      refine Wp.fg ⟨[(2, .t (.bool r3))], [], []⟩ ?_
      refine Wp.ret ?_
      have hr := Option.some.inj h
      subst hr
      exact RetK [.t (.bool r3)] (.one (.t (.bool r3))) [] kr kr (.refl _) .nil
    · have h := cond_f h hc
      refine Runs.known 11 (v := false) kr hc ?_
      refine Runs.alln ?_
      refine Wp.fg ⟨[(2, .t (.bool false))], [], []⟩ ?_
      refine Wp.ret ?_
      have hr := Option.some.inj h
      subst hr
      exact RetK [.t (.bool false)] (.one (.t (.bool false))) [] kr kr (.refl _) .nil
  · have h := cond_f h hc
    refine Runs.known 6 (v := false) kr hc ?_
    refine Runs.alln ?_
    refine Wp.fg ⟨[(2, .t (.bool false))], [], []⟩ ?_
    refine Wp.ret ?_
    have hr := Option.some.inj h
    subst hr
    exact RetK [.t (.bool false)] (.one (.t (.bool false))) [] kr kr (.refl _) .nil
theorem impl_Disk__slot__frz0_ok (u : Nat) (p0 : Disk) (p1 : Int) (r : (List Int)) (h : impl_Disk__slot__frz0 u p0 p1 = some r) : CallOK Tryz.prog 187 [.fptr [.sl 1 (p0.fA.map (eInt .u8)), .sl 1 (p0.fB.map (eInt .u8)), .int .i64 p0.fR.fGen, .int .i64 p0.fR.fSlot, .int .i64 p0.fR.fLen, .sl 6 (p0.fP.map Put.enc)], .one (.t (.int .i64 p1))] (.fptr [.sl 1 (r.map (eInt .u8))]) [] := by
  unfold impl_Disk__slot__frz0 at h
  refine CallOK.of_bodyK (fn := Tryz.f187) (m := false) [.fadr (Disk.enc p0), .t (.int .i64 p1)] kr rfl kr kr kr kr kr ?_
  refine Wp.srg [] [] ?_
  refine Runs.alln ?_
  refine Wp.fg ⟨[(0, .fadr (Disk.enc p0)), (1, .t (.int .i64 p1))], [], []⟩ ?_
  refine Wp.seq ?_
  refine Wp.srg [] [] ?_
  refine Runs.alln ?_
  refine Wp.fg ⟨[(0, .fadr (Disk.enc p0)), (6, .t (.bool (p1 == 0)))], [], []⟩ ?_
  refine Wp.cond2 (b := p1 == 0) kr (fun hc => ?_) (fun hc => ?_)
  · have h := cond_t h hc
    refine Wp.srg [] [] ?_
    refine Runs.alln ?_
    refine Wp.fg ⟨[(0, .fadr (Disk.enc p0)), (4, .fadr (Disk.enc p0))], [], []⟩ ?_
    refine Wp.ret ?_
    refine thenR ?_
    have hr := Option.some.inj h
    subst hr
    exact RetK [.fadr (Disk.enc p0)] (.fptr ([.sl 1 (p0.fA.map (eInt .u8))] ++ [.sl 1 (p0.fB.map (eInt .u8)), .int .i64 p0.fR.fGen, .int .i64 p0.fR.fSlot, .int .i64 p0.fR.fLen, .sl 6 (p0.fP.map Put.enc)])) [] kr kr (.cut _ _) .nil
  · have h := cond_f h hc
    refine Wp.skip ?_
    refine thenN ?_
    refine Wp.srg [] [] ?_
    refine Runs.alln ?_
    refine Wp.fg ⟨[(4, .fadr [.sl 1 (p0.fB.map (eInt .u8)), .int .i64 p0.fR.fGen, .int .i64 p0.fR.fSlot, .int .i64 p0.fR.fLen, .sl 6 (p0.fP.map Put.enc)])], [], []⟩ ?_
    refine Wp.ret ?_
    have hr := Option.some.inj h
    subst hr
    exact RetK [.fadr [.sl 1 (p0.fB.map (eInt .u8)), .int .i64 p0.fR.fGen, .int .i64 p0.fR.fSlot, .int .i64 p0.fR.fLen, .sl 6 (p0.fP.map Put.enc)]] (.fptr ([.sl 1 (p0.fB.map (eInt .u8))] ++ [.int .i64 p0.fR.fGen, .int .i64 p0.fR.fSlot, .int .i64 p0.fR.fLen, .sl 6 (p0.fP.map Put.enc)])) [] kr kr (.cut _ _) .nil
theorem impl_isPut_ok (u : Nat) (p0 : Put) (r : Bool) (h : impl_isPut u p0 = some r) : CallOK Tryz.prog 209 [.agg [.t (.int .i64 p0.fWhat), .t (.int .i64 p0.fAt), .t (.sl 1 (p0.fB.map (eInt .u8))), .t (.int .i64 p0.fR.fGen), .t (.int .i64 p0.fR.fSlot), .t (.int .i64 p0.fR.fLen)]] (.one (.t (.bool r))) [] := by
  unfold impl_isPut at h
  refine CallOK.of_bodyK (fn := Tryz.f209) (m := false) [.agg ((Put.enc p0).map .t)] kr rfl kr kr kr kr kr ?_
  refine Wp.srg [] [] ?_
  refine Runs.alln ?_
  refine Wp.fg ⟨[(1, .obj 1 0), (2, .t (.bool false))], [(1, ((Put.enc p0).map .t))], []⟩ ?_
  refine Wp.seq ?_
  refine Wp.srg [] [] ?_
  refine Runs.alln ?_
  refine Wp.fg ⟨[(1, .obj 1 0), (2, .t (.bool false)), (5, .t (.bool (p0.fWhat == 2)))], [(1, ((Put.enc p0).map .t))], []⟩ ?_
  refine Wp.cond2 (b := p0.fWhat == 2) kr (fun hc => ?_) (fun hc => ?_)
  · have h := cond_t h hc
    refine Wp.srg [] [] ?_
    refine Runs.batch 4 kr ?_
    rcases tf (p0.fAt == 0) with hc | hc
    · have h := cond_t h hc
      refine Runs.known 9 (v := true) kr hc ?_
      refine Runs.batch 2 kr ?_
      refine Runs.lenT (y := .t (.sl 1 (p0.fB.map (eInt .u8)))) (e := 5) (eInt .u8) p0.fB 1 rfl rfl rfl kr kr kr kr kr ?_
      refine Runs.batch 3 kr ?_
      rcases tf (((p0.fB.length : Int)) == 0) with hc | hc
      · have h := cond_t h hc
        refine Runs.known 15 (v := true) kr hc ?_
        refine Runs.batch 2 kr ?_
        obtain ⟨r1, e_r1, h⟩ := bind_some h
        refine Runs.callK false 18 206 [] [.agg ((Record.enc p0.fR).map .t)] [.agg ((Record.enc p0.fR).map .t)] (.one (.t (.bool r1))) [] rfl rfl kr kr kr kr kr (impl_isRecord_ok u p0.fR r1 e_r1) kr ?_
        refine Runs.alln ?_
        refine Wp.fg ⟨[(1, .obj 1 0), (2, .t (.bool r1))], [(1, ((Put.enc p0).map .t))], []⟩ ?_
        refine Wp.ret ?_
        refine thenR ?_
        have hr := Option.some.inj h
        subst hr
        exact RetK [.t (.bool r1)] (.one (.t (.bool r1))) [] kr kr (.refl _) .nil
      · have h := cond_f h hc
        refine Runs.known 15 (v := false) kr hc ?_
        refine Runs.alln ?_
        refine Wp.fg ⟨[(1, .obj 1 0), (2, .t (.bool false))], [(1, ((Put.enc p0).map .t))], []⟩ ?_
        refine Wp.ret ?_
        refine thenR ?_
        have hr := Option.some.inj h
        subst hr
        exact RetK [.t (.bool false)] (.one (.t (.bool false))) [] kr kr (.refl _) .nil
    · have h := cond_f h hc
      refine Runs.known 9 (v := false) kr hc ?_
      refine Runs.alln ?_
      refine Wp.fg ⟨[(1, .obj 1 0), (2, .t (.bool false))], [(1, ((Put.enc p0).map .t))], []⟩ ?_
      refine Wp.ret ?_
      refine thenR ?_
      have hr := Option.some.inj h
      subst hr
      exact RetK [.t (.bool false)] (.one (.t (.bool false))) [] kr kr (.refl _) .nil
  · have h := cond_f h hc
    refine Wp.skip ?_
    refine thenN ?_
    refine Wp.srg [] [] ?_
    refine Runs.batch 2 kr ?_
    obtain ⟨r2, e_r2, h⟩ := bind_some h
    refine Runs.callK false 22 220 [] [.t (.int .i64 p0.fWhat)] [.one (.t (.int .i64 p0.fWhat))] (.one (.t (.bool r2))) [] rfl rfl kr kr kr kr kr (impl_isSlot_ok u p0.fWhat r2 e_r2) kr ?_
    refine Runs.batch 1 kr ?_
    rcases tf (r2) with hc | hc
    · have h := cond_t h hc
      refine Runs.known 23 (v := true) kr hc ?_
      refine Runs.batch 6 kr ?_
      rcases tf ([p0.fR.fGen, p0.fR.fSlot, p0.fR.fLen] == [0, 0, 0]) with hc | hc
      · have h := cond_t h hc
        refine Runs.known 29 (v := true) kr hc ?_
        refine Runs.batch 4 kr ?_
        refine Runs.lenT (y := .t (.sl 1 (p0.fB.map (eInt .u8)))) (e := 5) (eInt .u8) p0.fB 1 rfl rfl rfl kr kr kr kr kr ?_
        refine Runs.batch 1 kr ?_
        obtain ⟨r3, e_r3, h⟩ := bind_some h
        refine Runs.callK false 36 92 [] [.t (.int .i64 p0.fAt), .t (.int .i64 0), .t (.int .i64 (bSub .i64 240 ((p0.fB.length : Int))))] [.one (.t (.int .i64 p0.fAt)), .one (.t (.int .i64 0)), .one (.t (.int .i64 (bSub .i64 240 ((p0.fB.length : Int)))))] (.one (.t (.bool r3))) [] rfl rfl kr kr kr kr kr (impl_within_ok u p0.fAt 0 (bSub .i64 240 ((p0.fB.length : Int))) r3 e_r3) kr ?_
        refine Runs.alln ?_
        refine Wp.fg ⟨[(2, .t (.bool r3))], [], []⟩ ?_
        refine Wp.ret ?_
        have hr := Option.some.inj h
        subst hr
        exact RetK [.t (.bool r3)] (.one (.t (.bool r3))) [] kr kr (.refl _) .nil
      · have h := cond_f h hc
        refine Runs.known 29 (v := false) kr hc ?_
        refine Runs.alln ?_
        refine Wp.fg ⟨[(2, .t (.bool false))], [], []⟩ ?_
        refine Wp.ret ?_
        have hr := Option.some.inj h
        subst hr
        exact RetK [.t (.bool false)] (.one (.t (.bool false))) [] kr kr (.refl _) .nil
    · have h := cond_f h hc
      refine Runs.known 23 (v := false) kr hc ?_
      refine Runs.alln ?_
      refine Wp.fg ⟨[(2, .t (.bool false))], [], []⟩ ?_
      refine Wp.ret ?_
      have hr := Option.some.inj h
      subst hr
      exact RetK [.t (.bool false)] (.one (.t (.bool false))) [] kr kr (.refl _) .nil
theorem impl_DiskOk_1_ok (u : Nat) (p0 : Put) (r : Bool) (h : impl_DiskOk_1 u p0 = some r) : CallOK Tryz.prog 208 [.agg [.t (.int .i64 p0.fWhat), .t (.int .i64 p0.fAt), .t (.sl 1 (p0.fB.map (eInt .u8))), .t (.int .i64 p0.fR.fGen), .t (.int .i64 p0.fR.fSlot), .t (.int .i64 p0.fR.fLen)]] (.one (.t (.bool r))) [] := by
  unfold impl_DiskOk_1 at h
  refine CallOK.of_bodyK (fn := Tryz.f208) (m := false) [.agg ((Put.enc p0).map .t)] kr rfl kr kr kr kr kr ?_
  refine Wp.srg [] [] ?_
  refine Runs.alln ?_
  refine Wp.fg ⟨[(1, .obj 1 0), (2, .t (.bool false))], [(1, ((Put.enc p0).map .t))], []⟩ ?_
  refine Wp.srg [] [] ?_
  refine Runs.batch 1 kr ?_
  obtain ⟨r1, e_r1, h⟩ := bind_some h
  refine Runs.callK false 4 209 [] [.agg ((Put.enc p0).map .t)] [.agg ((Put.enc p0).map .t)] (.one (.t (.bool r1))) [] rfl rfl kr kr kr kr kr (impl_isPut_ok u p0 r1 e_r1) kr ?_
  refine Runs.alln ?_
  refine Wp.fg ⟨[(2, .t (.bool (!r1)))], [], []⟩ ?_
  refine Wp.ret ?_
  have hr := Option.some.inj h
  subst hr
  exact RetK [.t (.bool (!r1))] (.one (.t (.bool (!r1)))) [] kr kr (.refl _) .nil
theorem slices_IndexFunc___impl_Put_impl_Put__impl_DiskOk_1_ok (u : Nat) (p0 : List Put) (r : Int) (h : slices_IndexFunc___impl_Put_impl_Put__impl_DiskOk_1 u p0 = some r) : CallOK Tryz.prog 221 [.one (.t (.sl 6 (p0.map Put.enc))), .clo 208 []] (.one (.t (.int .i64 r))) [] := by
  unfold slices_IndexFunc___impl_Put_impl_Put__impl_DiskOk_1 at h
  refine CallOK.of_bodyK (fn := Tryz.f221) (m := false) [.t (.sl 6 (p0.map Put.enc)), .clo 208 []] kr rfl kr kr kr kr kr ?_
  refine Wp.srg [] [] ?_
  refine Runs.alln ?_
  refine Wp.fg ⟨[(0, .t (.sl 6 (p0.map Put.enc))), (1, .clo 208 []), (4, .t (.int .i64 0))], [], []⟩ ?_
  refine Wp.seqJ (α := Unit) (fun a => ⟨[(4, .t (.int .i64 0))], [], []⟩) (fun a => slices_IndexFunc___impl_Put_impl_Put__impl_DiskOk_1_j1 u = some r) ?_ ?_
  · rintro ⟨⟩ h
    change slices_IndexFunc___impl_Put_impl_Put__impl_DiskOk_1_j1 u = some r at h
    unfold slices_IndexFunc___impl_Put_impl_Put__impl_DiskOk_1_j1 at h
    refine Wp.srg [] [] ?_
    refine Runs.alln ?_
    refine Wp.fg ⟨[(4, .t (.int .i64 (-1)))], [], []⟩ ?_
    refine Wp.ret ?_
    have hr := Option.some.inj h
    subst hr
    exact RetK [.t (.int .i64 (-1))] (.one (.t (.int .i64 (-1)))) [] kr kr (.refl _) .nil
  · refine Wp.srg [] [] ?_
    refine Runs.batch 1 kr ?_
    refine Runs.lenT (y := .t (.sl 6 (p0.map Put.enc))) (e := 186) Put.enc p0 6 rfl rfl rfl kr kr kr kr kr ?_
    refine Runs.alln ?_
    refine Wp.fg ⟨[(0, .t (.sl 6 (p0.map Put.enc))), (1, .clo 208 []), (4, .t (.int .i64 0)), (7, .t (.int .i64 ((p0.length : Int)))), (8, .t (.int .i64 0))], [], []⟩ ?_
    refine Wp.block ?_
    refine Wp.loopF (α := (List Put) × Int) (fun a => ⟨[(0, .t (.sl 6 (a.1.map Put.enc))), (1, .clo 208 []), (4, .t (.int .i64 0)), (7, .t (.int .i64 ((a.1.length : Int)))), (8, .t (.int .i64 a.2))], [], []⟩) (fun k_slices_IndexFunc___impl_Put_impl_Put__impl_DiskOk_1_l2 a => slices_IndexFunc___impl_Put_impl_Put__impl_DiskOk_1_l2 u k_slices_IndexFunc___impl_Put_impl_Put__impl_DiskOk_1_l2 a.1 a.2 = some r) ?_ ?_ u (p0, 0) h (Le.of (mo := []) (mr := []) kr kr kr kr)
    · intro a h; unfold slices_IndexFunc___impl_Put_impl_Put__impl_DiskOk_1_l2 at h; cases h
    · rintro k_slices_IndexFunc___impl_Put_impl_Put__impl_DiskOk_1_l2 ⟨p0, x2⟩ h
      change slices_IndexFunc___impl_Put_impl_Put__impl_DiskOk_1_l2 u (k_slices_IndexFunc___impl_Put_impl_Put__impl_DiskOk_1_l2 + 1) p0 x2 = some r at h
      rw [slices_IndexFunc___impl_Put_impl_Put__impl_DiskOk_1_l2] at h
      refine Wp.srg [] [] ?_
      refine Runs.alln ?_
      refine Wp.fg ⟨[(0, .t (.sl 6 (p0.map Put.enc))), (1, .clo 208 []), (4, .t (.int .i64 0)), (7, .t (.int .i64 ((p0.length : Int)))), (8, .t (.int .i64 x2)), (9, .t (.bool (decide (x2 < ((p0.length : Int))))))], [], []⟩ ?_
      refine Wp.seq ?_
      refine Wp.cond2 (b := decide (x2 < ((p0.length : Int)))) kr (fun hc => ?_) (fun hc => ?_)
      · have h := cond_t h hc
        refine Wp.skip ?_
        refine thenN ?_
        refine Wp.seq ?_
        refine Wp.block ?_
        refine Wp.srg [] [] ?_
        refine Runs.alln ?_
        refine Wp.fg ⟨[(0, .t (.sl 6 (p0.map Put.enc))), (1, .clo 208 []), (4, .t (.int .i64 0)), (5, .t (.int .i64 x2)), (7, .t (.int .i64 ((p0.length : Int)))), (8, .t (.int .i64 x2)), (9, .t (.bool (decide (x2 < ((p0.length : Int)))))), (10, .t (.int .i64 x2))], [], []⟩ ?_
        refine Wp.srg [] [] ?_
        refine Runs.batch 3 kr ?_
        obtain ⟨y4, e_y4, h⟩ := bind_some h
        refine Runs.idxT (e := 186) (kk := .i64) (sz := 6) Put.enc p0 x2 rfl kr kr kr kr kr kr e_y4 ?_
        refine Runs.batch 1 kr ?_
        obtain ⟨r5, e_r5, h⟩ := bind_some h
        refine Runs.callK false 16 208 [] [.agg ((Put.enc y4).map .t)] [.agg ((Put.enc y4).map .t)] (.one (.t (.bool r5))) [] rfl rfl kr kr kr kr kr (impl_DiskOk_1_ok u y4 r5 e_r5) kr ?_
        refine Runs.done ?_
        refine thenN ?_
        refine Wp.fg ⟨[(0, .t (.sl 6 (p0.map Put.enc))), (1, .clo 208 []), (4, .t (.int .i64 0)), (5, .t (.int .i64 x2)), (7, .t (.int .i64 ((p0.length : Int)))), (8, .t (.int .i64 x2)), (9, .t (.bool (decide (x2 < ((p0.length : Int)))))), (10, .t (.int .i64 x2)), (11, .clo 208 []), (12, .t (.sl 6 (p0.map Put.enc))), (13, .t (.int .i64 x2)), (14, .fadr (Put.enc y4)), (15, .agg ((Put.enc y4).map .t)), (16, .t (.bool r5))], [], []⟩ ?_
        refine Wp.cond2 (b := r5) kr (fun hc => ?_) (fun hc => ?_)
        · have h := cond_t h hc
          refine Wp.srg [] [] ?_
          refine Runs.alln ?_
          refine Wp.fg ⟨[(0, .t (.sl 6 (p0.map Put.enc))), (1, .clo 208 []), (4, .t (.int .i64 x2)), (5, .t (.int .i64 x2)), (7, .t (.int .i64 ((p0.length : Int)))), (8, .t (.int .i64 x2)), (9, .t (.bool (decide (x2 < ((p0.length : Int)))))), (10, .t (.int .i64 x2)), (11, .clo 208 []), (12, .t (.sl 6 (p0.map Put.enc))), (13, .t (.int .i64 x2)), (14, .fadr (Put.enc y4)), (15, .agg ((Put.enc y4).map .t)), (16, .t (.bool r5)), (17, .t (.int .i64 x2))], [], []⟩ ?_
          refine Wp.ret ?_
          refine blkR ?_
          refine thenR ?_
          refine thenR ?_
          refine blkR ?_
          refine thenR ?_
          have hr := Option.some.inj h
          subst hr
          exact RetK [.t (.int .i64 x2)] (.one (.t (.int .i64 x2))) [] kr kr (.refl _) .nil
        · have h := cond_f h hc
          refine Wp.skip ?_
          refine blkN ?_
          refine thenN ?_
          refine Wp.rg [] [] ?_
          refine Runs.alln ?_
          exact ⟨(p0, bAdd .i64 x2 1), h, Le.of (mo := []) (mr := []) kr kr kr kr⟩
      · have h := cond_f h hc
        refine Wp.exit ?_
        refine thenE ?_
        refine thenE ?_
        refine blkE ?_
        refine thenN ?_
        exact ⟨(), h, Le.of (mo := []) (mr := []) kr kr kr kr⟩
theorem slices_ContainsFunc___impl_Put_impl_Put__impl_DiskOk_1_ok (u : Nat) (p0 : List Put) (r : Bool) (h : slices_ContainsFunc___impl_Put_impl_Put__impl_DiskOk_1 u p0 = some r) : CallOK Tryz.prog 207 [.one (.t (.sl 6 (p0.map Put.enc))), .clo 208 []] (.one (.t (.bool r))) [] := by
  unfold slices_ContainsFunc___impl_Put_impl_Put__impl_DiskOk_1 at h
  refine CallOK.of_bodyK (fn := Tryz.f207) (m := false) [.t (.sl 6 (p0.map Put.enc)), .clo 208 []] kr rfl kr kr kr kr kr ?_
  refine Wp.srg [] [] ?_
  refine Runs.alln ?_
  refine Wp.fg ⟨[(0, .t (.sl 6 (p0.map Put.enc))), (1, .clo 208 []), (4, .t (.bool false))], [], []⟩ ?_
  refine Wp.srg [] [] ?_
  refine Runs.batch 2 kr ?_
  obtain ⟨r1, e_r1, h⟩ := bind_some h
  refine Runs.callK false 7 221 [] [.t (.sl 6 (p0.map Put.enc)), .clo 208 []] [.one (.t (.sl 6 (p0.map Put.enc))), .clo 208 []] (.one (.t (.int .i64 r1))) [] rfl rfl kr kr kr kr kr (slices_IndexFunc___impl_Put_impl_Put__impl_DiskOk_1_ok u p0 r1 e_r1) kr ?_
  refine Runs.alln ?_
  refine Wp.fg ⟨[(4, .t (.bool (decide (r1 ≥ 0))))], [], []⟩ ?_
  refine Wp.ret ?_
  have hr := Option.some.inj h
  subst hr
  exact RetK [.t (.bool (decide (r1 ≥ 0)))] (.one (.t (.bool (decide (r1 ≥ 0))))) [] kr kr (.refl _) .nil
theorem impl_DiskOk_ok (u : Nat) (p0 : Disk) (r : Bool) (h : impl_DiskOk u p0 = some r) : CallOK Tryz.prog 185 [.agg [.t (.sl 1 (p0.fA.map (eInt .u8))), .t (.sl 1 (p0.fB.map (eInt .u8))), .t (.int .i64 p0.fR.fGen), .t (.int .i64 p0.fR.fSlot), .t (.int .i64 p0.fR.fLen), .t (.sl 6 (p0.fP.map Put.enc))]] (.one (.t (.bool r))) [] := by
  unfold impl_DiskOk at h
  refine CallOK.of_bodyK (fn := Tryz.f185) (m := false) [.agg ((Disk.enc p0).map .t)] kr rfl kr kr kr kr kr ?_
  refine Wp.srg [] [] ?_
  refine Runs.alln ?_
  refine Wp.fg ⟨[(1, .obj 1 0), (2, .t (.bool false))], [(1, ((Disk.enc p0).map .t))], []⟩ ?_
  refine Wp.seq ?_
  refine Wp.seqJ (α := Disk × Bool) (fun a => ⟨[(1, .fadr (Disk.enc a.1)), (2, .t (.bool false)), (31, .t (.bool a.2))], [], []⟩) (fun a => impl_DiskOk_j1 u a.1 a.2 = some r) ?_ ?_
  · rintro ⟨p0, x3⟩ h
    change impl_DiskOk_j1 u p0 x3 = some r at h
    unfold impl_DiskOk_j1 at h
    refine Wp.cond2 (b := x3) kr (fun hc => ?_) (fun hc => ?_)
    · have h := cond_t h hc
      refine Wp.srg [] [] ?_
      refine Runs.alln ?_
      refine Wp.fg ⟨[(1, .fadr (Disk.enc p0)), (2, .t (.bool false))], [], []⟩ ?_
      refine Wp.ret ?_
      refine thenR ?_
      have hr := Option.some.inj h
      subst hr
      exact RetK [.t (.bool false)] (.one (.t (.bool false))) [] kr kr (.refl _) .nil
    · have h := cond_f h hc
      refine Wp.skip ?_
      refine thenN ?_
      refine Wp.srg [] [] ?_
      refine Runs.batch 2 kr ?_
      refine Runs.lenT (y := .t (.sl 6 (p0.fP.map Put.enc))) (e := 186) Put.enc p0.fP 6 rfl rfl rfl kr kr kr kr kr ?_
      refine Runs.batch 2 kr ?_
      rcases tf (decide (((p0.fP.length : Int)) ≤ 200)) with hc | hc
      · have h := cond_t h hc
        refine Runs.known 36 (v := true) kr hc ?_
        refine Runs.batch 2 kr ?_
        obtain ⟨r4, e_r4, h⟩ := bind_some h
        refine Runs.callK false 39 207 [] [.t (.sl 6 (p0.fP.map Put.enc)), .clo 208 []] [.one (.t (.sl 6 (p0.fP.map Put.enc))), .clo 208 []] (.one (.t (.bool r4))) [] rfl rfl kr kr kr kr kr (slices_ContainsFunc___impl_Put_impl_Put__impl_DiskOk_1_ok u p0.fP r4 e_r4) kr ?_
        refine Runs.alln ?_
        refine Wp.fg ⟨[(2, .t (.bool (!r4)))], [], []⟩ ?_
        refine Wp.ret ?_
        have hr := Option.some.inj h
        subst hr
        exact RetK [.t (.bool (!r4))] (.one (.t (.bool (!r4)))) [] kr kr (.refl _) .nil
      · have h := cond_f h hc
        refine Runs.known 36 (v := false) kr hc ?_
        refine Runs.alln ?_
        refine Wp.fg ⟨[(2, .t (.bool false))], [], []⟩ ?_
        refine Wp.ret ?_
        have hr := Option.some.inj h
        subst hr
        exact RetK [.t (.bool false)] (.one (.t (.bool false))) [] kr kr (.refl _) .nil
  · refine Wp.le (Le.trans (Le.frzOb 1 (Disk.enc p0) kr kr) (Le.of (s := ⟨[(1, .fadr (Disk.enc p0)), (2, .t (.bool false))], [], []⟩) (mo := []) (mr := []) kr kr kr kr)) ?_
    refine Wp.regionA (pOf []) (rhoOf [(1, .frz), (3, .frz), (4, .frz), (5, .frz), (6, .frz), (7, .frz), (8, .frz), (9, .frz), (10, .frz), (12, .frz), (13, .frz), (14, .frz), (15, .frz), (16, .frz), (18, .frz), (19, .frz), (20, .frz), (21, .frz), (22, .frz), (23, .frz), (24, .frz), (25, .frz), (26, .frz), (27, .frz), (28, .frz), (29, .frz)]) kr kr ?_
    refine Runs.batch 2 kr ?_
    refine Runs.lenT (y := .t (.sl 1 (p0.fA.map (eInt .u8)))) (e := 5) (eInt .u8) p0.fA 1 rfl rfl rfl kr kr kr kr kr ?_
    refine Runs.batch 2 kr ?_
    rcases tf (decide (((p0.fA.length : Int)) > 240)) with hc | hc
    · have h := cond_t h hc
      refine Runs.known 7 (v := true) kr hc ?_
      refine Runs.alln ?_
      exact ⟨(p0, true), h, Le.of (mo := []) (mr := []) kr kr kr kr⟩
    · have h := cond_f h hc
      refine Runs.known 7 (v := false) kr hc ?_
      refine Runs.batch 2 kr ?_
      refine Runs.lenT (y := .t (.sl 1 (p0.fB.map (eInt .u8)))) (e := 5) (eInt .u8) p0.fB 1 rfl rfl rfl kr kr kr kr kr ?_
      refine Runs.batch 3 kr ?_
      rcases tf (decide (((p0.fB.length : Int)) > 240)) with hc | hc
      · have h := cond_t h hc
        refine Runs.known 13 (v := true) kr hc ?_
        refine Runs.alln ?_
        exact ⟨(p0, true), h, Le.of (mo := []) (mr := []) kr kr kr kr⟩
      · have h := cond_f h hc
        refine Runs.known 13 (v := false) kr hc ?_
        refine Runs.batch 2 kr ?_
        obtain ⟨r1, e_r1, h⟩ := bind_some h
        refine Runs.callK false 16 206 [] [.agg ((Record.enc p0.fR).map .t)] [.agg ((Record.enc p0.fR).map .t)] (.one (.t (.bool r1))) [] rfl rfl kr kr kr kr kr (impl_isRecord_ok u p0.fR r1 e_r1) kr ?_
        refine Runs.batch 3 kr ?_
        rcases tf (!r1) with hc | hc
        · have h := cond_t h hc
          refine Runs.known 19 (v := true) kr hc ?_
          refine Runs.alln ?_
          exact ⟨(p0, true), h, Le.of (mo := []) (mr := []) kr kr kr kr⟩
        · have h := cond_f h hc
          refine Runs.known 19 (v := false) kr hc ?_
          refine Runs.batch 6 kr ?_
          obtain ⟨r2, e_r2, h⟩ := bind_some h
          refine Runs.callK false 26 187 [] [.fadr (Disk.enc p0), .t (.int .i64 p0.fR.fSlot)] [.fptr (Disk.enc p0), .one (.t (.int .i64 p0.fR.fSlot))] (.fptr [.sl 1 (r2.map (eInt .u8))]) [] rfl rfl kr kr kr kr kr (impl_Disk__slot__frz0_ok u p0 p0.fR.fSlot r2 e_r2) kr ?_
          refine Runs.batch 2 kr ?_
          refine Runs.lenT (y := .t (.sl 1 (r2.map (eInt .u8)))) (e := 5) (eInt .u8) r2 1 rfl rfl rfl kr kr kr kr kr ?_
          refine Runs.alln ?_
          exact ⟨(p0, decide (p0.fR.fLen > ((r2.length : Int)))), h, Le.of (mo := []) (mr := []) kr kr kr kr⟩
theorem impl_cloned_ok (u : Nat) (p0 : List Int) (r : (List Int)) (h : impl_cloned u p0 = some r) : CallOK Tryz.prog 186 [.one (.t (.sl 1 (p0.map (eInt .u8))))] (.one (.ow 5 1 (r.map (eInt .u8)))) [] := by
  unfold impl_cloned at h
  refine CallOK.of_bodyK (fn := Tryz.f186) (m := true) [.t (.sl 1 (p0.map (eInt .u8)))] kr rfl kr kr kr kr kr ?_
  refine Wp.srg [] [] ?_
  refine Runs.alln ?_
  refine Wp.fg ⟨[(0, .t (.sl 1 (p0.map (eInt .u8)))), (2, .nil)], [], []⟩ ?_
  refine Wp.srg [] [] ?_
  refine Runs.batch 1 kr ?_
  refine Runs.lenT (y := .t (.sl 1 (p0.map (eInt .u8)))) (e := 5) (eInt .u8) p0 1 rfl rfl rfl kr kr kr kr kr ?_
  obtain ⟨_, e_1, h⟩ := bind_some h
  obtain ⟨_, e_2, h⟩ := bind_some h
  refine Runs.mkS (eInt .u8) (0 : Int) 5 5 1 1 0 ((p0.length : Int)) rfl rfl kr kr kr kr kr kr (chk_some e_1) (of_decide_eq_true (chk_some e_2)) kr ?_
  refine Runs.batch 1 kr ?_
  obtain ⟨_, e_3, h⟩ := bind_some h
  refine Runs.appT (y := .t (.sl 1 (p0.map (eInt .u8)))) (eInt .u8) 7 1 5 1 1 327680 (List.replicate (Int.toNat 0) (0 : Int)) p0 rfl rfl rfl rfl kr kr kr kr kr kr (.inl rfl) kr (of_decide_eq_true (chk_some e_3)) kr kr ?_
  refine Runs.alln ?_
  refine Wp.fg ⟨[(2, .own 458752)], [], [(458752, .live 5 1 (((List.replicate (Int.toNat 0) (0 : Int)) ++ p0).map (eInt .u8)))]⟩ ?_
  refine Wp.ret ?_
  have hr := Option.some.inj h
  subst hr
  exact RetK [.own 458752] (.one (.ow 5 1 (((List.replicate (Int.toNat 0) (0 : Int)) ++ p0).map (eInt .u8)))) [] kr kr (.refl _) .nil
theorem impl_Recover_ok (u : Nat) (p0 : Disk) (r : Int × (List Int)) (h : impl_Recover u p0 = some r) : CallOK Tryz.prog 157 [.agg [.t (.sl 1 (p0.fA.map (eInt .u8))), .t (.sl 1 (p0.fB.map (eInt .u8))), .t (.int .i64 p0.fR.fGen), .t (.int .i64 p0.fR.fSlot), .t (.int .i64 p0.fR.fLen), .t (.sl 6 (p0.fP.map Put.enc))]] (.tup [.one (.t (.int .i64 r.1)), .one (.ow 5 1 (r.2.map (eInt .u8)))]) [] := by
  unfold impl_Recover at h
  refine CallOK.of_bodyK (fn := Tryz.f157) (m := true) [.agg ((Disk.enc p0).map .t)] kr rfl kr kr kr kr kr ?_
  refine Wp.srg [] [] ?_
  refine Runs.alln ?_
  refine Wp.fg ⟨[(1, .obj 1 0), (2, .t (.int .i64 0)), (3, .nil)], [(1, ((Disk.enc p0).map .t))], []⟩ ?_
  refine Wp.seq ?_
  refine Wp.srg [] [] ?_
  refine Runs.batch 1 kr ?_
  obtain ⟨r1, e_r1, h⟩ := bind_some h
  refine Runs.callK false 5 185 [] [.agg ((Disk.enc p0).map .t)] [.agg ((Disk.enc p0).map .t)] (.one (.t (.bool r1))) [] rfl rfl kr kr kr kr kr (impl_DiskOk_ok u p0 r1 e_r1) kr ?_
  refine Runs.alln ?_
  refine Wp.fg ⟨[(1, .obj 1 0), (2, .t (.int .i64 0)), (3, .nil), (6, .t (.bool (!r1)))], [(1, ((Disk.enc p0).map .t))], []⟩ ?_
  refine Wp.cond2 (b := !r1) kr (fun hc => ?_) (fun hc => ?_)
  · have h := cond_t h hc
    refine Wp.srg [] [] ?_
    refine Runs.alln ?_
    refine Wp.fg ⟨[(1, .obj 1 0), (2, .t (.int .i64 0)), (3, .nil)], [(1, ((Disk.enc p0).map .t))], []⟩ ?_
    refine Wp.ret ?_
    refine thenR ?_
    have hr := Option.some.inj h
    subst hr
    exact RetK [.t (.int .i64 0), .nil] (.tup [.one (.t (.int .i64 0)), .one (.nil)]) [] kr kr (.tup (.cons (.refl _) (.cons (.one (.nilO _ _)) .nil))) .nil
  · have h := cond_f h hc
    refine Wp.skip ?_
    refine thenN ?_
    refine Wp.seq ?_
    refine Wp.le (Le.trans (Le.frzOb 1 (Disk.enc p0) kr kr) (Le.of (s := ⟨[(1, .fadr (Disk.enc p0)), (2, .t (.int .i64 0)), (3, .nil)], [], []⟩) (mo := []) (mr := []) kr kr kr kr)) ?_
    refine Wp.regionA (pOf []) (rhoOf [(1, .frz), (7, .frz), (8, .frz), (9, .frz), (10, .frz), (11, .frz), (12, .frz), (13, .frz), (14, .frz), (15, .frz), (16, .frz), (17, .frz), (18, .frz), (19, .frz), (20, .own 20)]) kr kr ?_
    refine Runs.batch 6 kr ?_
    obtain ⟨r2, e_r2, h⟩ := bind_some h
    refine Runs.callK false 13 187 [] [.fadr (Disk.enc p0), .t (.int .i64 p0.fR.fSlot)] [.fptr (Disk.enc p0), .one (.t (.int .i64 p0.fR.fSlot))] (.fptr [.sl 1 (r2.map (eInt .u8))]) [] rfl rfl kr kr kr kr kr (impl_Disk__slot__frz0_ok u p0 p0.fR.fSlot r2 e_r2) kr ?_
    refine Runs.batch 5 kr ?_
    obtain ⟨_, e_3, h⟩ := bind_some h
    refine Runs.subsl (e := 5) (ax := .t (.sl 1 (r2.map (eInt .u8)))) (alo := none) (ahi := (some (.t (.int .i64 p0.fR.fLen)))) (eInt .u8) r2 1 0 p0.fR.fLen rfl kr kr kr kr kr kr kr kr kr kr kr (chk_some e_3) ?_
    obtain ⟨r4, e_r4, h⟩ := bind_some h
    refine Runs.callK false 20 186 [] [.t (.sl 1 (((r2.take (Int.toNat p0.fR.fLen)).drop (Int.toNat 0)).map (eInt .u8)))] [.one (.t (.sl 1 (((r2.take (Int.toNat p0.fR.fLen)).drop (Int.toNat 0)).map (eInt .u8))))] (.one (.ow 5 1 (r4.map (eInt .u8)))) [] rfl rfl kr kr kr kr kr (impl_cloned_ok u ((r2.take (Int.toNat p0.fR.fLen)).drop (Int.toNat 0)) r4 e_r4) kr ?_
    refine Runs.alln ?_
    refine Wp.fg ⟨[(2, .t (.int .i64 p0.fR.fGen)), (3, .own 1310720)], [], [(1310720, .live 5 1 (r4.map (eInt .u8)))]⟩ ?_
    refine Wp.ret ?_
    have hr := Option.some.inj h
    subst hr
    exact RetK [.t (.int .i64 p0.fR.fGen), .own 1310720] (.tup [.one (.t (.int .i64 p0.fR.fGen)), .one (.ow 5 1 (r4.map (eInt .u8)))]) [] kr kr (.refl _) .nil
theorem bytes_Equal_ok (u : Nat) (p0 : List Int) (p1 : List Int) (r : Bool) (h : bytes_Equal u p0 p1 = some r) : CallOK Tryz.prog 188 [.one (.t (.sl 1 (p0.map (eInt .u8)))), .one (.t (.sl 1 (p1.map (eInt .u8))))] (.one (.t (.bool r))) [] := by
  unfold bytes_Equal at h
  refine CallOK.of_bodyK (fn := Tryz.f188) (m := false) [.t (.sl 1 (p0.map (eInt .u8))), .t (.sl 1 (p1.map (eInt .u8)))] kr rfl kr kr kr kr kr ?_
  refine Wp.srg [] [] ?_
  refine Runs.alln ?_
  refine Wp.fg ⟨[(0, .t (.sl 1 (p0.map (eInt .u8)))), (1, .t (.sl 1 (p1.map (eInt .u8)))), (4, .t (.bool false))], [], []⟩ ?_
  refine Wp.srg [] [] ?_
  refine Runs.batch 1 kr ?_
  refine Runs.bytesStr (y := .t (.sl 1 (p0.map (eInt .u8)))) (e := 5) p0 1 rfl kr kr kr kr kr kr kr ?_
  refine Runs.batch 1 kr ?_
  refine Runs.bytesStr (y := .t (.sl 1 (p1.map (eInt .u8)))) (e := 5) p1 1 rfl kr kr kr kr kr kr kr ?_
  refine Runs.alln ?_
  refine Wp.fg ⟨[(4, .t (.bool ((strOfNums p0).toList == (strOfNums p1).toList)))], [], []⟩ ?_
  refine Wp.ret ?_
  have hr := Option.some.inj h
  subst hr
  exact RetK [.t (.bool ((strOfNums p0).toList == (strOfNums p1).toList))] (.one (.t (.bool ((strOfNums p0).toList == (strOfNums p1).toList)))) [] kr kr (.refl _) .nil
theorem impl_SameBytes_ok (u : Nat) (p0 : List Int) (p1 : List Int) (r : Bool) (h : impl_SameBytes u p0 p1 = some r) : CallOK Tryz.prog 158 [.one (.t (.sl 1 (p0.map (eInt .u8)))), .one (.t (.sl 1 (p1.map (eInt .u8))))] (.one (.t (.bool r))) [] := by
  unfold impl_SameBytes at h
  refine CallOK.of_bodyK (fn := Tryz.f158) (m := false) [.t (.sl 1 (p0.map (eInt .u8))), .t (.sl 1 (p1.map (eInt .u8)))] kr rfl kr kr kr kr kr ?_
  refine Wp.srg [] [] ?_
  refine Runs.alln ?_
  refine Wp.fg ⟨[(0, .t (.sl 1 (p0.map (eInt .u8)))), (1, .t (.sl 1 (p1.map (eInt .u8)))), (4, .t (.bool false))], [], []⟩ ?_
  refine Wp.srg [] [] ?_
  refine Runs.batch 2 kr ?_
  obtain ⟨r1, e_r1, h⟩ := bind_some h
  refine Runs.callK false 7 188 [] [.t (.sl 1 (p0.map (eInt .u8))), .t (.sl 1 (p1.map (eInt .u8)))] [.one (.t (.sl 1 (p0.map (eInt .u8)))), .one (.t (.sl 1 (p1.map (eInt .u8))))] (.one (.t (.bool r1))) [] rfl rfl kr kr kr kr kr (bytes_Equal_ok u p0 p1 r1 e_r1) kr ?_
  refine Runs.alln ?_
  refine Wp.fg ⟨[(4, .t (.bool r1))], [], []⟩ ?_
  refine Wp.ret ?_
  have hr := Option.some.inj h
  subst hr
  exact RetK [.t (.bool r1)] (.one (.t (.bool r1))) [] kr kr (.refl _) .nil
theorem impl_Holds_ok (u : Nat) (p0 : Disk) (p1 : Int) (p2 : List Int) (r : Bool) (h : impl_Holds u p0 p1 p2 = some r) : CallOK Tryz.prog 117 [.agg [.t (.sl 1 (p0.fA.map (eInt .u8))), .t (.sl 1 (p0.fB.map (eInt .u8))), .t (.int .i64 p0.fR.fGen), .t (.int .i64 p0.fR.fSlot), .t (.int .i64 p0.fR.fLen), .t (.sl 6 (p0.fP.map Put.enc))], .one (.t (.int .i64 p1)), .one (.t (.sl 1 (p2.map (eInt .u8))))] (.one (.t (.bool r))) [] := by
  unfold impl_Holds at h
  refine CallOK.of_bodyK (fn := Tryz.f117) (m := false) [.agg ((Disk.enc p0).map .t), .t (.int .i64 p1), .t (.sl 1 (p2.map (eInt .u8)))] kr rfl kr kr kr kr kr ?_
  refine Wp.srg [] [] ?_
  refine Runs.alln ?_
  refine Wp.fg ⟨[(1, .t (.int .i64 p1)), (2, .t (.sl 1 (p2.map (eInt .u8)))), (3, .obj 3 0), (6, .t (.bool false))], [(3, ((Disk.enc p0).map .t))], []⟩ ?_
  refine Wp.srg [] [] ?_
  refine Runs.batch 1 kr ?_
  obtain ⟨r1, e_r1, h⟩ := bind_some h
  refine Runs.callK false 11 157 [] [.agg ((Disk.enc p0).map .t)] [.agg ((Disk.enc p0).map .t)] (.tup [.one (.t (.int .i64 r1.1)), .one (.ow 5 1 (r1.2.map (eInt .u8)))]) [] rfl rfl kr kr kr kr kr (impl_Recover_ok u p0 r1 e_r1) kr ?_
  refine Runs.alln ?_
  refine Wp.fg ⟨[(1, .t (.int .i64 p1)), (2, .t (.sl 1 (p2.map (eInt .u8)))), (6, .t (.bool false)), (7, .t (.int .i64 r1.1)), (8, .own 721920)], [], [(721920, .live 5 1 (r1.2.map (eInt .u8)))]⟩ ?_
  refine Wp.srg [] [] ?_
  refine Runs.batch 4 kr ?_
  rcases tf (r1.1 == p1) with hc | hc
  · have h := cond_t h hc
    refine Runs.known 17 (v := true) kr hc ?_
    refine Runs.batch 2 kr ?_
    obtain ⟨r2, e_r2, h⟩ := bind_some h
    refine Runs.callBK 20 158 [] [.own 721920, .t (.sl 1 (p2.map (eInt .u8)))] [.one (.t (.sl 1 (r1.2.map (eInt .u8)))), .one (.t (.sl 1 (p2.map (eInt .u8))))] (.one (.t (.bool r2))) rfl rfl kr kr kr kr kr (impl_SameBytes_ok u r1.2 p2 r2 e_r2) (by simp [V.plain, V.plains, C.plain, T.sc]) kr ?_
    refine Runs.alln ?_
    refine Wp.fg ⟨[(6, .t (.bool r2))], [], []⟩ ?_
    refine Wp.ret ?_
    have hr := Option.some.inj h
    subst hr
    exact RetK [.t (.bool r2)] (.one (.t (.bool r2))) [] kr kr (.refl _) .nil
  · have h := cond_f h hc
    refine Runs.known 17 (v := false) kr hc ?_
    refine Runs.alln ?_
    refine Wp.fg ⟨[(6, .t (.bool false))], [], []⟩ ?_
    refine Wp.ret ?_
    have hr := Option.some.inj h
    subst hr
    exact RetK [.t (.bool false)] (.one (.t (.bool false))) [] kr kr (.refl _) .nil
theorem impl_StateOf_ok (u : Nat) (p0 : World) (p1 : Int) (r : Int) (h : impl_StateOf u p0 p1 = some r) : CallOK Tryz.prog 65 [.agg [.t (.int .i64 p0.fC.fSize), .t (.int .i64 p0.fC.fWindow), .t (.int .i64 p0.fC.fSuspect), .t (.int .i64 p0.fC.fForget), .t (.sl 1 (p0.fT.fUp.map (eInt .i64))), .t (.sl 1 (p0.fNew.map (eInt .u8))), .t (.sl 1 (p0.fOld.map Image.enc)), .t (.sl 12 (p0.fN.map Node.enc)), .t (.sl 6 (p0.fD.map Disk.enc)), .t (.sl 3 (p0.fNet.map Packet.enc)), .t (.sl 3 (p0.fLog.map Sent.enc)), .t (.int .i64 p0.fLost)], .one (.t (.int .i64 p1))] (.one (.t (.int .i64 r))) [] := by
  unfold impl_StateOf at h
  refine CallOK.of_bodyK (fn := Tryz.f65) (m := false) [.agg ((World.enc p0).map .t), .t (.int .i64 p1)] kr rfl kr kr kr kr kr ?_
  refine Wp.srg [] [] ?_
  refine Runs.alln ?_
  refine Wp.fg ⟨[(1, .t (.int .i64 p1)), (2, .obj 2 0), (4, .t (.int .i64 0))], [(2, ((World.enc p0).map .t))], []⟩ ?_
  refine Wp.seq ?_
  refine Wp.block ?_
  refine Wp.seqJ (α := Int × Bool × World) (fun a => ⟨[(1, .t (.int .i64 a.1)), (2, .obj 2 0), (4, .t (.int .i64 0)), (5, .t (.bool a.2.1))], [(2, ((World.enc a.2.2).map .t))], []⟩) (fun a => impl_StateOf_j1 u a.1 a.2.1 a.2.2 = some r) ?_ ?_
  · rintro ⟨p1, x3, p0⟩ h
    change impl_StateOf_j1 u p1 x3 p0 = some r at h
    unfold impl_StateOf_j1 at h
    refine Wp.cond2 (b := x3) kr (fun hc => ?_) (fun hc => ?_)
    · have h := cond_t h hc
      refine Wp.srg [] [] ?_
      refine Runs.alln ?_
      refine Wp.fg ⟨[(4, .t (.int .i64 (-1)))], [], []⟩ ?_
      refine Wp.ret ?_
      refine blkR ?_
      refine thenR ?_
      have hr := Option.some.inj h
      subst hr
      exact RetK [.t (.int .i64 (-1))] (.one (.t (.int .i64 (-1)))) [] kr kr (.refl _) .nil
    · have h := cond_f h hc
      refine Wp.seq ?_
      refine Wp.regionA (pOf []) (rhoOf [(1, .frz), (2, .obj 2), (23, .obj 2), (24, .frz), (25, .frz), (26, .frz), (27, .frz), (28, .obj 2), (29, .frz), (30, .frz), (31, .frz), (32, .frz), (33, .frz), (34, .frz)]) kr kr ?_
      refine Runs.batch 3 kr ?_
      obtain ⟨y4, e_y4, h⟩ := bind_some h
      refine Runs.idxT (e := 87) (kk := .i64) (sz := 6) Disk.enc p0.fD p1 rfl kr kr kr kr kr kr e_y4 ?_
      refine Runs.batch 4 kr ?_
      obtain ⟨y5, e_y5, h⟩ := bind_some h
      refine Runs.idxT (e := 89) (kk := .i64) (sz := 1) Image.enc p0.fOld p1 rfl kr kr kr kr kr kr e_y5 ?_
      refine Runs.batch 2 kr ?_
      obtain ⟨r6, e_r6, h⟩ := bind_some h
      refine Runs.callK false 34 117 [] [.agg ((Disk.enc y4).map .t), .t (.int .i64 0), .t (.sl 1 (y5.fB.map (eInt .u8)))] [.agg ((Disk.enc y4).map .t), .one (.t (.int .i64 0)), .one (.t (.sl 1 (y5.fB.map (eInt .u8))))] (.one (.t (.bool r6))) [] rfl rfl kr kr kr kr kr (impl_Holds_ok u y4 0 y5.fB r6 e_r6) kr ?_
      refine Runs.alln ?_
      refine Wp.fg ⟨[(1, .t (.int .i64 p1)), (2, .obj 2 0), (4, .t (.int .i64 0)), (22, .t (.bool r6))], [(2, ((World.enc p0).map .t))], []⟩ ?_
      refine Wp.cond2 (b := r6) kr (fun hc => ?_) (fun hc => ?_)
      · have h := cond_t h hc
        refine Wp.srg [] [] ?_
        refine Runs.alln ?_
        refine Wp.fg ⟨[(4, .t (.int .i64 0))], [], []⟩ ?_
        refine Wp.ret ?_
        refine blkR ?_
        refine thenR ?_
        have hr := Option.some.inj h
        subst hr
        exact RetK [.t (.int .i64 0)] (.one (.t (.int .i64 0))) [] kr kr (.refl _) .nil
      · have h := cond_f h hc
        refine Wp.seq ?_
        refine Wp.regionA (pOf []) (rhoOf [(1, .frz), (2, .obj 2), (36, .obj 2), (37, .frz), (38, .frz), (39, .frz), (40, .frz), (41, .obj 2), (42, .frz), (43, .frz)]) kr kr ?_
        refine Runs.batch 3 kr ?_
        obtain ⟨y7, e_y7, h⟩ := bind_some h
        refine Runs.idxT (e := 87) (kk := .i64) (sz := 6) Disk.enc p0.fD p1 rfl kr kr kr kr kr kr e_y7 ?_
        refine Runs.batch 3 kr ?_
        obtain ⟨r8, e_r8, h⟩ := bind_some h
        refine Runs.callK false 43 117 [] [.agg ((Disk.enc y7).map .t), .t (.int .i64 1), .t (.sl 1 (p0.fNew.map (eInt .u8)))] [.agg ((Disk.enc y7).map .t), .one (.t (.int .i64 1)), .one (.t (.sl 1 (p0.fNew.map (eInt .u8))))] (.one (.t (.bool r8))) [] rfl rfl kr kr kr kr kr (impl_Holds_ok u y7 1 p0.fNew r8 e_r8) kr ?_
        refine Runs.alln ?_
        refine Wp.fg ⟨[(4, .t (.int .i64 0)), (35, .t (.bool r8))], [], []⟩ ?_
        refine Wp.cond2 (b := r8) kr (fun hc => ?_) (fun hc => ?_)
        · have h := cond_t h hc
          refine Wp.srg [] [] ?_
          refine Runs.alln ?_
          refine Wp.fg ⟨[(4, .t (.int .i64 1))], [], []⟩ ?_
          refine Wp.ret ?_
          refine blkR ?_
          refine thenR ?_
          have hr := Option.some.inj h
          subst hr
          exact RetK [.t (.int .i64 1)] (.one (.t (.int .i64 1))) [] kr kr (.refl _) .nil
        · have h := cond_f h hc
          refine Wp.skip ?_
          refine blkN ?_
          refine thenN ?_
          refine Wp.srg [] [] ?_
          refine Runs.alln ?_
          refine Wp.fg ⟨[(4, .t (.int .i64 (-1)))], [], []⟩ ?_
          refine Wp.ret ?_
          have hr := Option.some.inj h
          subst hr
          exact RetK [.t (.int .i64 (-1))] (.one (.t (.int .i64 (-1)))) [] kr kr (.refl _) .nil
  · refine Wp.rg [] [] ?_
    refine Runs.batch 3 kr ?_
    refine Runs.lenT (y := .t (.sl 6 (p0.fD.map Disk.enc))) (e := 87) Disk.enc p0.fD 6 rfl rfl rfl kr kr kr kr kr ?_
    refine Runs.batch 1 kr ?_
    obtain ⟨r1, e_r1, h⟩ := bind_some h
    refine Runs.callK false 11 92 [] [.t (.int .i64 p1), .t (.int .i64 0), .t (.int .i64 (bSub .i64 ((p0.fD.length : Int)) 1))] [.one (.t (.int .i64 p1)), .one (.t (.int .i64 0)), .one (.t (.int .i64 (bSub .i64 ((p0.fD.length : Int)) 1)))] (.one (.t (.bool r1))) [] rfl rfl kr kr kr kr kr (impl_within_ok u p1 0 (bSub .i64 ((p0.fD.length : Int)) 1) r1 e_r1) kr ?_
    refine Runs.batch 2 kr ?_
    rcases tf (!r1) with hc | hc
    · have h := cond_t h hc
      refine Runs.known 13 (v := true) kr hc ?_
      refine Runs.alln ?_
      exact ⟨(p1, true, p0), h, Le.of (mo := []) (mr := []) kr kr kr kr⟩
    · have h := cond_f h hc
      refine Runs.known 13 (v := false) kr hc ?_
      refine Runs.batch 3 kr ?_
      refine Runs.lenT (y := .t (.sl 1 (p0.fOld.map Image.enc))) (e := 89) Image.enc p0.fOld 1 rfl rfl rfl kr kr kr kr kr ?_
      refine Runs.batch 1 kr ?_
      obtain ⟨r2, e_r2, h⟩ := bind_some h
      refine Runs.callK false 19 92 [] [.t (.int .i64 p1), .t (.int .i64 0), .t (.int .i64 (bSub .i64 ((p0.fOld.length : Int)) 1))] [.one (.t (.int .i64 p1)), .one (.t (.int .i64 0)), .one (.t (.int .i64 (bSub .i64 ((p0.fOld.length : Int)) 1)))] (.one (.t (.bool r2))) [] rfl rfl kr kr kr kr kr (impl_within_ok u p1 0 (bSub .i64 ((p0.fOld.length : Int)) 1) r2 e_r2) kr ?_
      refine Runs.alln ?_
      exact ⟨(p1, !r2, p0), h, Le.of (mo := []) (mr := []) kr kr kr kr⟩
theorem impl_LateIn_1_ok (u : Nat) (p0 : Int) (q0 : World) (r : Bool) (h : impl_LateIn_1 u p0 q0 = some r) : CallOK Tryz.prog 88 [.one (.t (.int .i64 p0)), .fptr [.int .i64 q0.fC.fSize, .int .i64 q0.fC.fWindow, .int .i64 q0.fC.fSuspect, .int .i64 q0.fC.fForget, .sl 1 (q0.fT.fUp.map (eInt .i64)), .sl 1 (q0.fNew.map (eInt .u8)), .sl 1 (q0.fOld.map Image.enc), .sl 12 (q0.fN.map Node.enc), .sl 6 (q0.fD.map Disk.enc), .sl 3 (q0.fNet.map Packet.enc), .sl 3 (q0.fLog.map Sent.enc), .int .i64 q0.fLost]] (.one (.t (.bool r))) [] := by
  unfold impl_LateIn_1 at h
  refine CallOK.of_bodyK (fn := Tryz.f88) (m := false) [.t (.int .i64 p0), .fadr (World.enc q0)] kr rfl kr kr kr kr kr ?_
  refine Wp.srg [] [] ?_
  refine Runs.alln ?_
  refine Wp.fg ⟨[(0, .t (.int .i64 p0)), (1, .fadr (World.enc q0)), (3, .t (.bool false))], [], []⟩ ?_
  refine Wp.srg [] [] ?_
  refine Runs.batch 3 kr ?_
  rcases tf (p0 == 0) with hc | hc
  · have h := cond_t h hc
    refine Runs.known 6 (v := true) kr hc ?_
    refine Runs.alln ?_
    refine Wp.fg ⟨[(3, .t (.bool true))], [], []⟩ ?_
    refine Wp.ret ?_
    have hr := Option.some.inj h
    subst hr
    exact RetK [.t (.bool true)] (.one (.t (.bool true))) [] kr kr (.refl _) .nil
  · have h := cond_f h hc
    refine Runs.known 6 (v := false) kr hc ?_
    refine Runs.batch 2 kr ?_
    obtain ⟨r1, e_r1, h⟩ := bind_some h
    refine Runs.callK false 9 65 [] [.agg ((World.enc q0).map .t), .t (.int .i64 p0)] [.agg ((World.enc q0).map .t), .one (.t (.int .i64 p0))] (.one (.t (.int .i64 r1))) [] rfl rfl kr kr kr kr kr (impl_StateOf_ok u q0 p0 r1 e_r1) kr ?_
    refine Runs.alln ?_
    refine Wp.fg ⟨[(3, .t (.bool (r1 == 1)))], [], []⟩ ?_
    refine Wp.ret ?_
    have hr := Option.some.inj h
    subst hr
    exact RetK [.t (.bool (r1 == 1))] (.one (.t (.bool (r1 == 1)))) [] kr kr (.refl _) .nil
theorem slices_IndexFunc___int_int__impl_LateIn_1_ok (u : Nat) (p0 : List Int) (p1_0 : World) (r : Int) (h : slices_IndexFunc___int_int__impl_LateIn_1 u p0 p1_0 = some r) : CallOK Tryz.prog 114 [.one (.t (.sl 1 (p0.map (eInt .i64)))), .clo 88 [.fptr [.int .i64 p1_0.fC.fSize, .int .i64 p1_0.fC.fWindow, .int .i64 p1_0.fC.fSuspect, .int .i64 p1_0.fC.fForget, .sl 1 (p1_0.fT.fUp.map (eInt .i64)), .sl 1 (p1_0.fNew.map (eInt .u8)), .sl 1 (p1_0.fOld.map Image.enc), .sl 12 (p1_0.fN.map Node.enc), .sl 6 (p1_0.fD.map Disk.enc), .sl 3 (p1_0.fNet.map Packet.enc), .sl 3 (p1_0.fLog.map Sent.enc), .int .i64 p1_0.fLost]]] (.one (.t (.int .i64 r))) [] := by
  unfold slices_IndexFunc___int_int__impl_LateIn_1 at h
  refine CallOK.of_bodyK (fn := Tryz.f114) (m := false) [.t (.sl 1 (p0.map (eInt .i64))), .clo 88 [.fadr (World.enc p1_0)]] kr rfl kr kr kr kr kr ?_
  refine Wp.srg [] [] ?_
  refine Runs.alln ?_
  refine Wp.fg ⟨[(0, .t (.sl 1 (p0.map (eInt .i64)))), (1, .clo 88 [.fadr (World.enc p1_0)]), (4, .t (.int .i64 0))], [], []⟩ ?_
  refine Wp.seqJ (α := Unit) (fun a => ⟨[(4, .t (.int .i64 0))], [], []⟩) (fun a => slices_IndexFunc___int_int__impl_LateIn_1_j1 u = some r) ?_ ?_
  · rintro ⟨⟩ h
    change slices_IndexFunc___int_int__impl_LateIn_1_j1 u = some r at h
    unfold slices_IndexFunc___int_int__impl_LateIn_1_j1 at h
    refine Wp.srg [] [] ?_
    refine Runs.alln ?_
    refine Wp.fg ⟨[(4, .t (.int .i64 (-1)))], [], []⟩ ?_
    refine Wp.ret ?_
    have hr := Option.some.inj h
    subst hr
    exact RetK [.t (.int .i64 (-1))] (.one (.t (.int .i64 (-1)))) [] kr kr (.refl _) .nil
  · refine Wp.srg [] [] ?_
    refine Runs.batch 1 kr ?_
    refine Runs.lenT (y := .t (.sl 1 (p0.map (eInt .i64)))) (e := 3) (eInt .i64) p0 1 rfl rfl rfl kr kr kr kr kr ?_
    refine Runs.alln ?_
    refine Wp.fg ⟨[(0, .t (.sl 1 (p0.map (eInt .i64)))), (1, .clo 88 [.fadr (World.enc p1_0)]), (4, .t (.int .i64 0)), (7, .t (.int .i64 ((p0.length : Int)))), (8, .t (.int .i64 0))], [], []⟩ ?_
    refine Wp.block ?_
    refine Wp.loopF (α := (List Int) × World × Int) (fun a => ⟨[(0, .t (.sl 1 (a.1.map (eInt .i64)))), (1, .clo 88 [.fadr (World.enc a.2.1)]), (4, .t (.int .i64 0)), (7, .t (.int .i64 ((a.1.length : Int)))), (8, .t (.int .i64 a.2.2))], [], []⟩) (fun k_slices_IndexFunc___int_int__impl_LateIn_1_l2 a => slices_IndexFunc___int_int__impl_LateIn_1_l2 u k_slices_IndexFunc___int_int__impl_LateIn_1_l2 a.1 a.2.1 a.2.2 = some r) ?_ ?_ u (p0, p1_0, 0) h (Le.of (mo := []) (mr := []) kr kr kr kr)
    · intro a h; unfold slices_IndexFunc___int_int__impl_LateIn_1_l2 at h; cases h
    · rintro k_slices_IndexFunc___int_int__impl_LateIn_1_l2 ⟨p0, p1_0, x2⟩ h
      change slices_IndexFunc___int_int__impl_LateIn_1_l2 u (k_slices_IndexFunc___int_int__impl_LateIn_1_l2 + 1) p0 p1_0 x2 = some r at h
      rw [slices_IndexFunc___int_int__impl_LateIn_1_l2] at h
      refine Wp.srg [] [] ?_
      refine Runs.alln ?_
      refine Wp.fg ⟨[(0, .t (.sl 1 (p0.map (eInt .i64)))), (1, .clo 88 [.fadr (World.enc p1_0)]), (4, .t (.int .i64 0)), (7, .t (.int .i64 ((p0.length : Int)))), (8, .t (.int .i64 x2)), (9, .t (.bool (decide (x2 < ((p0.length : Int))))))], [], []⟩ ?_
      refine Wp.seq ?_
      refine Wp.cond2 (b := decide (x2 < ((p0.length : Int)))) kr (fun hc => ?_) (fun hc => ?_)
      · have h := cond_t h hc
        refine Wp.skip ?_
        refine thenN ?_
        refine Wp.seq ?_
        refine Wp.block ?_
        refine Wp.srg [] [] ?_
        refine Runs.alln ?_
        refine Wp.fg ⟨[(0, .t (.sl 1 (p0.map (eInt .i64)))), (1, .clo 88 [.fadr (World.enc p1_0)]), (4, .t (.int .i64 0)), (5, .t (.int .i64 x2)), (7, .t (.int .i64 ((p0.length : Int)))), (8, .t (.int .i64 x2)), (9, .t (.bool (decide (x2 < ((p0.length : Int)))))), (10, .t (.int .i64 x2))], [], []⟩ ?_
        refine Wp.srg [] [] ?_
        refine Runs.batch 3 kr ?_
        obtain ⟨y4, e_y4, h⟩ := bind_some h
        refine Runs.idxT (e := 3) (kk := .i64) (sz := 1) (eInt .i64) p0 x2 rfl kr kr kr kr kr kr e_y4 ?_
        refine Runs.batch 1 kr ?_
        obtain ⟨r5, e_r5, h⟩ := bind_some h
        refine Runs.callK false 16 88 [.fadr (World.enc p1_0)] [.t (.int .i64 y4)] [.one (.t (.int .i64 y4)), .fptr (World.enc p1_0)] (.one (.t (.bool r5))) [] rfl rfl kr kr kr kr kr (impl_LateIn_1_ok u y4 p1_0 r5 e_r5) kr ?_
        refine Runs.done ?_
        refine thenN ?_
        refine Wp.fg ⟨[(0, .t (.sl 1 (p0.map (eInt .i64)))), (1, .clo 88 [.fadr (World.enc p1_0)]), (4, .t (.int .i64 0)), (5, .t (.int .i64 x2)), (7, .t (.int .i64 ((p0.length : Int)))), (8, .t (.int .i64 x2)), (9, .t (.bool (decide (x2 < ((p0.length : Int)))))), (10, .t (.int .i64 x2)), (11, .clo 88 [.fadr (World.enc p1_0)]), (12, .t (.sl 1 (p0.map (eInt .i64)))), (13, .t (.int .i64 x2)), (14, .fadr [.int .i64 y4]), (15, .t (.int .i64 y4)), (16, .t (.bool r5))], [], []⟩ ?_
        refine Wp.cond2 (b := r5) kr (fun hc => ?_) (fun hc => ?_)
        · have h := cond_t h hc
          refine Wp.srg [] [] ?_
          refine Runs.alln ?_
          refine Wp.fg ⟨[(0, .t (.sl 1 (p0.map (eInt .i64)))), (1, .clo 88 [.fadr (World.enc p1_0)]), (4, .t (.int .i64 x2)), (5, .t (.int .i64 x2)), (7, .t (.int .i64 ((p0.length : Int)))), (8, .t (.int .i64 x2)), (9, .t (.bool (decide (x2 < ((p0.length : Int)))))), (10, .t (.int .i64 x2)), (11, .clo 88 [.fadr (World.enc p1_0)]), (12, .t (.sl 1 (p0.map (eInt .i64)))), (13, .t (.int .i64 x2)), (14, .fadr [.int .i64 y4]), (15, .t (.int .i64 y4)), (16, .t (.bool r5)), (17, .t (.int .i64 x2))], [], []⟩ ?_
          refine Wp.ret ?_
          refine blkR ?_
          refine thenR ?_
          refine thenR ?_
          refine blkR ?_
          refine thenR ?_
          have hr := Option.some.inj h
          subst hr
          exact RetK [.t (.int .i64 x2)] (.one (.t (.int .i64 x2))) [] kr kr (.refl _) .nil
        · have h := cond_f h hc
          refine Wp.skip ?_
          refine blkN ?_
          refine thenN ?_
          refine Wp.rg [] [] ?_
          refine Runs.alln ?_
          exact ⟨(p0, p1_0, bAdd .i64 x2 1), h, Le.of (mo := []) (mr := []) kr kr kr kr⟩
      · have h := cond_f h hc
        refine Wp.exit ?_
        refine thenE ?_
        refine thenE ?_
        refine blkE ?_
        refine thenN ?_
        exact ⟨(), h, Le.of (mo := []) (mr := []) kr kr kr kr⟩
theorem slices_DeleteFunc___int_int__impl_LateIn_1_ok (u : Nat) (p0 : List Int) (p1_0 : World) (r : (List Int)) (h : slices_DeleteFunc___int_int__impl_LateIn_1 u p0 p1_0 = some r) : CallOK Tryz.prog 87 [.one (.ow 3 1 (p0.map (eInt .i64))), .clo 88 [.fptr [.int .i64 p1_0.fC.fSize, .int .i64 p1_0.fC.fWindow, .int .i64 p1_0.fC.fSuspect, .int .i64 p1_0.fC.fForget, .sl 1 (p1_0.fT.fUp.map (eInt .i64)), .sl 1 (p1_0.fNew.map (eInt .u8)), .sl 1 (p1_0.fOld.map Image.enc), .sl 12 (p1_0.fN.map Node.enc), .sl 6 (p1_0.fD.map Disk.enc), .sl 3 (p1_0.fNet.map Packet.enc), .sl 3 (p1_0.fLog.map Sent.enc), .int .i64 p1_0.fLost]]] (.one (.t (.sl 1 (r.map (eInt .i64))))) [] := by
  unfold slices_DeleteFunc___int_int__impl_LateIn_1 at h
  refine CallOK.of_bodyK (fn := Tryz.f87) (m := false) [.own 58982400, .clo 88 [.fadr (World.enc p1_0)]] kr rfl kr kr kr kr kr ?_
  refine Wp.srg [] [] ?_
  refine Runs.alln ?_
  refine Wp.fg ⟨[(0, .own 58982400), (1, .clo 88 [.fadr (World.enc p1_0)]), (4, .nil)], [], [(58982400, .live 3 1 (p0.map (eInt .i64)))]⟩ ?_
  refine Wp.srg [] [] ?_
  refine Runs.batch 2 kr ?_
  obtain ⟨r1, e_r1, h⟩ := bind_some h
  refine Runs.callBK 10 114 [] [.own 58982400, .clo 88 [.fadr (World.enc p1_0)]] [.one (.t (.sl 1 (p0.map (eInt .i64)))), .clo 88 [.fptr (World.enc p1_0)]] (.one (.t (.int .i64 r1))) rfl rfl kr kr kr kr kr (slices_IndexFunc___int_int__impl_LateIn_1_ok u p0 p1_0 r1 e_r1) (by simp [V.plain, V.plains, C.plain, T.sc]) kr ?_
  refine Runs.alln ?_
  refine Wp.fg ⟨[(0, .own 58982400), (1, .clo 88 [.fadr (World.enc p1_0)]), (4, .nil), (5, .t (.int .i64 r1))], [], [(58982400, .live 3 1 (p0.map (eInt .i64)))]⟩ ?_
  refine Wp.seq ?_
  refine Wp.srg [] [] ?_
  refine Runs.alln ?_
  refine Wp.fg ⟨[(0, .own 58982400), (1, .clo 88 [.fadr (World.enc p1_0)]), (4, .nil), (5, .t (.int .i64 r1)), (12, .t (.bool (r1 == (-1))))], [], [(58982400, .live 3 1 (p0.map (eInt .i64)))]⟩ ?_
  refine Wp.cond2 (b := r1 == (-1)) kr (fun hc => ?_) (fun hc => ?_)
  · have h := cond_t h hc
    refine Wp.srg [] [] ?_
    refine Runs.alln ?_
    refine Wp.fg ⟨[(0, .own 58982400), (1, .clo 88 [.fadr (World.enc p1_0)]), (4, .own 58982400), (5, .t (.int .i64 r1))], [], [(58982400, .live 3 1 (p0.map (eInt .i64)))]⟩ ?_
    refine Wp.ret ?_
    refine thenR ?_
    have hr := Option.some.inj h
    subst hr
    exact RetK [.own 58982400] (.one (.t (.sl 1 (p0.map (eInt .i64))))) [] kr kr (.refl _) .nil
  · have h := cond_f h hc
    refine Wp.skip ?_
    refine thenN ?_
    refine Wp.seqJ (α := (List Int) × Int) (fun a => ⟨[(0, .own 1), (4, .nil), (5, .t (.int .i64 a.2))], [], [(1, .live 3 1 (a.1.map (eInt .i64)))]⟩) (fun a => slices_DeleteFunc___int_int__impl_LateIn_1_j1 u a.1 a.2 = some r) ?_ ?_
    · rintro ⟨x16, x17⟩ h
      change slices_DeleteFunc___int_int__impl_LateIn_1_j1 u x16 x17 = some r at h
      unfold slices_DeleteFunc___int_int__impl_LateIn_1_j1 at h
      refine Wp.srg [] [(38, .win 0)] ?_
      refine Runs.batch 2 kr ?_
      obtain ⟨_, e_18, h⟩ := bind_some h
      refine Runs.subO (e := 3) (e' := 3) (alo := (some (.t (.int .i64 x17)))) (eInt .i64) x16 1 1 x17 rfl kr kr kr kr kr kr kr kr kr (chk_some e_18) ?_
      refine Runs.clearO (e := 3) (e' := 3) (eInt .i64) x16 0 (.int .i64 0) 1 (Int.toNat x17) rfl rfl rfl kr kr kr kr kr kr kr rfl (sub_le (chk_some e_18)) ?_
      refine Runs.done ?_
      refine thenN ?_
      refine Wp.fg ⟨[(0, .own 1), (4, .nil), (5, .t (.int .i64 x17))], [], [(1, .live 3 1 ((x16.take (Int.toNat x17) ++ List.replicate (x16.length - Int.toNat x17) 0).map (eInt .i64)))]⟩ ?_
      refine Wp.srg [] [] ?_
      refine Runs.batch 2 kr ?_
      obtain ⟨_, e_19, h⟩ := bind_some h
      refine Runs.subsl (e := 3) (ax := .own 1) (alo := none) (ahi := (some (.t (.int .i64 x17)))) (eInt .i64) (x16.take (Int.toNat x17) ++ List.replicate (x16.length - Int.toNat x17) 0) 1 0 x17 rfl kr kr kr kr kr kr kr kr kr kr kr (chk_some e_19) ?_
      refine Runs.alln ?_
      refine Wp.fg ⟨[(4, .t (.sl 1 ((((x16.take (Int.toNat x17) ++ List.replicate (x16.length - Int.toNat x17) 0).take (Int.toNat x17)).drop (Int.toNat 0)).map (eInt .i64))))], [], []⟩ ?_
      refine Wp.ret ?_
      have hr := Option.some.inj h
      subst hr
      exact RetK [.t (.sl 1 ((((x16.take (Int.toNat x17) ++ List.replicate (x16.length - Int.toNat x17) 0).take (Int.toNat x17)).drop (Int.toNat 0)).map (eInt .i64)))] (.one (.t (.sl 1 ((((x16.take (Int.toNat x17) ++ List.replicate (x16.length - Int.toNat x17) 0).take (Int.toNat x17)).drop (Int.toNat 0)).map (eInt .i64))))) [] kr kr (.refl _) .nil
    · refine Wp.srg [] [] ?_
      refine Runs.alln ?_
      refine Wp.fg ⟨[(0, .own 58982400), (1, .clo 88 [.fadr (World.enc p1_0)]), (4, .nil), (5, .t (.int .i64 r1)), (6, .t (.int .i64 (bAdd .i64 r1 1)))], [], [(58982400, .live 3 1 (p0.map (eInt .i64)))]⟩ ?_
      refine Wp.block ?_
      refine Wp.loopF (α := (List Int) × World × Int × Int) (fun a => ⟨[(0, .own 1), (1, .clo 88 [.fadr (World.enc a.2.1)]), (4, .nil), (5, .t (.int .i64 a.2.2.1)), (6, .t (.int .i64 a.2.2.2))], [], [(1, .live 3 1 (a.1.map (eInt .i64)))]⟩) (fun k_slices_DeleteFunc___int_int__impl_LateIn_1_l2 a => slices_DeleteFunc___int_int__impl_LateIn_1_l2 u k_slices_DeleteFunc___int_int__impl_LateIn_1_l2 a.1 a.2.1 a.2.2.1 a.2.2.2 = some r) ?_ ?_ u (p0, p1_0, r1, bAdd .i64 r1 1) h (Le.of (mo := []) (mr := [(1, 58982400)]) kr kr kr kr)
      · intro a h; unfold slices_DeleteFunc___int_int__impl_LateIn_1_l2 at h; cases h
      · rintro k_slices_DeleteFunc___int_int__impl_LateIn_1_l2 ⟨x5, p1_0, x6, x7⟩ h
        change slices_DeleteFunc___int_int__impl_LateIn_1_l2 u (k_slices_DeleteFunc___int_int__impl_LateIn_1_l2 + 1) x5 p1_0 x6 x7 = some r at h
        rw [slices_DeleteFunc___int_int__impl_LateIn_1_l2] at h
        refine Wp.seq ?_
        refine Wp.srg [] [] ?_
        refine Runs.batch 2 kr ?_
        refine Runs.lenT (y := .own 1) (e := 3) (eInt .i64) x5 1 rfl rfl rfl kr kr kr kr kr ?_
        refine Runs.alln ?_
        refine Wp.fg ⟨[(0, .own 1), (1, .clo 88 [.fadr (World.enc p1_0)]), (4, .nil), (5, .t (.int .i64 x6)), (6, .t (.int .i64 x7)), (16, .t (.int .i64 x7)), (17, .own 1), (18, .t (.int .i64 ((x5.length : Int)))), (19, .t (.bool (decide (x7 < ((x5.length : Int))))))], [], [(1, .live 3 1 (x5.map (eInt .i64)))]⟩ ?_
        refine Wp.cond2 (b := decide (x7 < ((x5.length : Int)))) kr (fun hc => ?_) (fun hc => ?_)
        · have h := cond_t h hc
          refine Wp.skip ?_
          refine thenN ?_
          refine Wp.seqJ (α := (List Int) × World × Int × Int × Int × (List Int) × Bool) (fun a => ⟨[(0, .own 1), (1, .clo 88 [.fadr (World.enc a.2.1)]), (4, .nil), (5, .t (.int .i64 a.2.2.1)), (6, .t (.int .i64 a.2.2.2.1)), (7, .t (.int .i64 a.2.2.2.2.1)), (16, .t (.int .i64 a.2.2.2.1)), (17, .own 1), (18, .t (.int .i64 ((a.2.2.2.2.2.1.length : Int)))), (19, .t (.bool (decide (a.2.2.2.1 < ((a.2.2.2.2.2.1.length : Int)))))), (22, .own 1), (23, .t (.int .i64 a.2.2.2.1)), (25, .t (.int .i64 a.2.2.2.2.1)), (26, .clo 88 [.fadr (World.enc a.2.1)]), (27, .t (.int .i64 a.2.2.2.2.1)), (28, .t (.bool a.2.2.2.2.2.2)), (29, .t (.bool (!a.2.2.2.2.2.2)))], [], [(1, .live 3 1 (a.1.map (eInt .i64)))]⟩) (fun a => slices_DeleteFunc___int_int__impl_LateIn_1_j3 u (fun z0 z1 z2 z3 => slices_DeleteFunc___int_int__impl_LateIn_1_l2 u k_slices_DeleteFunc___int_int__impl_LateIn_1_l2 z0 z1 z2 z3) a.1 a.2.1 a.2.2.1 a.2.2.2.1 a.2.2.2.2.1 a.2.2.2.2.2.1 a.2.2.2.2.2.2 = some r) ?_ ?_
          · rintro ⟨x14, p1_0, x15, x7, y11, x5, r12⟩ h
            change slices_DeleteFunc___int_int__impl_LateIn_1_j3 u (fun z0 z1 z2 z3 => slices_DeleteFunc___int_int__impl_LateIn_1_l2 u k_slices_DeleteFunc___int_int__impl_LateIn_1_l2 z0 z1 z2 z3) x14 p1_0 x15 x7 y11 x5 r12 = some r at h
            unfold slices_DeleteFunc___int_int__impl_LateIn_1_j3 at h
            refine Wp.rg [] [] ?_
            refine Runs.alln ?_
            exact ⟨(x14, p1_0, x15, bAdd .i64 x7 1), h, Le.of (mo := []) (mr := []) kr kr kr kr⟩
          · refine Wp.block ?_
            refine Wp.srg [] [] ?_
            refine Runs.batch 2 kr ?_
            obtain ⟨y11, e_y11, h⟩ := bind_some h
            refine Runs.idxO (e := 3) (e' := 3) (kk := .i64) (sz := 1) (eInt .i64) x5 x7 1 rfl kr kr kr kr kr kr kr e_y11 ?_
            refine Runs.loadE (e' := 3) (sz := 1) (m := 1) (gg := false) (eInt .i64) x5 1 (Int.toNat x7) 0 (.t (.int .i64 y11)) rfl kr kr kr kr kr kr (idx_some e_y11).2 kr ?_
            refine Runs.alln ?_
            refine Wp.fg ⟨[(0, .own 1), (1, .clo 88 [.fadr (World.enc p1_0)]), (4, .nil), (5, .t (.int .i64 x6)), (6, .t (.int .i64 x7)), (7, .t (.int .i64 y11)), (16, .t (.int .i64 x7)), (17, .own 1), (18, .t (.int .i64 ((x5.length : Int)))), (19, .t (.bool (decide (x7 < ((x5.length : Int)))))), (22, .own 1), (23, .t (.int .i64 x7)), (24, .elem 1 1 (Int.toNat x7) 0), (25, .t (.int .i64 y11))], [], [(1, .live 3 1 (x5.map (eInt .i64)))]⟩ ?_
            refine Wp.srg [] [] ?_
            refine Runs.batch 2 kr ?_
            obtain ⟨r12, e_r12, h⟩ := bind_some h
            refine Runs.callK false 28 88 [.fadr (World.enc p1_0)] [.t (.int .i64 y11)] [.one (.t (.int .i64 y11)), .fptr (World.enc p1_0)] (.one (.t (.bool r12))) [] rfl rfl kr kr kr kr kr (impl_LateIn_1_ok u y11 p1_0 r12 e_r12) kr ?_
            refine Runs.alln ?_
            refine Wp.fg ⟨[(0, .own 1), (1, .clo 88 [.fadr (World.enc p1_0)]), (4, .nil), (5, .t (.int .i64 x6)), (6, .t (.int .i64 x7)), (7, .t (.int .i64 y11)), (16, .t (.int .i64 x7)), (17, .own 1), (18, .t (.int .i64 ((x5.length : Int)))), (19, .t (.bool (decide (x7 < ((x5.length : Int)))))), (22, .own 1), (23, .t (.int .i64 x7)), (24, .elem 1 1 (Int.toNat x7) 0), (25, .t (.int .i64 y11)), (26, .clo 88 [.fadr (World.enc p1_0)]), (27, .t (.int .i64 y11)), (28, .t (.bool r12)), (29, .t (.bool (!r12)))], [], [(1, .live 3 1 (x5.map (eInt .i64)))]⟩ ?_
            refine Wp.cond2 (b := !r12) kr (fun hc => ?_) (fun hc => ?_)
            · have h := cond_t h hc
              refine Wp.srg [] [] ?_
              refine Runs.batch 3 kr ?_
              obtain ⟨y13, e_y13, h⟩ := bind_some h
              refine Runs.idxO (e := 3) (e' := 3) (kk := .i64) (sz := 1) (eInt .i64) x5 x6 1 rfl kr kr kr kr kr kr kr e_y13 ?_
              refine Runs.storeT (e := 3) (sz := 1) (m := 1) (eInt .i64) x5 1 (Int.toNat x6) 0 y11 (.t (.int .i64 y11)) [.int .i64 y11] rfl kr kr kr kr kr kr kr kr (idx_some e_y13).2 kr kr ?_
              refine Runs.done ?_
              refine thenN ?_
              refine Wp.fg ⟨[(0, .own 1), (1, .clo 88 [.fadr (World.enc p1_0)]), (4, .nil), (5, .t (.int .i64 x6)), (6, .t (.int .i64 x7)), (7, .t (.int .i64 y11)), (16, .t (.int .i64 x7)), (17, .own 1), (18, .t (.int .i64 ((x5.length : Int)))), (19, .t (.bool (decide (x7 < ((x5.length : Int)))))), (22, .own 1), (23, .t (.int .i64 x7)), (24, .elem 1 1 (Int.toNat x7) 0), (25, .t (.int .i64 y11)), (26, .clo 88 [.fadr (World.enc p1_0)]), (27, .t (.int .i64 y11)), (28, .t (.bool r12)), (29, .t (.bool (!r12))), (30, .own 1), (31, .t (.int .i64 x6)), (32, .t (.int .i64 y11)), (33, .elem 1 1 (Int.toNat x6) 0)], [], [(1, .live 3 1 ((x5.set (Int.toNat x6) y11).map (eInt .i64)))]⟩ ?_
              refine Wp.rg [] [] ?_
              refine Runs.all kr ?_
              refine blkN ?_
              refine thenN ?_
              exact ⟨(x5.set (Int.toNat x6) y11, p1_0, bAdd .i64 x6 1, x7, y11, x5, r12), h, Le.of (mo := []) (mr := []) kr kr kr kr⟩
            · have h := cond_f h hc
              refine Wp.skip ?_
              refine blkN ?_
              refine thenN ?_
              exact ⟨(x5, p1_0, x6, x7, y11, x5, r12), h, Le.of (mo := []) (mr := []) kr kr kr kr⟩
        · have h := cond_f h hc
          refine Wp.exit ?_
          refine thenE ?_
          refine thenE ?_
          refine blkE ?_
          refine thenN ?_
          exact ⟨(x5, x6), h, Le.of (mo := []) (mr := []) kr kr kr kr⟩
theorem impl_LateIn_ok (u : Nat) (p0 : World) (r : (List Int)) (h : impl_LateIn u p0 = some r) : CallOK Tryz.prog 34 [.agg [.t (.int .i64 p0.fC.fSize), .t (.int .i64 p0.fC.fWindow), .t (.int .i64 p0.fC.fSuspect), .t (.int .i64 p0.fC.fForget), .t (.sl 1 (p0.fT.fUp.map (eInt .i64))), .t (.sl 1 (p0.fNew.map (eInt .u8))), .t (.sl 1 (p0.fOld.map Image.enc)), .t (.sl 12 (p0.fN.map Node.enc)), .t (.sl 6 (p0.fD.map Disk.enc)), .t (.sl 3 (p0.fNet.map Packet.enc)), .t (.sl 3 (p0.fLog.map Sent.enc)), .t (.int .i64 p0.fLost)]] (.one (.t (.sl 1 (r.map (eInt .i64))))) [] := by
  unfold impl_LateIn at h
  refine CallOK.of_bodyK (fn := Tryz.f34) (m := false) [.agg ((World.enc p0).map .t)] kr rfl kr kr kr kr kr ?_
  refine Wp.srg [] [] ?_
  refine Runs.alln ?_
  refine Wp.fg ⟨[(1, .obj 1 0), (2, .nil)], [(1, ((World.enc p0).map .t))], []⟩ ?_
  refine Wp.seq ?_
  refine Wp.le (Le.trans (Le.frzOb 1 (World.enc p0) kr kr) (Le.of (s := ⟨[(1, .fadr (World.enc p0)), (2, .nil)], [], []⟩) (mo := []) (mr := []) kr kr kr kr)) ?_
  refine Wp.rg [] [] ?_
  refine Runs.batch 1 kr ?_
  obtain ⟨r1, e_r1, h⟩ := bind_some h
  refine Runs.callK false 4 73 [] [.agg ((World.enc p0).map .t)] [.agg ((World.enc p0).map .t)] (.one (.ow 3 1 (r1.map (eInt .i64)))) [] rfl rfl kr kr kr kr kr (impl_UpIn_ok u p0 r1 e_r1) kr ?_
  refine Runs.batch 1 kr ?_
  obtain ⟨r2, e_r2, h⟩ := bind_some h
  refine Runs.callK true 6 87 [] [.own 262144, .clo 88 [.fadr (World.enc p0)]] [.one (.ow 3 1 (r1.map (eInt .i64))), .clo 88 [.fptr (World.enc p0)]] (.one (.t (.sl 1 (r2.map (eInt .i64))))) [] rfl rfl kr kr kr kr kr (slices_DeleteFunc___int_int__impl_LateIn_1_ok u r1 p0 r2 e_r2) kr ?_
  refine Runs.alln ?_
  refine Wp.fg ⟨[(2, .t (.sl 1 (r2.map (eInt .i64))))], [], []⟩ ?_
  refine Wp.ret ?_
  have hr := Option.some.inj h
  subst hr
  exact RetK [.t (.sl 1 (r2.map (eInt .i64)))] (.one (.t (.sl 1 (r2.map (eInt .i64))))) [] kr kr (.refl _) .nil
theorem impl_AllNew_ok (u : Nat) (p0 : World) (r : Bool) (h : impl_AllNew u p0 = some r) : CallOK Tryz.prog 71 [.agg [.t (.int .i64 p0.fC.fSize), .t (.int .i64 p0.fC.fWindow), .t (.int .i64 p0.fC.fSuspect), .t (.int .i64 p0.fC.fForget), .t (.sl 1 (p0.fT.fUp.map (eInt .i64))), .t (.sl 1 (p0.fNew.map (eInt .u8))), .t (.sl 1 (p0.fOld.map Image.enc)), .t (.sl 12 (p0.fN.map Node.enc)), .t (.sl 6 (p0.fD.map Disk.enc)), .t (.sl 3 (p0.fNet.map Packet.enc)), .t (.sl 3 (p0.fLog.map Sent.enc)), .t (.int .i64 p0.fLost)]] (.one (.t (.bool r))) [] := by
  unfold impl_AllNew at h
  refine CallOK.of_bodyK (fn := Tryz.f71) (m := false) [.agg ((World.enc p0).map .t)] kr rfl kr kr kr kr kr ?_
  refine Wp.srg [] [] ?_
  refine Runs.alln ?_
  refine Wp.fg ⟨[(1, .obj 1 0), (2, .t (.bool false))], [(1, ((World.enc p0).map .t))], []⟩ ?_
  refine Wp.srg [] [] ?_
  refine Runs.batch 1 kr ?_
  obtain ⟨r1, e_r1, h⟩ := bind_some h
  refine Runs.callK false 4 34 [] [.agg ((World.enc p0).map .t)] [.agg ((World.enc p0).map .t)] (.one (.t (.sl 1 (r1.map (eInt .i64))))) [] rfl rfl kr kr kr kr kr (impl_LateIn_ok u p0 r1 e_r1) kr ?_
  refine Runs.lenT (y := .t (.sl 1 (r1.map (eInt .i64)))) (e := 3) (eInt .i64) r1 1 rfl rfl rfl kr kr kr kr kr ?_
  refine Runs.alln ?_
  refine Wp.fg ⟨[(2, .t (.bool (((r1.length : Int)) == 0)))], [], []⟩ ?_
  refine Wp.ret ?_
  have hr := Option.some.inj h
  subst hr
  exact RetK [.t (.bool (((r1.length : Int)) == 0))] (.one (.t (.bool (((r1.length : Int)) == 0)))) [] kr kr (.refl _) .nil
theorem impl_Resting_ok (u : Nat) (p0 : World) (r : Bool) (h : impl_Resting u p0 = some r) : CallOK Tryz.prog 72 [.agg [.t (.int .i64 p0.fC.fSize), .t (.int .i64 p0.fC.fWindow), .t (.int .i64 p0.fC.fSuspect), .t (.int .i64 p0.fC.fForget), .t (.sl 1 (p0.fT.fUp.map (eInt .i64))), .t (.sl 1 (p0.fNew.map (eInt .u8))), .t (.sl 1 (p0.fOld.map Image.enc)), .t (.sl 12 (p0.fN.map Node.enc)), .t (.sl 6 (p0.fD.map Disk.enc)), .t (.sl 3 (p0.fNet.map Packet.enc)), .t (.sl 3 (p0.fLog.map Sent.enc)), .t (.int .i64 p0.fLost)]] (.one (.t (.bool r))) [] := by
  unfold impl_Resting at h
  refine CallOK.of_bodyK (fn := Tryz.f72) (m := false) [.agg ((World.enc p0).map .t)] kr rfl kr kr kr kr kr ?_
  refine Wp.srg [] [] ?_
  refine Runs.alln ?_
  refine Wp.fg ⟨[(1, .obj 1 0), (2, .t (.bool false))], [(1, ((World.enc p0).map .t))], []⟩ ?_
  refine Wp.srg [] [] ?_
  refine Runs.batch 2 kr ?_
  refine Runs.lenT (y := .t (.sl 3 (p0.fNet.map Packet.enc))) (e := 134) Packet.enc p0.fNet 3 rfl rfl rfl kr kr kr kr kr ?_
  refine Runs.alln ?_
  refine Wp.fg ⟨[(2, .t (.bool (((p0.fNet.length : Int)) == 0)))], [], []⟩ ?_
  refine Wp.ret ?_
  have hr := Option.some.inj h
  subst hr
  exact RetK [.t (.bool (((p0.fNet.length : Int)) == 0))] (.one (.t (.bool (((p0.fNet.length : Int)) == 0)))) [] kr kr (.refl _) .nil
theorem slices_Index___int_int_ok (u : Nat) (p0 : List Int) (p1 : Int) (r : Int) (h : slices_Index___int_int u p0 p1 = some r) : CallOK Tryz.prog 126 [.one (.t (.sl 1 (p0.map (eInt .i64)))), .one (.t (.int .i64 p1))] (.one (.t (.int .i64 r))) [] := by
  unfold slices_Index___int_int at h
  refine CallOK.of_bodyK (fn := Tryz.f126) (m := false) [.t (.sl 1 (p0.map (eInt .i64))), .t (.int .i64 p1)] kr rfl kr kr kr kr kr ?_
  refine Wp.srg [] [] ?_
  refine Runs.alln ?_
  refine Wp.fg ⟨[(0, .t (.sl 1 (p0.map (eInt .i64)))), (1, .t (.int .i64 p1)), (4, .t (.int .i64 0))], [], []⟩ ?_
  refine Wp.seqJ (α := Unit) (fun a => ⟨[(4, .t (.int .i64 0))], [], []⟩) (fun a => slices_Index___int_int_j1 u = some r) ?_ ?_
  · rintro ⟨⟩ h
    change slices_Index___int_int_j1 u = some r at h
    unfold slices_Index___int_int_j1 at h
    refine Wp.srg [] [] ?_
    refine Runs.alln ?_
    refine Wp.fg ⟨[(4, .t (.int .i64 (-1)))], [], []⟩ ?_
    refine Wp.ret ?_
    have hr := Option.some.inj h
    subst hr
    exact RetK [.t (.int .i64 (-1))] (.one (.t (.int .i64 (-1)))) [] kr kr (.refl _) .nil
  · refine Wp.srg [] [] ?_
    refine Runs.batch 1 kr ?_
    refine Runs.lenT (y := .t (.sl 1 (p0.map (eInt .i64)))) (e := 3) (eInt .i64) p0 1 rfl rfl rfl kr kr kr kr kr ?_
    refine Runs.alln ?_
    refine Wp.fg ⟨[(0, .t (.sl 1 (p0.map (eInt .i64)))), (1, .t (.int .i64 p1)), (4, .t (.int .i64 0)), (7, .t (.int .i64 ((p0.length : Int)))), (8, .t (.int .i64 0))], [], []⟩ ?_
    refine Wp.block ?_
    refine Wp.loopF (α := (List Int) × Int × Int) (fun a => ⟨[(0, .t (.sl 1 (a.1.map (eInt .i64)))), (1, .t (.int .i64 a.2.1)), (4, .t (.int .i64 0)), (7, .t (.int .i64 ((a.1.length : Int)))), (8, .t (.int .i64 a.2.2))], [], []⟩) (fun k_slices_Index___int_int_l2 a => slices_Index___int_int_l2 u k_slices_Index___int_int_l2 a.1 a.2.1 a.2.2 = some r) ?_ ?_ u (p0, p1, 0) h (Le.of (mo := []) (mr := []) kr kr kr kr)
    · intro a h; unfold slices_Index___int_int_l2 at h; cases h
    · rintro k_slices_Index___int_int_l2 ⟨p0, p1, x2⟩ h
      change slices_Index___int_int_l2 u (k_slices_Index___int_int_l2 + 1) p0 p1 x2 = some r at h
      rw [slices_Index___int_int_l2] at h
      refine Wp.srg [] [] ?_
      refine Runs.alln ?_
      refine Wp.fg ⟨[(0, .t (.sl 1 (p0.map (eInt .i64)))), (1, .t (.int .i64 p1)), (4, .t (.int .i64 0)), (7, .t (.int .i64 ((p0.length : Int)))), (8, .t (.int .i64 x2)), (9, .t (.bool (decide (x2 < ((p0.length : Int))))))], [], []⟩ ?_
      refine Wp.seq ?_
      refine Wp.cond2 (b := decide (x2 < ((p0.length : Int)))) kr (fun hc => ?_) (fun hc => ?_)
      · have h := cond_t h hc
        refine Wp.skip ?_
        refine thenN ?_
        refine Wp.seq ?_
        refine Wp.block ?_
        refine Wp.srg [] [] ?_
        refine Runs.alln ?_
        refine Wp.fg ⟨[(0, .t (.sl 1 (p0.map (eInt .i64)))), (1, .t (.int .i64 p1)), (4, .t (.int .i64 0)), (5, .t (.int .i64 x2)), (7, .t (.int .i64 ((p0.length : Int)))), (8, .t (.int .i64 x2)), (9, .t (.bool (decide (x2 < ((p0.length : Int)))))), (10, .t (.int .i64 x2))], [], []⟩ ?_
        refine Wp.srg [] [] ?_
        refine Runs.batch 3 kr ?_
        obtain ⟨y4, e_y4, h⟩ := bind_some h
        refine Runs.idxT (e := 3) (kk := .i64) (sz := 1) (eInt .i64) p0 x2 rfl kr kr kr kr kr kr e_y4 ?_
        refine Runs.alln ?_
        refine Wp.fg ⟨[(0, .t (.sl 1 (p0.map (eInt .i64)))), (1, .t (.int .i64 p1)), (4, .t (.int .i64 0)), (5, .t (.int .i64 x2)), (7, .t (.int .i64 ((p0.length : Int)))), (8, .t (.int .i64 x2)), (9, .t (.bool (decide (x2 < ((p0.length : Int)))))), (10, .t (.int .i64 x2)), (11, .t (.int .i64 p1)), (12, .t (.sl 1 (p0.map (eInt .i64)))), (13, .t (.int .i64 x2)), (14, .fadr [.int .i64 y4]), (15, .t (.int .i64 y4)), (16, .t (.bool (p1 == y4)))], [], []⟩ ?_
        refine Wp.cond2 (b := p1 == y4) kr (fun hc => ?_) (fun hc => ?_)
        · have h := cond_t h hc
          refine Wp.srg [] [] ?_
          refine Runs.alln ?_
          refine Wp.fg ⟨[(0, .t (.sl 1 (p0.map (eInt .i64)))), (1, .t (.int .i64 p1)), (4, .t (.int .i64 x2)), (5, .t (.int .i64 x2)), (7, .t (.int .i64 ((p0.length : Int)))), (8, .t (.int .i64 x2)), (9, .t (.bool (decide (x2 < ((p0.length : Int)))))), (10, .t (.int .i64 x2)), (11, .t (.int .i64 p1)), (12, .t (.sl 1 (p0.map (eInt .i64)))), (13, .t (.int .i64 x2)), (14, .fadr [.int .i64 y4]), (15, .t (.int .i64 y4)), (16, .t (.bool (p1 == y4))), (17, .t (.int .i64 x2))], [], []⟩ ?_
          refine Wp.ret ?_
          refine blkR ?_
          refine thenR ?_
          refine thenR ?_
          refine blkR ?_
          refine thenR ?_
          have hr := Option.some.inj h
          subst hr
          exact RetK [.t (.int .i64 x2)] (.one (.t (.int .i64 x2))) [] kr kr (.refl _) .nil
        · have h := cond_f h hc
          refine Wp.skip ?_
          refine blkN ?_
          refine thenN ?_
          refine Wp.rg [] [] ?_
          refine Runs.alln ?_
          exact ⟨(p0, p1, bAdd .i64 x2 1), h, Le.of (mo := []) (mr := []) kr kr kr kr⟩
      · have h := cond_f h hc
        refine Wp.exit ?_
        refine thenE ?_
        refine thenE ?_
        refine blkE ?_
        refine thenN ?_
        exact ⟨(), h, Le.of (mo := []) (mr := []) kr kr kr kr⟩
theorem slices_Contains___int_int_ok (u : Nat) (p0 : List Int) (p1 : Int) (r : Bool) (h : slices_Contains___int_int u p0 p1 = some r) : CallOK Tryz.prog 75 [.one (.t (.sl 1 (p0.map (eInt .i64)))), .one (.t (.int .i64 p1))] (.one (.t (.bool r))) [] := by
  unfold slices_Contains___int_int at h
  refine CallOK.of_bodyK (fn := Tryz.f75) (m := false) [.t (.sl 1 (p0.map (eInt .i64))), .t (.int .i64 p1)] kr rfl kr kr kr kr kr ?_
  refine Wp.srg [] [] ?_
  refine Runs.alln ?_
  refine Wp.fg ⟨[(0, .t (.sl 1 (p0.map (eInt .i64)))), (1, .t (.int .i64 p1)), (4, .t (.bool false))], [], []⟩ ?_
  refine Wp.srg [] [] ?_
  refine Runs.batch 2 kr ?_
  obtain ⟨r1, e_r1, h⟩ := bind_some h
  refine Runs.callK false 7 126 [] [.t (.sl 1 (p0.map (eInt .i64))), .t (.int .i64 p1)] [.one (.t (.sl 1 (p0.map (eInt .i64)))), .one (.t (.int .i64 p1))] (.one (.t (.int .i64 r1))) [] rfl rfl kr kr kr kr kr (slices_Index___int_int_ok u p0 p1 r1 e_r1) kr ?_
  refine Runs.alln ?_
  refine Wp.fg ⟨[(4, .t (.bool (decide (r1 ≥ 0))))], [], []⟩ ?_
  refine Wp.ret ?_
  have hr := Option.some.inj h
  subst hr
  exact RetK [.t (.bool (decide (r1 ≥ 0)))] (.one (.t (.bool (decide (r1 ≥ 0))))) [] kr kr (.refl _) .nil
theorem impl_Complete_1_ok (u : Nat) (p0 : Int) (q0 : List Int) (r : Bool) (h : impl_Complete_1 u p0 q0 = some r) : CallOK Tryz.prog 74 [.one (.t (.int .i64 p0)), .fptr [.sl 1 (q0.map (eInt .i64))]] (.one (.t (.bool r))) [] := by
  unfold impl_Complete_1 at h
  refine CallOK.of_bodyK (fn := Tryz.f74) (m := false) [.t (.int .i64 p0), .fadr [.sl 1 (q0.map (eInt .i64))]] kr rfl kr kr kr kr kr ?_
  refine Wp.srg [] [] ?_
  refine Runs.alln ?_
  refine Wp.fg ⟨[(0, .t (.int .i64 p0)), (1, .fadr [.sl 1 (q0.map (eInt .i64))]), (3, .t (.bool false))], [], []⟩ ?_
  refine Wp.srg [] [] ?_
  refine Runs.batch 3 kr ?_
  rcases tf (decide (p0 > 0)) with hc | hc
  · have h := cond_t h hc
    refine Runs.known 6 (v := true) kr hc ?_
    refine Runs.batch 2 kr ?_
    obtain ⟨r1, e_r1, h⟩ := bind_some h
    refine Runs.callK false 9 75 [] [.t (.sl 1 (q0.map (eInt .i64))), .t (.int .i64 p0)] [.one (.t (.sl 1 (q0.map (eInt .i64)))), .one (.t (.int .i64 p0))] (.one (.t (.bool r1))) [] rfl rfl kr kr kr kr kr (slices_Contains___int_int_ok u q0 p0 r1 e_r1) kr ?_
    refine Runs.alln ?_
    refine Wp.fg ⟨[(3, .t (.bool (!r1)))], [], []⟩ ?_
    refine Wp.ret ?_
    have hr := Option.some.inj h
    subst hr
    exact RetK [.t (.bool (!r1))] (.one (.t (.bool (!r1)))) [] kr kr (.refl _) .nil
  · have h := cond_f h hc
    refine Runs.known 6 (v := false) kr hc ?_
    refine Runs.alln ?_
    refine Wp.fg ⟨[(3, .t (.bool false))], [], []⟩ ?_
    refine Wp.ret ?_
    have hr := Option.some.inj h
    subst hr
    exact RetK [.t (.bool false)] (.one (.t (.bool false))) [] kr kr (.refl _) .nil
theorem slices_IndexFunc___int_int__impl_Complete_1_ok (u : Nat) (p0 : List Int) (p1_0 : List Int) (r : Int) (h : slices_IndexFunc___int_int__impl_Complete_1 u p0 p1_0 = some r) : CallOK Tryz.prog 114 [.one (.t (.sl 1 (p0.map (eInt .i64)))), .clo 74 [.fptr [.sl 1 (p1_0.map (eInt .i64))]]] (.one (.t (.int .i64 r))) [] := by
  unfold slices_IndexFunc___int_int__impl_Complete_1 at h
  refine CallOK.of_bodyK (fn := Tryz.f114) (m := false) [.t (.sl 1 (p0.map (eInt .i64))), .clo 74 [.fadr [.sl 1 (p1_0.map (eInt .i64))]]] kr rfl kr kr kr kr kr ?_
  refine Wp.srg [] [] ?_
  refine Runs.alln ?_
  refine Wp.fg ⟨[(0, .t (.sl 1 (p0.map (eInt .i64)))), (1, .clo 74 [.fadr [.sl 1 (p1_0.map (eInt .i64))]]), (4, .t (.int .i64 0))], [], []⟩ ?_
  refine Wp.seqJ (α := Unit) (fun a => ⟨[(4, .t (.int .i64 0))], [], []⟩) (fun a => slices_IndexFunc___int_int__impl_Complete_1_j1 u = some r) ?_ ?_
  · rintro ⟨⟩ h
    change slices_IndexFunc___int_int__impl_Complete_1_j1 u = some r at h
    unfold slices_IndexFunc___int_int__impl_Complete_1_j1 at h
    refine Wp.srg [] [] ?_
    refine Runs.alln ?_
    refine Wp.fg ⟨[(4, .t (.int .i64 (-1)))], [], []⟩ ?_
    refine Wp.ret ?_
    have hr := Option.some.inj h
    subst hr
    exact RetK [.t (.int .i64 (-1))] (.one (.t (.int .i64 (-1)))) [] kr kr (.refl _) .nil
  · refine Wp.srg [] [] ?_
    refine Runs.batch 1 kr ?_
    refine Runs.lenT (y := .t (.sl 1 (p0.map (eInt .i64)))) (e := 3) (eInt .i64) p0 1 rfl rfl rfl kr kr kr kr kr ?_
    refine Runs.alln ?_
    refine Wp.fg ⟨[(0, .t (.sl 1 (p0.map (eInt .i64)))), (1, .clo 74 [.fadr [.sl 1 (p1_0.map (eInt .i64))]]), (4, .t (.int .i64 0)), (7, .t (.int .i64 ((p0.length : Int)))), (8, .t (.int .i64 0))], [], []⟩ ?_
    refine Wp.block ?_
    refine Wp.loopF (α := (List Int) × (List Int) × Int) (fun a => ⟨[(0, .t (.sl 1 (a.1.map (eInt .i64)))), (1, .clo 74 [.fadr [.sl 1 (a.2.1.map (eInt .i64))]]), (4, .t (.int .i64 0)), (7, .t (.int .i64 ((a.1.length : Int)))), (8, .t (.int .i64 a.2.2))], [], []⟩) (fun k_slices_IndexFunc___int_int__impl_Complete_1_l2 a => slices_IndexFunc___int_int__impl_Complete_1_l2 u k_slices_IndexFunc___int_int__impl_Complete_1_l2 a.1 a.2.1 a.2.2 = some r) ?_ ?_ u (p0, p1_0, 0) h (Le.of (mo := []) (mr := []) kr kr kr kr)
    · intro a h; unfold slices_IndexFunc___int_int__impl_Complete_1_l2 at h; cases h
    · rintro k_slices_IndexFunc___int_int__impl_Complete_1_l2 ⟨p0, p1_0, x2⟩ h
      change slices_IndexFunc___int_int__impl_Complete_1_l2 u (k_slices_IndexFunc___int_int__impl_Complete_1_l2 + 1) p0 p1_0 x2 = some r at h
      rw [slices_IndexFunc___int_int__impl_Complete_1_l2] at h
      refine Wp.srg [] [] ?_
      refine Runs.alln ?_
      refine Wp.fg ⟨[(0, .t (.sl 1 (p0.map (eInt .i64)))), (1, .clo 74 [.fadr [.sl 1 (p1_0.map (eInt .i64))]]), (4, .t (.int .i64 0)), (7, .t (.int .i64 ((p0.length : Int)))), (8, .t (.int .i64 x2)), (9, .t (.bool (decide (x2 < ((p0.length : Int))))))], [], []⟩ ?_
      refine Wp.seq ?_
      refine Wp.cond2 (b := decide (x2 < ((p0.length : Int)))) kr (fun hc => ?_) (fun hc => ?_)
      · have h := cond_t h hc
        refine Wp.skip ?_
        refine thenN ?_
        refine Wp.seq ?_
        refine Wp.block ?_
        refine Wp.srg [] [] ?_
        refine Runs.alln ?_
        refine Wp.fg ⟨[(0, .t (.sl 1 (p0.map (eInt .i64)))), (1, .clo 74 [.fadr [.sl 1 (p1_0.map (eInt .i64))]]), (4, .t (.int .i64 0)), (5, .t (.int .i64 x2)), (7, .t (.int .i64 ((p0.length : Int)))), (8, .t (.int .i64 x2)), (9, .t (.bool (decide (x2 < ((p0.length : Int)))))), (10, .t (.int .i64 x2))], [], []⟩ ?_
        refine Wp.srg [] [] ?_
        refine Runs.batch 3 kr ?_
        obtain ⟨y4, e_y4, h⟩ := bind_some h
        refine Runs.idxT (e := 3) (kk := .i64) (sz := 1) (eInt .i64) p0 x2 rfl kr kr kr kr kr kr e_y4 ?_
        refine Runs.batch 1 kr ?_
        obtain ⟨r5, e_r5, h⟩ := bind_some h
        refine Runs.callK false 16 74 [.fadr [.sl 1 (p1_0.map (eInt .i64))]] [.t (.int .i64 y4)] [.one (.t (.int .i64 y4)), .fptr [.sl 1 (p1_0.map (eInt .i64))]] (.one (.t (.bool r5))) [] rfl rfl kr kr kr kr kr (impl_Complete_1_ok u y4 p1_0 r5 e_r5) kr ?_
        refine Runs.done ?_
        refine thenN ?_
        refine Wp.fg ⟨[(0, .t (.sl 1 (p0.map (eInt .i64)))), (1, .clo 74 [.fadr [.sl 1 (p1_0.map (eInt .i64))]]), (4, .t (.int .i64 0)), (5, .t (.int .i64 x2)), (7, .t (.int .i64 ((p0.length : Int)))), (8, .t (.int .i64 x2)), (9, .t (.bool (decide (x2 < ((p0.length : Int)))))), (10, .t (.int .i64 x2)), (11, .clo 74 [.fadr [.sl 1 (p1_0.map (eInt .i64))]]), (12, .t (.sl 1 (p0.map (eInt .i64)))), (13, .t (.int .i64 x2)), (14, .fadr [.int .i64 y4]), (15, .t (.int .i64 y4)), (16, .t (.bool r5))], [], []⟩ ?_
        refine Wp.cond2 (b := r5) kr (fun hc => ?_) (fun hc => ?_)
        · have h := cond_t h hc
          refine Wp.srg [] [] ?_
          refine Runs.alln ?_
          refine Wp.fg ⟨[(0, .t (.sl 1 (p0.map (eInt .i64)))), (1, .clo 74 [.fadr [.sl 1 (p1_0.map (eInt .i64))]]), (4, .t (.int .i64 x2)), (5, .t (.int .i64 x2)), (7, .t (.int .i64 ((p0.length : Int)))), (8, .t (.int .i64 x2)), (9, .t (.bool (decide (x2 < ((p0.length : Int)))))), (10, .t (.int .i64 x2)), (11, .clo 74 [.fadr [.sl 1 (p1_0.map (eInt .i64))]]), (12, .t (.sl 1 (p0.map (eInt .i64)))), (13, .t (.int .i64 x2)), (14, .fadr [.int .i64 y4]), (15, .t (.int .i64 y4)), (16, .t (.bool r5)), (17, .t (.int .i64 x2))], [], []⟩ ?_
          refine Wp.ret ?_
          refine blkR ?_
          refine thenR ?_
          refine thenR ?_
          refine blkR ?_
          refine thenR ?_
          have hr := Option.some.inj h
          subst hr
          exact RetK [.t (.int .i64 x2)] (.one (.t (.int .i64 x2))) [] kr kr (.refl _) .nil
        · have h := cond_f h hc
          refine Wp.skip ?_
          refine blkN ?_
          refine thenN ?_
          refine Wp.rg [] [] ?_
          refine Runs.alln ?_
          exact ⟨(p0, p1_0, bAdd .i64 x2 1), h, Le.of (mo := []) (mr := []) kr kr kr kr⟩
      · have h := cond_f h hc
        refine Wp.exit ?_
        refine thenE ?_
        refine thenE ?_
        refine blkE ?_
        refine thenN ?_
        exact ⟨(), h, Le.of (mo := []) (mr := []) kr kr kr kr⟩
theorem slices_ContainsFunc___int_int__impl_Complete_1_ok (u : Nat) (p0 : List Int) (p1_0 : List Int) (r : Bool) (h : slices_ContainsFunc___int_int__impl_Complete_1 u p0 p1_0 = some r) : CallOK Tryz.prog 62 [.one (.t (.sl 1 (p0.map (eInt .i64)))), .clo 74 [.fptr [.sl 1 (p1_0.map (eInt .i64))]]] (.one (.t (.bool r))) [] := by
  unfold slices_ContainsFunc___int_int__impl_Complete_1 at h
  refine CallOK.of_bodyK (fn := Tryz.f62) (m := false) [.t (.sl 1 (p0.map (eInt .i64))), .clo 74 [.fadr [.sl 1 (p1_0.map (eInt .i64))]]] kr rfl kr kr kr kr kr ?_
  refine Wp.srg [] [] ?_
  refine Runs.alln ?_
  refine Wp.fg ⟨[(0, .t (.sl 1 (p0.map (eInt .i64)))), (1, .clo 74 [.fadr [.sl 1 (p1_0.map (eInt .i64))]]), (4, .t (.bool false))], [], []⟩ ?_
  refine Wp.srg [] [] ?_
  refine Runs.batch 2 kr ?_
  obtain ⟨r1, e_r1, h⟩ := bind_some h
  refine Runs.callK false 7 114 [] [.t (.sl 1 (p0.map (eInt .i64))), .clo 74 [.fadr [.sl 1 (p1_0.map (eInt .i64))]]] [.one (.t (.sl 1 (p0.map (eInt .i64)))), .clo 74 [.fptr [.sl 1 (p1_0.map (eInt .i64))]]] (.one (.t (.int .i64 r1))) [] rfl rfl kr kr kr kr kr (slices_IndexFunc___int_int__impl_Complete_1_ok u p0 p1_0 r1 e_r1) kr ?_
  refine Runs.alln ?_
  refine Wp.fg ⟨[(4, .t (.bool (decide (r1 ≥ 0))))], [], []⟩ ?_
  refine Wp.ret ?_
  have hr := Option.some.inj h
  subst hr
  exact RetK [.t (.bool (decide (r1 ≥ 0)))] (.one (.t (.bool (decide (r1 ≥ 0))))) [] kr kr (.refl _) .nil
theorem impl_Complete_ok (u : Nat) (p0 : World) (r : Bool) (h : impl_Complete u p0 = some r) : CallOK Tryz.prog 22 [.agg [.t (.int .i64 p0.fC.fSize), .t (.int .i64 p0.fC.fWindow), .t (.int .i64 p0.fC.fSuspect), .t (.int .i64 p0.fC.fForget), .t (.sl 1 (p0.fT.fUp.map (eInt .i64))), .t (.sl 1 (p0.fNew.map (eInt .u8))), .t (.sl 1 (p0.fOld.map Image.enc)), .t (.sl 12 (p0.fN.map Node.enc)), .t (.sl 6 (p0.fD.map Disk.enc)), .t (.sl 3 (p0.fNet.map Packet.enc)), .t (.sl 3 (p0.fLog.map Sent.enc)), .t (.int .i64 p0.fLost)]] (.one (.t (.bool r))) [] := by
  unfold impl_Complete at h
  refine CallOK.of_bodyK (fn := Tryz.f22) (m := false) [.agg ((World.enc p0).map .t)] kr rfl kr kr kr kr kr ?_
  refine Wp.srg [] [] ?_
  refine Runs.alln ?_
  refine Wp.fg ⟨[(1, .obj 1 0), (2, .t (.bool false))], [(1, ((World.enc p0).map .t))], []⟩ ?_
  refine Wp.srg [] [] ?_
  refine Runs.batch 1 kr ?_
  obtain ⟨r1, e_r1, h⟩ := bind_some h
  refine Runs.callK false 5 63 [] [.agg ((World.enc p0).map .t)] [.agg ((World.enc p0).map .t)] (.one (.ow 3 1 (r1.map (eInt .i64)))) [] rfl rfl kr kr kr kr kr (impl_Reported_ok u p0 r1 e_r1) kr ?_
  refine Runs.alln ?_
  refine Wp.fg ⟨[(1, .obj 1 0), (2, .t (.bool false)), (3, .obj 3 0)], [(1, ((World.enc p0).map .t)), (3, [.own 327680])], [(327680, .live 3 1 (r1.map (eInt .i64)))]⟩ ?_
  refine Wp.seq ?_
  refine Wp.le (Le.trans (Le.frzO 3 0 327680 3 1 [.own 327680] (r1.map (eInt .i64)) kr kr kr) (Le.trans (Le.frzOb 3 [.sl 1 (r1.map (eInt .i64))] kr kr) (Le.of (s := ⟨[(1, .obj 1 0), (2, .t (.bool false)), (3, .fadr [.sl 1 (r1.map (eInt .i64))])], [(1, ((World.enc p0).map .t))], []⟩) (mo := []) (mr := []) kr kr kr kr))) ?_
  refine Wp.rg [] [] ?_
  refine Runs.batch 1 kr ?_
  obtain ⟨r2, e_r2, h⟩ := bind_some h
  refine Runs.callK false 7 71 [] [.agg ((World.enc p0).map .t)] [.agg ((World.enc p0).map .t)] (.one (.t (.bool r2))) [] rfl rfl kr kr kr kr kr (impl_AllNew_ok u p0 r2 e_r2) kr ?_
  refine Runs.batch 1 kr ?_
  rcases tf (r2) with hc | hc
  · have h := cond_t h hc
    refine Runs.known 8 (v := true) kr hc ?_
    refine Runs.batch 1 kr ?_
    obtain ⟨r3, e_r3, h⟩ := bind_some h
    refine Runs.callK false 10 72 [] [.agg ((World.enc p0).map .t)] [.agg ((World.enc p0).map .t)] (.one (.t (.bool r3))) [] rfl rfl kr kr kr kr kr (impl_Resting_ok u p0 r3 e_r3) kr ?_
    refine Runs.batch 2 kr ?_
    rcases tf (r3) with hc | hc
    · have h := cond_t h hc
      refine Runs.known 12 (v := true) kr hc ?_
      refine Runs.batch 1 kr ?_
      obtain ⟨r4, e_r4, h⟩ := bind_some h
      refine Runs.callK false 14 73 [] [.agg ((World.enc p0).map .t)] [.agg ((World.enc p0).map .t)] (.one (.ow 3 1 (r4.map (eInt .i64)))) [] rfl rfl kr kr kr kr kr (impl_UpIn_ok u p0 r4 e_r4) kr ?_
      refine Runs.batch 1 kr ?_
      obtain ⟨r5, e_r5, h⟩ := bind_some h
      refine Runs.callBK 16 62 [] [.own 917504, .clo 74 [.fadr [.sl 1 (r1.map (eInt .i64))]]] [.one (.t (.sl 1 (r4.map (eInt .i64)))), .clo 74 [.fptr [.sl 1 (r1.map (eInt .i64))]]] (.one (.t (.bool r5))) rfl rfl kr kr kr kr kr (slices_ContainsFunc___int_int__impl_Complete_1_ok u r4 r1 r5 e_r5) (by simp [V.plain, V.plains, C.plain, T.sc]) kr ?_
      refine Runs.alln ?_
      refine Wp.fg ⟨[(2, .t (.bool (!r5)))], [], []⟩ ?_
      refine Wp.ret ?_
      have hr := Option.some.inj h
      subst hr
      exact RetK [.t (.bool (!r5))] (.one (.t (.bool (!r5)))) [] kr kr (.refl _) .nil
    · have h := cond_f h hc
      refine Runs.known 12 (v := false) kr hc ?_
      refine Runs.alln ?_
      refine Wp.fg ⟨[(2, .t (.bool false))], [], []⟩ ?_
      refine Wp.ret ?_
      have hr := Option.some.inj h
      subst hr
      exact RetK [.t (.bool false)] (.one (.t (.bool false))) [] kr kr (.refl _) .nil
  · have h := cond_f h hc
    refine Runs.known 8 (v := false) kr hc ?_
    refine Runs.alln ?_
    refine Wp.fg ⟨[(2, .t (.bool false))], [], []⟩ ?_
    refine Wp.ret ?_
    have hr := Option.some.inj h
    subst hr
    exact RetK [.t (.bool false)] (.one (.t (.bool false))) [] kr kr (.refl _) .nil
theorem laws_eqConf_ok (u : Nat) (p0 : Conf) (p1 : Conf) (r : Bool) (h : laws_eqConf u p0 p1 = some r) : CallOK Tryz.prog 52 [.agg [.t (.int .i64 p0.fSize), .t (.int .i64 p0.fWindow), .t (.int .i64 p0.fSuspect), .t (.int .i64 p0.fForget)], .agg [.t (.int .i64 p1.fSize), .t (.int .i64 p1.fWindow), .t (.int .i64 p1.fSuspect), .t (.int .i64 p1.fForget)]] (.one (.t (.bool r))) [] := by
  unfold laws_eqConf at h
  refine CallOK.of_bodyK (fn := Tryz.f52) (m := false) [.agg ((Conf.enc p0).map .t), .agg ((Conf.enc p1).map .t)] kr rfl kr kr kr kr kr ?_
  refine Wp.srg [] [] ?_
  refine Runs.alln ?_
  refine Wp.fg ⟨[(2, .obj 2 0), (3, .obj 3 0), (4, .t (.bool false))], [(2, ((Conf.enc p0).map .t)), (3, ((Conf.enc p1).map .t))], []⟩ ?_
  refine Wp.seq ?_
  refine Wp.srg [] [] ?_
  refine Runs.alln ?_
  refine Wp.fg ⟨[(2, .obj 2 0), (3, .obj 3 0), (4, .t (.bool false)), (9, .t (.bool (p0.fSize != p1.fSize)))], [(2, ((Conf.enc p0).map .t)), (3, ((Conf.enc p1).map .t))], []⟩ ?_
  refine Wp.cond2 (b := p0.fSize != p1.fSize) kr (fun hc => ?_) (fun hc => ?_)
  · have h := cond_t h hc
    refine Wp.srg [] [] ?_
    refine Runs.alln ?_
    refine Wp.fg ⟨[(2, .obj 2 0), (3, .obj 3 0), (4, .t (.bool false))], [(2, ((Conf.enc p0).map .t)), (3, ((Conf.enc p1).map .t))], []⟩ ?_
    refine Wp.ret ?_
    refine thenR ?_
    have hr := Option.some.inj h
    subst hr
    exact RetK [.t (.bool false)] (.one (.t (.bool false))) [] kr kr (.refl _) .nil
  · have h := cond_f h hc
    refine Wp.skip ?_
    refine thenN ?_
    refine Wp.seq ?_
    refine Wp.srg [] [] ?_
    refine Runs.alln ?_
    refine Wp.fg ⟨[(2, .obj 2 0), (3, .obj 3 0), (4, .t (.bool false)), (14, .t (.bool (p0.fWindow != p1.fWindow)))], [(2, ((Conf.enc p0).map .t)), (3, ((Conf.enc p1).map .t))], []⟩ ?_
    refine Wp.cond2 (b := p0.fWindow != p1.fWindow) kr (fun hc => ?_) (fun hc => ?_)
    · have h := cond_t h hc
      refine Wp.srg [] [] ?_
      refine Runs.alln ?_
      refine Wp.fg ⟨[(2, .obj 2 0), (3, .obj 3 0), (4, .t (.bool false))], [(2, ((Conf.enc p0).map .t)), (3, ((Conf.enc p1).map .t))], []⟩ ?_
      refine Wp.ret ?_
      refine thenR ?_
      have hr := Option.some.inj h
      subst hr
      exact RetK [.t (.bool false)] (.one (.t (.bool false))) [] kr kr (.refl _) .nil
    · have h := cond_f h hc
      refine Wp.skip ?_
      refine thenN ?_
      refine Wp.seq ?_
      refine Wp.srg [] [] ?_
      refine Runs.alln ?_
      refine Wp.fg ⟨[(2, .obj 2 0), (3, .obj 3 0), (4, .t (.bool false)), (19, .t (.bool (p0.fSuspect != p1.fSuspect)))], [(2, ((Conf.enc p0).map .t)), (3, ((Conf.enc p1).map .t))], []⟩ ?_
      refine Wp.cond2 (b := p0.fSuspect != p1.fSuspect) kr (fun hc => ?_) (fun hc => ?_)
      · have h := cond_t h hc
        refine Wp.srg [] [] ?_
        refine Runs.alln ?_
        refine Wp.fg ⟨[(2, .obj 2 0), (3, .obj 3 0), (4, .t (.bool false))], [(2, ((Conf.enc p0).map .t)), (3, ((Conf.enc p1).map .t))], []⟩ ?_
        refine Wp.ret ?_
        refine thenR ?_
        have hr := Option.some.inj h
        subst hr
        exact RetK [.t (.bool false)] (.one (.t (.bool false))) [] kr kr (.refl _) .nil
      · have h := cond_f h hc
        refine Wp.skip ?_
        refine thenN ?_
        refine Wp.seq ?_
        refine Wp.srg [] [] ?_
        refine Runs.alln ?_
        refine Wp.fg ⟨[(4, .t (.bool false)), (24, .t (.bool (p0.fForget != p1.fForget)))], [], []⟩ ?_
        refine Wp.cond2 (b := p0.fForget != p1.fForget) kr (fun hc => ?_) (fun hc => ?_)
        · have h := cond_t h hc
          refine Wp.srg [] [] ?_
          refine Runs.alln ?_
          refine Wp.fg ⟨[(4, .t (.bool false))], [], []⟩ ?_
          refine Wp.ret ?_
          refine thenR ?_
          have hr := Option.some.inj h
          subst hr
          exact RetK [.t (.bool false)] (.one (.t (.bool false))) [] kr kr (.refl _) .nil
        · have h := cond_f h hc
          refine Wp.skip ?_
          refine thenN ?_
          refine Wp.srg [] [] ?_
          refine Runs.alln ?_
          refine Wp.fg ⟨[(4, .t (.bool true))], [], []⟩ ?_
          refine Wp.ret ?_
          have hr := Option.some.inj h
          subst hr
          exact RetK [.t (.bool true)] (.one (.t (.bool true))) [] kr kr (.refl _) .nil
theorem laws_eqIntS_ok (u : Nat) (p0 : List Int) (p1 : List Int) (r : Bool) (h : laws_eqIntS u p0 p1 = some r) : CallOK Tryz.prog 25 [.one (.t (.sl 1 (p0.map (eInt .i64)))), .one (.t (.sl 1 (p1.map (eInt .i64))))] (.one (.t (.bool r))) [] := by
  unfold laws_eqIntS at h
  refine CallOK.of_bodyK (fn := Tryz.f25) (m := false) [.t (.sl 1 (p0.map (eInt .i64))), .t (.sl 1 (p1.map (eInt .i64)))] kr rfl kr kr kr kr kr ?_
  refine Wp.srg [] [] ?_
  refine Runs.alln ?_
  refine Wp.fg ⟨[(0, .t (.sl 1 (p0.map (eInt .i64)))), (1, .t (.sl 1 (p1.map (eInt .i64)))), (4, .t (.bool false))], [], []⟩ ?_
  refine Wp.seq ?_
  refine Wp.srg [] [] ?_
  refine Runs.batch 1 kr ?_
  refine Runs.lenT (y := .t (.sl 1 (p0.map (eInt .i64)))) (e := 3) (eInt .i64) p0 1 rfl rfl rfl kr kr kr kr kr ?_
  refine Runs.batch 1 kr ?_
  refine Runs.lenT (y := .t (.sl 1 (p1.map (eInt .i64)))) (e := 3) (eInt .i64) p1 1 rfl rfl rfl kr kr kr kr kr ?_
  refine Runs.alln ?_
  refine Wp.fg ⟨[(0, .t (.sl 1 (p0.map (eInt .i64)))), (1, .t (.sl 1 (p1.map (eInt .i64)))), (4, .t (.bool false)), (10, .t (.bool (((p0.length : Int)) != ((p1.length : Int)))))], [], []⟩ ?_
  refine Wp.cond2 (b := ((p0.length : Int)) != ((p1.length : Int))) kr (fun hc => ?_) (fun hc => ?_)
  · have h := cond_t h hc
    refine Wp.srg [] [] ?_
    refine Runs.alln ?_
    refine Wp.fg ⟨[(0, .t (.sl 1 (p0.map (eInt .i64)))), (1, .t (.sl 1 (p1.map (eInt .i64)))), (4, .t (.bool false))], [], []⟩ ?_
    refine Wp.ret ?_
    refine thenR ?_
    have hr := Option.some.inj h
    subst hr
    exact RetK [.t (.bool false)] (.one (.t (.bool false))) [] kr kr (.refl _) .nil
  · have h := cond_f h hc
    refine Wp.skip ?_
    refine thenN ?_
    refine Wp.seqJ (α := Unit) (fun a => ⟨[(4, .t (.bool false))], [], []⟩) (fun a => laws_eqIntS_j1 u = some r) ?_ ?_
    · rintro ⟨⟩ h
      change laws_eqIntS_j1 u = some r at h
      unfold laws_eqIntS_j1 at h
      refine Wp.srg [] [] ?_
      refine Runs.alln ?_
      refine Wp.fg ⟨[(4, .t (.bool true))], [], []⟩ ?_
      refine Wp.ret ?_
      have hr := Option.some.inj h
      subst hr
      exact RetK [.t (.bool true)] (.one (.t (.bool true))) [] kr kr (.refl _) .nil
    · refine Wp.srg [] [] ?_
      refine Runs.alln ?_
      refine Wp.fg ⟨[(0, .t (.sl 1 (p0.map (eInt .i64)))), (1, .t (.sl 1 (p1.map (eInt .i64)))), (4, .t (.bool false)), (5, .t (.int .i64 0))], [], []⟩ ?_
      refine Wp.block ?_
      refine Wp.loopF (α := (List Int) × (List Int) × Int) (fun a => ⟨[(0, .t (.sl 1 (a.1.map (eInt .i64)))), (1, .t (.sl 1 (a.2.1.map (eInt .i64)))), (4, .t (.bool false)), (5, .t (.int .i64 a.2.2))], [], []⟩) (fun k_laws_eqIntS_l2 a => laws_eqIntS_l2 u k_laws_eqIntS_l2 a.1 a.2.1 a.2.2 = some r) ?_ ?_ u (p0, p1, 0) h (Le.of (mo := []) (mr := []) kr kr kr kr)
      · intro a h; unfold laws_eqIntS_l2 at h; cases h
      · rintro k_laws_eqIntS_l2 ⟨p0, p1, x2⟩ h
        change laws_eqIntS_l2 u (k_laws_eqIntS_l2 + 1) p0 p1 x2 = some r at h
        rw [laws_eqIntS_l2] at h
        refine Wp.seq ?_
        refine Wp.srg [] [] ?_
        refine Runs.batch 2 kr ?_
        refine Runs.lenT (y := .t (.sl 1 (p0.map (eInt .i64)))) (e := 3) (eInt .i64) p0 1 rfl rfl rfl kr kr kr kr kr ?_
        refine Runs.alln ?_
        refine Wp.fg ⟨[(0, .t (.sl 1 (p0.map (eInt .i64)))), (1, .t (.sl 1 (p1.map (eInt .i64)))), (4, .t (.bool false)), (5, .t (.int .i64 x2)), (11, .t (.int .i64 x2)), (12, .t (.sl 1 (p0.map (eInt .i64)))), (13, .t (.int .i64 ((p0.length : Int)))), (14, .t (.bool (decide (x2 < ((p0.length : Int))))))], [], []⟩ ?_
        refine Wp.cond2 (b := decide (x2 < ((p0.length : Int)))) kr (fun hc => ?_) (fun hc => ?_)
        · have h := cond_t h hc
          refine Wp.skip ?_
          refine thenN ?_
          refine Wp.seq ?_
          refine Wp.block ?_
          refine Wp.seq ?_
          refine Wp.regionA (pOf []) (rhoOf [(0, .frz), (1, .frz), (5, .frz), (17, .frz), (18, .frz), (19, .frz), (20, .frz), (21, .frz), (22, .frz), (23, .frz), (24, .frz)]) kr kr ?_
          refine Runs.batch 2 kr ?_
          obtain ⟨y4, e_y4, h⟩ := bind_some h
          refine Runs.idxT (e := 3) (kk := .i64) (sz := 1) (eInt .i64) p0 x2 rfl kr kr kr kr kr kr e_y4 ?_
          refine Runs.batch 3 kr ?_
          obtain ⟨y5, e_y5, h⟩ := bind_some h
          refine Runs.idxT (e := 3) (kk := .i64) (sz := 1) (eInt .i64) p1 x2 rfl kr kr kr kr kr kr e_y5 ?_
          refine Runs.alln ?_
          refine Wp.fg ⟨[(0, .t (.sl 1 (p0.map (eInt .i64)))), (1, .t (.sl 1 (p1.map (eInt .i64)))), (4, .t (.bool false)), (5, .t (.int .i64 x2)), (11, .t (.int .i64 x2)), (12, .t (.sl 1 (p0.map (eInt .i64)))), (13, .t (.int .i64 ((p0.length : Int)))), (14, .t (.bool (decide (x2 < ((p0.length : Int)))))), (17, .t (.sl 1 (p0.map (eInt .i64)))), (18, .t (.int .i64 x2)), (19, .fadr [.int .i64 y4]), (20, .t (.int .i64 y4)), (21, .t (.sl 1 (p1.map (eInt .i64)))), (22, .t (.int .i64 x2)), (23, .fadr [.int .i64 y5]), (24, .t (.int .i64 y5)), (25, .t (.bool (y4 != y5)))], [], []⟩ ?_
          refine Wp.cond2 (b := y4 != y5) kr (fun hc => ?_) (fun hc => ?_)
          · have h := cond_t h hc
            refine Wp.srg [] [] ?_
            refine Runs.alln ?_
            refine Wp.fg ⟨[(0, .t (.sl 1 (p0.map (eInt .i64)))), (1, .t (.sl 1 (p1.map (eInt .i64)))), (4, .t (.bool false)), (5, .t (.int .i64 x2)), (11, .t (.int .i64 x2)), (12, .t (.sl 1 (p0.map (eInt .i64)))), (13, .t (.int .i64 ((p0.length : Int)))), (14, .t (.bool (decide (x2 < ((p0.length : Int)))))), (17, .t (.sl 1 (p0.map (eInt .i64)))), (18, .t (.int .i64 x2)), (19, .fadr [.int .i64 y4]), (20, .t (.int .i64 y4)), (21, .t (.sl 1 (p1.map (eInt .i64)))), (22, .t (.int .i64 x2)), (23, .fadr [.int .i64 y5]), (24, .t (.int .i64 y5)), (25, .t (.bool (y4 != y5)))], [], []⟩ ?_
            refine Wp.ret ?_
            refine blkR ?_
            refine thenR ?_
            refine thenR ?_
            refine blkR ?_
            refine thenR ?_
            have hr := Option.some.inj h
            subst hr
            exact RetK [.t (.bool false)] (.one (.t (.bool false))) [] kr kr (.refl _) .nil
          · have h := cond_f h hc
            refine Wp.skip ?_
            refine blkN ?_
            refine thenN ?_
            refine Wp.rg [] [] ?_
            refine Runs.alln ?_
            exact ⟨(p0, p1, bAdd .i64 x2 1), h, Le.of (mo := []) (mr := []) kr kr kr kr⟩
        · have h := cond_f h hc
          refine Wp.exit ?_
          refine thenE ?_
          refine thenE ?_
          refine blkE ?_
          refine thenN ?_
          exact ⟨(), h, Le.of (mo := []) (mr := []) kr kr kr kr⟩
theorem laws_eqTree_ok (u : Nat) (p0 : Tree) (p1 : Tree) (r : Bool) (h : laws_eqTree u p0 p1 = some r) : CallOK Tryz.prog 53 [.agg [.t (.sl 1 (p0.fUp.map (eInt .i64)))], .agg [.t (.sl 1 (p1.fUp.map (eInt .i64)))]] (.one (.t (.bool r))) [] := by
  unfold laws_eqTree at h
  refine CallOK.of_bodyK (fn := Tryz.f53) (m := false) [.agg [.t (.sl 1 (p0.fUp.map (eInt .i64)))], .agg [.t (.sl 1 (p1.fUp.map (eInt .i64)))]] kr rfl kr kr kr kr kr ?_
  refine Wp.srg [] [] ?_
  refine Runs.alln ?_
  refine Wp.fg ⟨[(2, .obj 2 0), (3, .obj 3 0), (4, .t (.bool false))], [(2, [.t (.sl 1 (p0.fUp.map (eInt .i64)))]), (3, [.t (.sl 1 (p1.fUp.map (eInt .i64)))])], []⟩ ?_
  refine Wp.seq ?_
  refine Wp.srg [] [] ?_
  refine Runs.batch 4 kr ?_
  obtain ⟨r1, e_r1, h⟩ := bind_some h
  refine Runs.callK false 9 25 [] [.t (.sl 1 (p0.fUp.map (eInt .i64))), .t (.sl 1 (p1.fUp.map (eInt .i64)))] [.one (.t (.sl 1 (p0.fUp.map (eInt .i64)))), .one (.t (.sl 1 (p1.fUp.map (eInt .i64))))] (.one (.t (.bool r1))) [] rfl rfl kr kr kr kr kr (laws_eqIntS_ok u p0.fUp p1.fUp r1 e_r1) kr ?_
  refine Runs.alln ?_
  refine Wp.fg ⟨[(4, .t (.bool false)), (10, .t (.bool (!r1)))], [], []⟩ ?_
  refine Wp.cond2 (b := !r1) kr (fun hc => ?_) (fun hc => ?_)
  · have h := cond_t h hc
    refine Wp.srg [] [] ?_
    refine Runs.alln ?_
    refine Wp.fg ⟨[(4, .t (.bool false))], [], []⟩ ?_
    refine Wp.ret ?_
    refine thenR ?_
    have hr := Option.some.inj h
    subst hr
    exact RetK [.t (.bool false)] (.one (.t (.bool false))) [] kr kr (.refl _) .nil
  · have h := cond_f h hc
    refine Wp.skip ?_
    refine thenN ?_
    refine Wp.srg [] [] ?_
    refine Runs.alln ?_
    refine Wp.fg ⟨[(4, .t (.bool true))], [], []⟩ ?_
    refine Wp.ret ?_
    have hr := Option.some.inj h
    subst hr
    exact RetK [.t (.bool true)] (.one (.t (.bool true))) [] kr kr (.refl _) .nil
theorem laws_eqByteS_ok (u : Nat) (p0 : List Int) (p1 : List Int) (r : Bool) (h : laws_eqByteS u p0 p1 = some r) : CallOK Tryz.prog 54 [.one (.t (.sl 1 (p0.map (eInt .u8)))), .one (.t (.sl 1 (p1.map (eInt .u8))))] (.one (.t (.bool r))) [] := by
  unfold laws_eqByteS at h
  refine CallOK.of_bodyK (fn := Tryz.f54) (m := false) [.t (.sl 1 (p0.map (eInt .u8))), .t (.sl 1 (p1.map (eInt .u8)))] kr rfl kr kr kr kr kr ?_
  refine Wp.srg [] [] ?_
  refine Runs.alln ?_
  refine Wp.fg ⟨[(0, .t (.sl 1 (p0.map (eInt .u8)))), (1, .t (.sl 1 (p1.map (eInt .u8)))), (4, .t (.bool false))], [], []⟩ ?_
  refine Wp.seq ?_
  refine Wp.srg [] [] ?_
  refine Runs.batch 1 kr ?_
  refine Runs.lenT (y := .t (.sl 1 (p0.map (eInt .u8)))) (e := 5) (eInt .u8) p0 1 rfl rfl rfl kr kr kr kr kr ?_
  refine Runs.batch 1 kr ?_
  refine Runs.lenT (y := .t (.sl 1 (p1.map (eInt .u8)))) (e := 5) (eInt .u8) p1 1 rfl rfl rfl kr kr kr kr kr ?_
  refine Runs.alln ?_
  refine Wp.fg ⟨[(0, .t (.sl 1 (p0.map (eInt .u8)))), (1, .t (.sl 1 (p1.map (eInt .u8)))), (4, .t (.bool false)), (10, .t (.bool (((p0.length : Int)) != ((p1.length : Int)))))], [], []⟩ ?_
  refine Wp.cond2 (b := ((p0.length : Int)) != ((p1.length : Int))) kr (fun hc => ?_) (fun hc => ?_)
  · have h := cond_t h hc
    refine Wp.srg [] [] ?_
    refine Runs.alln ?_
    refine Wp.fg ⟨[(0, .t (.sl 1 (p0.map (eInt .u8)))), (1, .t (.sl 1 (p1.map (eInt .u8)))), (4, .t (.bool false))], [], []⟩ ?_
    refine Wp.ret ?_
    refine thenR ?_
    have hr := Option.some.inj h
    subst hr
    exact RetK [.t (.bool false)] (.one (.t (.bool false))) [] kr kr (.refl _) .nil
  · have h := cond_f h hc
    refine Wp.skip ?_
    refine thenN ?_
    refine Wp.seqJ (α := Unit) (fun a => ⟨[(4, .t (.bool false))], [], []⟩) (fun a => laws_eqByteS_j1 u = some r) ?_ ?_
    · rintro ⟨⟩ h
      change laws_eqByteS_j1 u = some r at h
      unfold laws_eqByteS_j1 at h
      refine Wp.srg [] [] ?_
      refine Runs.alln ?_
      refine Wp.fg ⟨[(4, .t (.bool true))], [], []⟩ ?_
      refine Wp.ret ?_
      have hr := Option.some.inj h
      subst hr
      exact RetK [.t (.bool true)] (.one (.t (.bool true))) [] kr kr (.refl _) .nil
    · refine Wp.srg [] [] ?_
      refine Runs.alln ?_
      refine Wp.fg ⟨[(0, .t (.sl 1 (p0.map (eInt .u8)))), (1, .t (.sl 1 (p1.map (eInt .u8)))), (4, .t (.bool false)), (5, .t (.int .i64 0))], [], []⟩ ?_
      refine Wp.block ?_
      refine Wp.loopF (α := (List Int) × (List Int) × Int) (fun a => ⟨[(0, .t (.sl 1 (a.1.map (eInt .u8)))), (1, .t (.sl 1 (a.2.1.map (eInt .u8)))), (4, .t (.bool false)), (5, .t (.int .i64 a.2.2))], [], []⟩) (fun k_laws_eqByteS_l2 a => laws_eqByteS_l2 u k_laws_eqByteS_l2 a.1 a.2.1 a.2.2 = some r) ?_ ?_ u (p0, p1, 0) h (Le.of (mo := []) (mr := []) kr kr kr kr)
      · intro a h; unfold laws_eqByteS_l2 at h; cases h
      · rintro k_laws_eqByteS_l2 ⟨p0, p1, x2⟩ h
        change laws_eqByteS_l2 u (k_laws_eqByteS_l2 + 1) p0 p1 x2 = some r at h
        rw [laws_eqByteS_l2] at h
        refine Wp.seq ?_
        refine Wp.srg [] [] ?_
        refine Runs.batch 2 kr ?_
        refine Runs.lenT (y := .t (.sl 1 (p0.map (eInt .u8)))) (e := 5) (eInt .u8) p0 1 rfl rfl rfl kr kr kr kr kr ?_
        refine Runs.alln ?_
        refine Wp.fg ⟨[(0, .t (.sl 1 (p0.map (eInt .u8)))), (1, .t (.sl 1 (p1.map (eInt .u8)))), (4, .t (.bool false)), (5, .t (.int .i64 x2)), (11, .t (.int .i64 x2)), (12, .t (.sl 1 (p0.map (eInt .u8)))), (13, .t (.int .i64 ((p0.length : Int)))), (14, .t (.bool (decide (x2 < ((p0.length : Int))))))], [], []⟩ ?_
        refine Wp.cond2 (b := decide (x2 < ((p0.length : Int)))) kr (fun hc => ?_) (fun hc => ?_)
        · have h := cond_t h hc
          refine Wp.skip ?_
          refine thenN ?_
          refine Wp.seq ?_
          refine Wp.block ?_
          refine Wp.seq ?_
          refine Wp.regionA (pOf []) (rhoOf [(0, .frz), (1, .frz), (5, .frz), (17, .frz), (18, .frz), (19, .frz), (20, .frz), (21, .frz), (22, .frz), (23, .frz), (24, .frz)]) kr kr ?_
          refine Runs.batch 2 kr ?_
          obtain ⟨y4, e_y4, h⟩ := bind_some h
          refine Runs.idxT (e := 5) (kk := .i64) (sz := 1) (eInt .u8) p0 x2 rfl kr kr kr kr kr kr e_y4 ?_
          refine Runs.batch 3 kr ?_
          obtain ⟨y5, e_y5, h⟩ := bind_some h
          refine Runs.idxT (e := 5) (kk := .i64) (sz := 1) (eInt .u8) p1 x2 rfl kr kr kr kr kr kr e_y5 ?_
          refine Runs.alln ?_
          refine Wp.fg ⟨[(0, .t (.sl 1 (p0.map (eInt .u8)))), (1, .t (.sl 1 (p1.map (eInt .u8)))), (4, .t (.bool false)), (5, .t (.int .i64 x2)), (11, .t (.int .i64 x2)), (12, .t (.sl 1 (p0.map (eInt .u8)))), (13, .t (.int .i64 ((p0.length : Int)))), (14, .t (.bool (decide (x2 < ((p0.length : Int)))))), (17, .t (.sl 1 (p0.map (eInt .u8)))), (18, .t (.int .i64 x2)), (19, .fadr [.int .u8 y4]), (20, .t (.int .u8 y4)), (21, .t (.sl 1 (p1.map (eInt .u8)))), (22, .t (.int .i64 x2)), (23, .fadr [.int .u8 y5]), (24, .t (.int .u8 y5)), (25, .t (.bool (y4 != y5)))], [], []⟩ ?_
          refine Wp.cond2 (b := y4 != y5) kr (fun hc => ?_) (fun hc => ?_)
          · have h := cond_t h hc
            refine Wp.srg [] [] ?_
            refine Runs.alln ?_
            refine Wp.fg ⟨[(0, .t (.sl 1 (p0.map (eInt .u8)))), (1, .t (.sl 1 (p1.map (eInt .u8)))), (4, .t (.bool false)), (5, .t (.int .i64 x2)), (11, .t (.int .i64 x2)), (12, .t (.sl 1 (p0.map (eInt .u8)))), (13, .t (.int .i64 ((p0.length : Int)))), (14, .t (.bool (decide (x2 < ((p0.length : Int)))))), (17, .t (.sl 1 (p0.map (eInt .u8)))), (18, .t (.int .i64 x2)), (19, .fadr [.int .u8 y4]), (20, .t (.int .u8 y4)), (21, .t (.sl 1 (p1.map (eInt .u8)))), (22, .t (.int .i64 x2)), (23, .fadr [.int .u8 y5]), (24, .t (.int .u8 y5)), (25, .t (.bool (y4 != y5)))], [], []⟩ ?_
            refine Wp.ret ?_
            refine blkR ?_
            refine thenR ?_
            refine thenR ?_
            refine blkR ?_
            refine thenR ?_
            have hr := Option.some.inj h
            subst hr
            exact RetK [.t (.bool false)] (.one (.t (.bool false))) [] kr kr (.refl _) .nil
          · have h := cond_f h hc
            refine Wp.skip ?_
            refine blkN ?_
            refine thenN ?_
            refine Wp.rg [] [] ?_
            refine Runs.alln ?_
            exact ⟨(p0, p1, bAdd .i64 x2 1), h, Le.of (mo := []) (mr := []) kr kr kr kr⟩
        · have h := cond_f h hc
          refine Wp.exit ?_
          refine thenE ?_
          refine thenE ?_
          refine blkE ?_
          refine thenN ?_
          exact ⟨(), h, Le.of (mo := []) (mr := []) kr kr kr kr⟩
theorem laws_eqImage_ok (u : Nat) (p0 : Image) (p1 : Image) (r : Bool) (h : laws_eqImage u p0 p1 = some r) : CallOK Tryz.prog 106 [.agg [.t (.sl 1 (p0.fB.map (eInt .u8)))], .agg [.t (.sl 1 (p1.fB.map (eInt .u8)))]] (.one (.t (.bool r))) [] := by
  unfold laws_eqImage at h
  refine CallOK.of_bodyK (fn := Tryz.f106) (m := false) [.agg [.t (.sl 1 (p0.fB.map (eInt .u8)))], .agg [.t (.sl 1 (p1.fB.map (eInt .u8)))]] kr rfl kr kr kr kr kr ?_
  refine Wp.srg [] [] ?_
  refine Runs.alln ?_
  refine Wp.fg ⟨[(2, .obj 2 0), (3, .obj 3 0), (4, .t (.bool false))], [(2, [.t (.sl 1 (p0.fB.map (eInt .u8)))]), (3, [.t (.sl 1 (p1.fB.map (eInt .u8)))])], []⟩ ?_
  refine Wp.seq ?_
  refine Wp.srg [] [] ?_
  refine Runs.batch 4 kr ?_
  obtain ⟨r1, e_r1, h⟩ := bind_some h
  refine Runs.callK false 9 54 [] [.t (.sl 1 (p0.fB.map (eInt .u8))), .t (.sl 1 (p1.fB.map (eInt .u8)))] [.one (.t (.sl 1 (p0.fB.map (eInt .u8)))), .one (.t (.sl 1 (p1.fB.map (eInt .u8))))] (.one (.t (.bool r1))) [] rfl rfl kr kr kr kr kr (laws_eqByteS_ok u p0.fB p1.fB r1 e_r1) kr ?_
  refine Runs.alln ?_
  refine Wp.fg ⟨[(4, .t (.bool false)), (10, .t (.bool (!r1)))], [], []⟩ ?_
  refine Wp.cond2 (b := !r1) kr (fun hc => ?_) (fun hc => ?_)
  · have h := cond_t h hc
    refine Wp.srg [] [] ?_
    refine Runs.alln ?_
    refine Wp.fg ⟨[(4, .t (.bool false))], [], []⟩ ?_
    refine Wp.ret ?_
    refine thenR ?_
    have hr := Option.some.inj h
    subst hr
    exact RetK [.t (.bool false)] (.one (.t (.bool false))) [] kr kr (.refl _) .nil
  · have h := cond_f h hc
    refine Wp.skip ?_
    refine thenN ?_
    refine Wp.srg [] [] ?_
    refine Runs.alln ?_
    refine Wp.fg ⟨[(4, .t (.bool true))], [], []⟩ ?_
    refine Wp.ret ?_
    have hr := Option.some.inj h
    subst hr
    exact RetK [.t (.bool true)] (.one (.t (.bool true))) [] kr kr (.refl _) .nil
theorem laws_eqImageS_ok (u : Nat) (p0 : List Image) (p1 : List Image) (r : Bool) (h : laws_eqImageS u p0 p1 = some r) : CallOK Tryz.prog 55 [.one (.t (.sl 1 (p0.map Image.enc))), .one (.t (.sl 1 (p1.map Image.enc)))] (.one (.t (.bool r))) [] := by
  unfold laws_eqImageS at h
  refine CallOK.of_bodyK (fn := Tryz.f55) (m := false) [.t (.sl 1 (p0.map Image.enc)), .t (.sl 1 (p1.map Image.enc))] kr rfl kr kr kr kr kr ?_
  refine Wp.srg [] [] ?_
  refine Runs.alln ?_
  refine Wp.fg ⟨[(0, .t (.sl 1 (p0.map Image.enc))), (1, .t (.sl 1 (p1.map Image.enc))), (4, .t (.bool false))], [], []⟩ ?_
  refine Wp.seq ?_
  refine Wp.srg [] [] ?_
  refine Runs.batch 1 kr ?_
  refine Runs.lenT (y := .t (.sl 1 (p0.map Image.enc))) (e := 89) Image.enc p0 1 rfl rfl rfl kr kr kr kr kr ?_
  refine Runs.batch 1 kr ?_
  refine Runs.lenT (y := .t (.sl 1 (p1.map Image.enc))) (e := 89) Image.enc p1 1 rfl rfl rfl kr kr kr kr kr ?_
  refine Runs.alln ?_
  refine Wp.fg ⟨[(0, .t (.sl 1 (p0.map Image.enc))), (1, .t (.sl 1 (p1.map Image.enc))), (4, .t (.bool false)), (10, .t (.bool (((p0.length : Int)) != ((p1.length : Int)))))], [], []⟩ ?_
  refine Wp.cond2 (b := ((p0.length : Int)) != ((p1.length : Int))) kr (fun hc => ?_) (fun hc => ?_)
  · have h := cond_t h hc
    refine Wp.srg [] [] ?_
    refine Runs.alln ?_
    refine Wp.fg ⟨[(0, .t (.sl 1 (p0.map Image.enc))), (1, .t (.sl 1 (p1.map Image.enc))), (4, .t (.bool false))], [], []⟩ ?_
    refine Wp.ret ?_
    refine thenR ?_
    have hr := Option.some.inj h
    subst hr
    exact RetK [.t (.bool false)] (.one (.t (.bool false))) [] kr kr (.refl _) .nil
  · have h := cond_f h hc
    refine Wp.skip ?_
    refine thenN ?_
    refine Wp.seqJ (α := Unit) (fun a => ⟨[(4, .t (.bool false))], [], []⟩) (fun a => laws_eqImageS_j1 u = some r) ?_ ?_
    · rintro ⟨⟩ h
      change laws_eqImageS_j1 u = some r at h
      unfold laws_eqImageS_j1 at h
      refine Wp.srg [] [] ?_
      refine Runs.alln ?_
      refine Wp.fg ⟨[(4, .t (.bool true))], [], []⟩ ?_
      refine Wp.ret ?_
      have hr := Option.some.inj h
      subst hr
      exact RetK [.t (.bool true)] (.one (.t (.bool true))) [] kr kr (.refl _) .nil
    · refine Wp.srg [] [] ?_
      refine Runs.alln ?_
      refine Wp.fg ⟨[(0, .t (.sl 1 (p0.map Image.enc))), (1, .t (.sl 1 (p1.map Image.enc))), (4, .t (.bool false)), (5, .t (.int .i64 0))], [], []⟩ ?_
      refine Wp.block ?_
      refine Wp.loopF (α := (List Image) × (List Image) × Int) (fun a => ⟨[(0, .t (.sl 1 (a.1.map Image.enc))), (1, .t (.sl 1 (a.2.1.map Image.enc))), (4, .t (.bool false)), (5, .t (.int .i64 a.2.2))], [], []⟩) (fun k_laws_eqImageS_l2 a => laws_eqImageS_l2 u k_laws_eqImageS_l2 a.1 a.2.1 a.2.2 = some r) ?_ ?_ u (p0, p1, 0) h (Le.of (mo := []) (mr := []) kr kr kr kr)
      · intro a h; unfold laws_eqImageS_l2 at h; cases h
      · rintro k_laws_eqImageS_l2 ⟨p0, p1, x2⟩ h
        change laws_eqImageS_l2 u (k_laws_eqImageS_l2 + 1) p0 p1 x2 = some r at h
        rw [laws_eqImageS_l2] at h
        refine Wp.seq ?_
        refine Wp.srg [] [] ?_
        refine Runs.batch 2 kr ?_
        refine Runs.lenT (y := .t (.sl 1 (p0.map Image.enc))) (e := 89) Image.enc p0 1 rfl rfl rfl kr kr kr kr kr ?_
        refine Runs.alln ?_
        refine Wp.fg ⟨[(0, .t (.sl 1 (p0.map Image.enc))), (1, .t (.sl 1 (p1.map Image.enc))), (4, .t (.bool false)), (5, .t (.int .i64 x2)), (11, .t (.int .i64 x2)), (12, .t (.sl 1 (p0.map Image.enc))), (13, .t (.int .i64 ((p0.length : Int)))), (14, .t (.bool (decide (x2 < ((p0.length : Int))))))], [], []⟩ ?_
        refine Wp.cond2 (b := decide (x2 < ((p0.length : Int)))) kr (fun hc => ?_) (fun hc => ?_)
        · have h := cond_t h hc
          refine Wp.skip ?_
          refine thenN ?_
          refine Wp.seq ?_
          refine Wp.block ?_
          refine Wp.seq ?_
          refine Wp.regionA (pOf []) (rhoOf [(0, .frz), (1, .frz), (5, .frz), (17, .frz), (18, .frz), (19, .frz), (20, .frz), (21, .frz), (22, .frz), (23, .frz), (24, .frz), (25, .frz)]) kr kr ?_
          refine Runs.batch 2 kr ?_
          obtain ⟨y4, e_y4, h⟩ := bind_some h
          refine Runs.idxT (e := 89) (kk := .i64) (sz := 1) Image.enc p0 x2 rfl kr kr kr kr kr kr e_y4 ?_
          refine Runs.batch 3 kr ?_
          obtain ⟨y5, e_y5, h⟩ := bind_some h
          refine Runs.idxT (e := 89) (kk := .i64) (sz := 1) Image.enc p1 x2 rfl kr kr kr kr kr kr e_y5 ?_
          refine Runs.batch 1 kr ?_
          obtain ⟨r6, e_r6, h⟩ := bind_some h
          refine Runs.callK false 25 106 [] [.agg [.t (.sl 1 (y4.fB.map (eInt .u8)))], .agg [.t (.sl 1 (y5.fB.map (eInt .u8)))]] [.agg [.t (.sl 1 (y4.fB.map (eInt .u8)))], .agg [.t (.sl 1 (y5.fB.map (eInt .u8)))]] (.one (.t (.bool r6))) [] rfl rfl kr kr kr kr kr (laws_eqImage_ok u y4 y5 r6 e_r6) kr ?_
          refine Runs.alln ?_
          refine Wp.fg ⟨[(0, .t (.sl 1 (p0.map Image.enc))), (1, .t (.sl 1 (p1.map Image.enc))), (4, .t (.bool false)), (5, .t (.int .i64 x2)), (11, .t (.int .i64 x2)), (12, .t (.sl 1 (p0.map Image.enc))), (13, .t (.int .i64 ((p0.length : Int)))), (14, .t (.bool (decide (x2 < ((p0.length : Int)))))), (17, .t (.sl 1 (p0.map Image.enc))), (18, .t (.int .i64 x2)), (19, .fadr [.sl 1 (y4.fB.map (eInt .u8))]), (20, .agg [.t (.sl 1 (y4.fB.map (eInt .u8)))]), (21, .t (.sl 1 (p1.map Image.enc))), (22, .t (.int .i64 x2)), (23, .fadr [.sl 1 (y5.fB.map (eInt .u8))]), (24, .agg [.t (.sl 1 (y5.fB.map (eInt .u8)))]), (25, .t (.bool r6)), (26, .t (.bool (!r6)))], [], []⟩ ?_
          refine Wp.cond2 (b := !r6) kr (fun hc => ?_) (fun hc => ?_)
          · have h := cond_t h hc
            refine Wp.srg [] [] ?_
            refine Runs.alln ?_
            refine Wp.fg ⟨[(0, .t (.sl 1 (p0.map Image.enc))), (1, .t (.sl 1 (p1.map Image.enc))), (4, .t (.bool false)), (5, .t (.int .i64 x2)), (11, .t (.int .i64 x2)), (12, .t (.sl 1 (p0.map Image.enc))), (13, .t (.int .i64 ((p0.length : Int)))), (14, .t (.bool (decide (x2 < ((p0.length : Int)))))), (17, .t (.sl 1 (p0.map Image.enc))), (18, .t (.int .i64 x2)), (19, .fadr [.sl 1 (y4.fB.map (eInt .u8))]), (20, .agg [.t (.sl 1 (y4.fB.map (eInt .u8)))]), (21, .t (.sl 1 (p1.map Image.enc))), (22, .t (.int .i64 x2)), (23, .fadr [.sl 1 (y5.fB.map (eInt .u8))]), (24, .agg [.t (.sl 1 (y5.fB.map (eInt .u8)))]), (25, .t (.bool r6)), (26, .t (.bool (!r6)))], [], []⟩ ?_
            refine Wp.ret ?_
            refine blkR ?_
            refine thenR ?_
            refine thenR ?_
            refine blkR ?_
            refine thenR ?_
            have hr := Option.some.inj h
            subst hr
            exact RetK [.t (.bool false)] (.one (.t (.bool false))) [] kr kr (.refl _) .nil
          · have h := cond_f h hc
            refine Wp.skip ?_
            refine blkN ?_
            refine thenN ?_
            refine Wp.rg [] [] ?_
            refine Runs.alln ?_
            exact ⟨(p0, p1, bAdd .i64 x2 1), h, Le.of (mo := []) (mr := []) kr kr kr kr⟩
        · have h := cond_f h hc
          refine Wp.exit ?_
          refine thenE ?_
          refine thenE ?_
          refine blkE ?_
          refine thenN ?_
          exact ⟨(), h, Le.of (mo := []) (mr := []) kr kr kr kr⟩
theorem laws_eqSum_ok (u : Nat) (p0 : Sum) (p1 : Sum) (r : Bool) (h : laws_eqSum u p0 p1 = some r) : CallOK Tryz.prog 203 [.agg [.t (.int .i64 p0.fW), .t (.int .i64 p0.fS)], .agg [.t (.int .i64 p1.fW), .t (.int .i64 p1.fS)]] (.one (.t (.bool r))) [] := by
  unfold laws_eqSum at h
  refine CallOK.of_bodyK (fn := Tryz.f203) (m := false) [.agg [.t (.int .i64 p0.fW), .t (.int .i64 p0.fS)], .agg [.t (.int .i64 p1.fW), .t (.int .i64 p1.fS)]] kr rfl kr kr kr kr kr ?_
  refine Wp.srg [] [] ?_
  refine Runs.alln ?_
  refine Wp.fg ⟨[(2, .obj 2 0), (3, .obj 3 0), (4, .t (.bool false))], [(2, [.t (.int .i64 p0.fW), .t (.int .i64 p0.fS)]), (3, [.t (.int .i64 p1.fW), .t (.int .i64 p1.fS)])], []⟩ ?_
  refine Wp.seq ?_
  refine Wp.srg [] [] ?_
  refine Runs.alln ?_
  refine Wp.fg ⟨[(2, .obj 2 0), (3, .obj 3 0), (4, .t (.bool false)), (9, .t (.bool (p0.fW != p1.fW)))], [(2, [.t (.int .i64 p0.fW), .t (.int .i64 p0.fS)]), (3, [.t (.int .i64 p1.fW), .t (.int .i64 p1.fS)])], []⟩ ?_
  refine Wp.cond2 (b := p0.fW != p1.fW) kr (fun hc => ?_) (fun hc => ?_)
  · have h := cond_t h hc
    refine Wp.srg [] [] ?_
    refine Runs.alln ?_
    refine Wp.fg ⟨[(2, .obj 2 0), (3, .obj 3 0), (4, .t (.bool false))], [(2, [.t (.int .i64 p0.fW), .t (.int .i64 p0.fS)]), (3, [.t (.int .i64 p1.fW), .t (.int .i64 p1.fS)])], []⟩ ?_
    refine Wp.ret ?_
    refine thenR ?_
    have hr := Option.some.inj h
    subst hr
    exact RetK [.t (.bool false)] (.one (.t (.bool false))) [] kr kr (.refl _) .nil
  · have h := cond_f h hc
    refine Wp.skip ?_
    refine thenN ?_
    refine Wp.seq ?_
    refine Wp.srg [] [] ?_
    refine Runs.alln ?_
    refine Wp.fg ⟨[(4, .t (.bool false)), (14, .t (.bool (p0.fS != p1.fS)))], [], []⟩ ?_
    refine Wp.cond2 (b := p0.fS != p1.fS) kr (fun hc => ?_) (fun hc => ?_)
    · have h := cond_t h hc
      refine Wp.srg [] [] ?_
      refine Runs.alln ?_
      refine Wp.fg ⟨[(4, .t (.bool false))], [], []⟩ ?_
      refine Wp.ret ?_
      refine thenR ?_
      have hr := Option.some.inj h
      subst hr
      exact RetK [.t (.bool false)] (.one (.t (.bool false))) [] kr kr (.refl _) .nil
    · have h := cond_f h hc
      refine Wp.skip ?_
      refine thenN ?_
      refine Wp.srg [] [] ?_
      refine Runs.alln ?_
      refine Wp.fg ⟨[(4, .t (.bool true))], [], []⟩ ?_
      refine Wp.ret ?_
      have hr := Option.some.inj h
      subst hr
      exact RetK [.t (.bool true)] (.one (.t (.bool true))) [] kr kr (.refl _) .nil
theorem laws_eqSumS_ok (u : Nat) (p0 : List Sum) (p1 : List Sum) (r : Bool) (h : laws_eqSumS u p0 p1 = some r) : CallOK Tryz.prog 178 [.one (.t (.sl 2 (p0.map Sum.enc))), .one (.t (.sl 2 (p1.map Sum.enc)))] (.one (.t (.bool r))) [] := by
  unfold laws_eqSumS at h
  refine CallOK.of_bodyK (fn := Tryz.f178) (m := false) [.t (.sl 2 (p0.map Sum.enc)), .t (.sl 2 (p1.map Sum.enc))] kr rfl kr kr kr kr kr ?_
  refine Wp.srg [] [] ?_
  refine Runs.alln ?_
  refine Wp.fg ⟨[(0, .t (.sl 2 (p0.map Sum.enc))), (1, .t (.sl 2 (p1.map Sum.enc))), (4, .t (.bool false))], [], []⟩ ?_
  refine Wp.seq ?_
  refine Wp.srg [] [] ?_
  refine Runs.batch 1 kr ?_
  refine Runs.lenT (y := .t (.sl 2 (p0.map Sum.enc))) (e := 184) Sum.enc p0 2 rfl rfl rfl kr kr kr kr kr ?_
  refine Runs.batch 1 kr ?_
  refine Runs.lenT (y := .t (.sl 2 (p1.map Sum.enc))) (e := 184) Sum.enc p1 2 rfl rfl rfl kr kr kr kr kr ?_
  refine Runs.alln ?_
  refine Wp.fg ⟨[(0, .t (.sl 2 (p0.map Sum.enc))), (1, .t (.sl 2 (p1.map Sum.enc))), (4, .t (.bool false)), (10, .t (.bool (((p0.length : Int)) != ((p1.length : Int)))))], [], []⟩ ?_
  refine Wp.cond2 (b := ((p0.length : Int)) != ((p1.length : Int))) kr (fun hc => ?_) (fun hc => ?_)
  · have h := cond_t h hc
    refine Wp.srg [] [] ?_
    refine Runs.alln ?_
    refine Wp.fg ⟨[(0, .t (.sl 2 (p0.map Sum.enc))), (1, .t (.sl 2 (p1.map Sum.enc))), (4, .t (.bool false))], [], []⟩ ?_
    refine Wp.ret ?_
    refine thenR ?_
    have hr := Option.some.inj h
    subst hr
    exact RetK [.t (.bool false)] (.one (.t (.bool false))) [] kr kr (.refl _) .nil
  · have h := cond_f h hc
    refine Wp.skip ?_
    refine thenN ?_
    refine Wp.seqJ (α := Unit) (fun a => ⟨[(4, .t (.bool false))], [], []⟩) (fun a => laws_eqSumS_j1 u = some r) ?_ ?_
    · rintro ⟨⟩ h
      change laws_eqSumS_j1 u = some r at h
      unfold laws_eqSumS_j1 at h
      refine Wp.srg [] [] ?_
      refine Runs.alln ?_
      refine Wp.fg ⟨[(4, .t (.bool true))], [], []⟩ ?_
      refine Wp.ret ?_
      have hr := Option.some.inj h
      subst hr
      exact RetK [.t (.bool true)] (.one (.t (.bool true))) [] kr kr (.refl _) .nil
    · refine Wp.srg [] [] ?_
      refine Runs.alln ?_
      refine Wp.fg ⟨[(0, .t (.sl 2 (p0.map Sum.enc))), (1, .t (.sl 2 (p1.map Sum.enc))), (4, .t (.bool false)), (5, .t (.int .i64 0))], [], []⟩ ?_
      refine Wp.block ?_
      refine Wp.loopF (α := (List Sum) × (List Sum) × Int) (fun a => ⟨[(0, .t (.sl 2 (a.1.map Sum.enc))), (1, .t (.sl 2 (a.2.1.map Sum.enc))), (4, .t (.bool false)), (5, .t (.int .i64 a.2.2))], [], []⟩) (fun k_laws_eqSumS_l2 a => laws_eqSumS_l2 u k_laws_eqSumS_l2 a.1 a.2.1 a.2.2 = some r) ?_ ?_ u (p0, p1, 0) h (Le.of (mo := []) (mr := []) kr kr kr kr)
      · intro a h; unfold laws_eqSumS_l2 at h; cases h
      · rintro k_laws_eqSumS_l2 ⟨p0, p1, x2⟩ h
        change laws_eqSumS_l2 u (k_laws_eqSumS_l2 + 1) p0 p1 x2 = some r at h
        rw [laws_eqSumS_l2] at h
        refine Wp.seq ?_
        refine Wp.srg [] [] ?_
        refine Runs.batch 2 kr ?_
        refine Runs.lenT (y := .t (.sl 2 (p0.map Sum.enc))) (e := 184) Sum.enc p0 2 rfl rfl rfl kr kr kr kr kr ?_
        refine Runs.alln ?_
        refine Wp.fg ⟨[(0, .t (.sl 2 (p0.map Sum.enc))), (1, .t (.sl 2 (p1.map Sum.enc))), (4, .t (.bool false)), (5, .t (.int .i64 x2)), (11, .t (.int .i64 x2)), (12, .t (.sl 2 (p0.map Sum.enc))), (13, .t (.int .i64 ((p0.length : Int)))), (14, .t (.bool (decide (x2 < ((p0.length : Int))))))], [], []⟩ ?_
        refine Wp.cond2 (b := decide (x2 < ((p0.length : Int)))) kr (fun hc => ?_) (fun hc => ?_)
        · have h := cond_t h hc
          refine Wp.skip ?_
          refine thenN ?_
          refine Wp.seq ?_
          refine Wp.block ?_
          refine Wp.seq ?_
          refine Wp.regionA (pOf []) (rhoOf [(0, .frz), (1, .frz), (5, .frz), (17, .frz), (18, .frz), (19, .frz), (20, .frz), (21, .frz), (22, .frz), (23, .frz), (24, .frz), (25, .frz)]) kr kr ?_
          refine Runs.batch 2 kr ?_
          obtain ⟨y4, e_y4, h⟩ := bind_some h
          refine Runs.idxT (e := 184) (kk := .i64) (sz := 2) Sum.enc p0 x2 rfl kr kr kr kr kr kr e_y4 ?_
          refine Runs.batch 3 kr ?_
          obtain ⟨y5, e_y5, h⟩ := bind_some h
          refine Runs.idxT (e := 184) (kk := .i64) (sz := 2) Sum.enc p1 x2 rfl kr kr kr kr kr kr e_y5 ?_
          refine Runs.batch 1 kr ?_
          obtain ⟨r6, e_r6, h⟩ := bind_some h
          refine Runs.callK false 25 203 [] [.agg [.t (.int .i64 y4.fW), .t (.int .i64 y4.fS)], .agg [.t (.int .i64 y5.fW), .t (.int .i64 y5.fS)]] [.agg [.t (.int .i64 y4.fW), .t (.int .i64 y4.fS)], .agg [.t (.int .i64 y5.fW), .t (.int .i64 y5.fS)]] (.one (.t (.bool r6))) [] rfl rfl kr kr kr kr kr (laws_eqSum_ok u y4 y5 r6 e_r6) kr ?_
          refine Runs.alln ?_
          refine Wp.fg ⟨[(0, .t (.sl 2 (p0.map Sum.enc))), (1, .t (.sl 2 (p1.map Sum.enc))), (4, .t (.bool false)), (5, .t (.int .i64 x2)), (11, .t (.int .i64 x2)), (12, .t (.sl 2 (p0.map Sum.enc))), (13, .t (.int .i64 ((p0.length : Int)))), (14, .t (.bool (decide (x2 < ((p0.length : Int)))))), (17, .t (.sl 2 (p0.map Sum.enc))), (18, .t (.int .i64 x2)), (19, .fadr [.int .i64 y4.fW, .int .i64 y4.fS]), (20, .agg [.t (.int .i64 y4.fW), .t (.int .i64 y4.fS)]), (21, .t (.sl 2 (p1.map Sum.enc))), (22, .t (.int .i64 x2)), (23, .fadr [.int .i64 y5.fW, .int .i64 y5.fS]), (24, .agg [.t (.int .i64 y5.fW), .t (.int .i64 y5.fS)]), (25, .t (.bool r6)), (26, .t (.bool (!r6)))], [], []⟩ ?_
          refine Wp.cond2 (b := !r6) kr (fun hc => ?_) (fun hc => ?_)
          · have h := cond_t h hc
            refine Wp.srg [] [] ?_
            refine Runs.alln ?_
            refine Wp.fg ⟨[(0, .t (.sl 2 (p0.map Sum.enc))), (1, .t (.sl 2 (p1.map Sum.enc))), (4, .t (.bool false)), (5, .t (.int .i64 x2)), (11, .t (.int .i64 x2)), (12, .t (.sl 2 (p0.map Sum.enc))), (13, .t (.int .i64 ((p0.length : Int)))), (14, .t (.bool (decide (x2 < ((p0.length : Int)))))), (17, .t (.sl 2 (p0.map Sum.enc))), (18, .t (.int .i64 x2)), (19, .fadr [.int .i64 y4.fW, .int .i64 y4.fS]), (20, .agg [.t (.int .i64 y4.fW), .t (.int .i64 y4.fS)]), (21, .t (.sl 2 (p1.map Sum.enc))), (22, .t (.int .i64 x2)), (23, .fadr [.int .i64 y5.fW, .int .i64 y5.fS]), (24, .agg [.t (.int .i64 y5.fW), .t (.int .i64 y5.fS)]), (25, .t (.bool r6)), (26, .t (.bool (!r6)))], [], []⟩ ?_
            refine Wp.ret ?_
            refine blkR ?_
            refine thenR ?_
            refine thenR ?_
            refine blkR ?_
            refine thenR ?_
            have hr := Option.some.inj h
            subst hr
            exact RetK [.t (.bool false)] (.one (.t (.bool false))) [] kr kr (.refl _) .nil
          · have h := cond_f h hc
            refine Wp.skip ?_
            refine blkN ?_
            refine thenN ?_
            refine Wp.rg [] [] ?_
            refine Runs.alln ?_
            exact ⟨(p0, p1, bAdd .i64 x2 1), h, Le.of (mo := []) (mr := []) kr kr kr kr⟩
        · have h := cond_f h hc
          refine Wp.exit ?_
          refine thenE ?_
          refine thenE ?_
          refine blkE ?_
          refine thenN ?_
          exact ⟨(), h, Le.of (mo := []) (mr := []) kr kr kr kr⟩
theorem laws_eqManifest_ok (u : Nat) (p0 : Manifest) (p1 : Manifest) (r : Bool) (h : laws_eqManifest u p0 p1 = some r) : CallOK Tryz.prog 145 [.agg [.t (.int .i64 p0.fGen), .t (.int .i64 p0.fSize), .t (.int .i64 p0.fLen), .t (.sl 2 (p0.fSums.map Sum.enc))], .agg [.t (.int .i64 p1.fGen), .t (.int .i64 p1.fSize), .t (.int .i64 p1.fLen), .t (.sl 2 (p1.fSums.map Sum.enc))]] (.one (.t (.bool r))) [] := by
  unfold laws_eqManifest at h
  refine CallOK.of_bodyK (fn := Tryz.f145) (m := false) [.agg ((Manifest.enc p0).map .t), .agg ((Manifest.enc p1).map .t)] kr rfl kr kr kr kr kr ?_
  refine Wp.srg [] [] ?_
  refine Runs.alln ?_
  refine Wp.fg ⟨[(2, .obj 2 0), (3, .obj 3 0), (4, .t (.bool false))], [(2, ((Manifest.enc p0).map .t)), (3, ((Manifest.enc p1).map .t))], []⟩ ?_
  refine Wp.seq ?_
  refine Wp.srg [] [] ?_
  refine Runs.alln ?_
  refine Wp.fg ⟨[(2, .obj 2 0), (3, .obj 3 0), (4, .t (.bool false)), (9, .t (.bool (p0.fGen != p1.fGen)))], [(2, ((Manifest.enc p0).map .t)), (3, ((Manifest.enc p1).map .t))], []⟩ ?_
  refine Wp.cond2 (b := p0.fGen != p1.fGen) kr (fun hc => ?_) (fun hc => ?_)
  · have h := cond_t h hc
    refine Wp.srg [] [] ?_
    refine Runs.alln ?_
    refine Wp.fg ⟨[(2, .obj 2 0), (3, .obj 3 0), (4, .t (.bool false))], [(2, ((Manifest.enc p0).map .t)), (3, ((Manifest.enc p1).map .t))], []⟩ ?_
    refine Wp.ret ?_
    refine thenR ?_
    have hr := Option.some.inj h
    subst hr
    exact RetK [.t (.bool false)] (.one (.t (.bool false))) [] kr kr (.refl _) .nil
  · have h := cond_f h hc
    refine Wp.skip ?_
    refine thenN ?_
    refine Wp.seq ?_
    refine Wp.srg [] [] ?_
    refine Runs.alln ?_
    refine Wp.fg ⟨[(2, .obj 2 0), (3, .obj 3 0), (4, .t (.bool false)), (14, .t (.bool (p0.fSize != p1.fSize)))], [(2, ((Manifest.enc p0).map .t)), (3, ((Manifest.enc p1).map .t))], []⟩ ?_
    refine Wp.cond2 (b := p0.fSize != p1.fSize) kr (fun hc => ?_) (fun hc => ?_)
    · have h := cond_t h hc
      refine Wp.srg [] [] ?_
      refine Runs.alln ?_
      refine Wp.fg ⟨[(2, .obj 2 0), (3, .obj 3 0), (4, .t (.bool false))], [(2, ((Manifest.enc p0).map .t)), (3, ((Manifest.enc p1).map .t))], []⟩ ?_
      refine Wp.ret ?_
      refine thenR ?_
      have hr := Option.some.inj h
      subst hr
      exact RetK [.t (.bool false)] (.one (.t (.bool false))) [] kr kr (.refl _) .nil
    · have h := cond_f h hc
      refine Wp.skip ?_
      refine thenN ?_
      refine Wp.seq ?_
      refine Wp.srg [] [] ?_
      refine Runs.alln ?_
      refine Wp.fg ⟨[(2, .obj 2 0), (3, .obj 3 0), (4, .t (.bool false)), (19, .t (.bool (p0.fLen != p1.fLen)))], [(2, ((Manifest.enc p0).map .t)), (3, ((Manifest.enc p1).map .t))], []⟩ ?_
      refine Wp.cond2 (b := p0.fLen != p1.fLen) kr (fun hc => ?_) (fun hc => ?_)
      · have h := cond_t h hc
        refine Wp.srg [] [] ?_
        refine Runs.alln ?_
        refine Wp.fg ⟨[(2, .obj 2 0), (3, .obj 3 0), (4, .t (.bool false))], [(2, ((Manifest.enc p0).map .t)), (3, ((Manifest.enc p1).map .t))], []⟩ ?_
        refine Wp.ret ?_
        refine thenR ?_
        have hr := Option.some.inj h
        subst hr
        exact RetK [.t (.bool false)] (.one (.t (.bool false))) [] kr kr (.refl _) .nil
      · have h := cond_f h hc
        refine Wp.skip ?_
        refine thenN ?_
        refine Wp.seq ?_
        refine Wp.srg [] [] ?_
        refine Runs.batch 4 kr ?_
        obtain ⟨r1, e_r1, h⟩ := bind_some h
        refine Runs.callK false 24 178 [] [.t (.sl 2 (p0.fSums.map Sum.enc)), .t (.sl 2 (p1.fSums.map Sum.enc))] [.one (.t (.sl 2 (p0.fSums.map Sum.enc))), .one (.t (.sl 2 (p1.fSums.map Sum.enc)))] (.one (.t (.bool r1))) [] rfl rfl kr kr kr kr kr (laws_eqSumS_ok u p0.fSums p1.fSums r1 e_r1) kr ?_
        refine Runs.alln ?_
        refine Wp.fg ⟨[(4, .t (.bool false)), (25, .t (.bool (!r1)))], [], []⟩ ?_
        refine Wp.cond2 (b := !r1) kr (fun hc => ?_) (fun hc => ?_)
        · have h := cond_t h hc
          refine Wp.srg [] [] ?_
          refine Runs.alln ?_
          refine Wp.fg ⟨[(4, .t (.bool false))], [], []⟩ ?_
          refine Wp.ret ?_
          refine thenR ?_
          have hr := Option.some.inj h
          subst hr
          exact RetK [.t (.bool false)] (.one (.t (.bool false))) [] kr kr (.refl _) .nil
        · have h := cond_f h hc
          refine Wp.skip ?_
          refine thenN ?_
          refine Wp.srg [] [] ?_
          refine Runs.alln ?_
          refine Wp.fg ⟨[(4, .t (.bool true))], [], []⟩ ?_
          refine Wp.ret ?_
          have hr := Option.some.inj h
          subst hr
          exact RetK [.t (.bool true)] (.one (.t (.bool true))) [] kr kr (.refl _) .nil
theorem laws_eqBuild_ok (u : Nat) (p0 : Build) (p1 : Build) (r : Bool) (h : laws_eqBuild u p0 p1 = some r) : CallOK Tryz.prog 146 [.agg [.t (.int .i64 p0.fHave), .t (.sl 1 (p0.fBuf.map (eInt .u8)))], .agg [.t (.int .i64 p1.fHave), .t (.sl 1 (p1.fBuf.map (eInt .u8)))]] (.one (.t (.bool r))) [] := by
  unfold laws_eqBuild at h
  refine CallOK.of_bodyK (fn := Tryz.f146) (m := false) [.agg [.t (.int .i64 p0.fHave), .t (.sl 1 (p0.fBuf.map (eInt .u8)))], .agg [.t (.int .i64 p1.fHave), .t (.sl 1 (p1.fBuf.map (eInt .u8)))]] kr rfl kr kr kr kr kr ?_
  refine Wp.srg [] [] ?_
  refine Runs.alln ?_
  refine Wp.fg ⟨[(2, .obj 2 0), (3, .obj 3 0), (4, .t (.bool false))], [(2, [.t (.int .i64 p0.fHave), .t (.sl 1 (p0.fBuf.map (eInt .u8)))]), (3, [.t (.int .i64 p1.fHave), .t (.sl 1 (p1.fBuf.map (eInt .u8)))])], []⟩ ?_
  refine Wp.seq ?_
  refine Wp.srg [] [] ?_
  refine Runs.alln ?_
  refine Wp.fg ⟨[(2, .obj 2 0), (3, .obj 3 0), (4, .t (.bool false)), (9, .t (.bool (p0.fHave != p1.fHave)))], [(2, [.t (.int .i64 p0.fHave), .t (.sl 1 (p0.fBuf.map (eInt .u8)))]), (3, [.t (.int .i64 p1.fHave), .t (.sl 1 (p1.fBuf.map (eInt .u8)))])], []⟩ ?_
  refine Wp.cond2 (b := p0.fHave != p1.fHave) kr (fun hc => ?_) (fun hc => ?_)
  · have h := cond_t h hc
    refine Wp.srg [] [] ?_
    refine Runs.alln ?_
    refine Wp.fg ⟨[(2, .obj 2 0), (3, .obj 3 0), (4, .t (.bool false))], [(2, [.t (.int .i64 p0.fHave), .t (.sl 1 (p0.fBuf.map (eInt .u8)))]), (3, [.t (.int .i64 p1.fHave), .t (.sl 1 (p1.fBuf.map (eInt .u8)))])], []⟩ ?_
    refine Wp.ret ?_
    refine thenR ?_
    have hr := Option.some.inj h
    subst hr
    exact RetK [.t (.bool false)] (.one (.t (.bool false))) [] kr kr (.refl _) .nil
  · have h := cond_f h hc
    refine Wp.skip ?_
    refine thenN ?_
    refine Wp.seq ?_
    refine Wp.srg [] [] ?_
    refine Runs.batch 4 kr ?_
    obtain ⟨r1, e_r1, h⟩ := bind_some h
    refine Runs.callK false 14 54 [] [.t (.sl 1 (p0.fBuf.map (eInt .u8))), .t (.sl 1 (p1.fBuf.map (eInt .u8)))] [.one (.t (.sl 1 (p0.fBuf.map (eInt .u8)))), .one (.t (.sl 1 (p1.fBuf.map (eInt .u8))))] (.one (.t (.bool r1))) [] rfl rfl kr kr kr kr kr (laws_eqByteS_ok u p0.fBuf p1.fBuf r1 e_r1) kr ?_
    refine Runs.alln ?_
    refine Wp.fg ⟨[(4, .t (.bool false)), (15, .t (.bool (!r1)))], [], []⟩ ?_
    refine Wp.cond2 (b := !r1) kr (fun hc => ?_) (fun hc => ?_)
    · have h := cond_t h hc
      refine Wp.srg [] [] ?_
      refine Runs.alln ?_
      refine Wp.fg ⟨[(4, .t (.bool false))], [], []⟩ ?_
      refine Wp.ret ?_
      refine thenR ?_
      have hr := Option.some.inj h
      subst hr
      exact RetK [.t (.bool false)] (.one (.t (.bool false))) [] kr kr (.refl _) .nil
    · have h := cond_f h hc
      refine Wp.skip ?_
      refine thenN ?_
      refine Wp.srg [] [] ?_
      refine Runs.alln ?_
      refine Wp.fg ⟨[(4, .t (.bool true))], [], []⟩ ?_
      refine Wp.ret ?_
      have hr := Option.some.inj h
      subst hr
      exact RetK [.t (.bool true)] (.one (.t (.bool true))) [] kr kr (.refl _) .nil
theorem laws_eqKid_ok (u : Nat) (p0 : Kid) (p1 : Kid) (r : Bool) (h : laws_eqKid u p0 p1 = some r) : CallOK Tryz.prog 179 [.agg [.t (.int .i64 p0.fId), .t (.int .i64 p0.fWant), .t (.int .i64 p0.fDone), .t (.int .i64 p0.fAge), .t (.int .i64 p0.fSent)], .agg [.t (.int .i64 p1.fId), .t (.int .i64 p1.fWant), .t (.int .i64 p1.fDone), .t (.int .i64 p1.fAge), .t (.int .i64 p1.fSent)]] (.one (.t (.bool r))) [] := by
  unfold laws_eqKid at h
  refine CallOK.of_bodyK (fn := Tryz.f179) (m := false) [.agg ((Kid.enc p0).map .t), .agg ((Kid.enc p1).map .t)] kr rfl kr kr kr kr kr ?_
  refine Wp.srg [] [] ?_
  refine Runs.alln ?_
  refine Wp.fg ⟨[(2, .obj 2 0), (3, .obj 3 0), (4, .t (.bool false))], [(2, ((Kid.enc p0).map .t)), (3, ((Kid.enc p1).map .t))], []⟩ ?_
  refine Wp.seq ?_
  refine Wp.srg [] [] ?_
  refine Runs.alln ?_
  refine Wp.fg ⟨[(2, .obj 2 0), (3, .obj 3 0), (4, .t (.bool false)), (9, .t (.bool (p0.fId != p1.fId)))], [(2, ((Kid.enc p0).map .t)), (3, ((Kid.enc p1).map .t))], []⟩ ?_
  refine Wp.cond2 (b := p0.fId != p1.fId) kr (fun hc => ?_) (fun hc => ?_)
  · have h := cond_t h hc
    refine Wp.srg [] [] ?_
    refine Runs.alln ?_
    refine Wp.fg ⟨[(2, .obj 2 0), (3, .obj 3 0), (4, .t (.bool false))], [(2, ((Kid.enc p0).map .t)), (3, ((Kid.enc p1).map .t))], []⟩ ?_
    refine Wp.ret ?_
    refine thenR ?_
    have hr := Option.some.inj h
    subst hr
    exact RetK [.t (.bool false)] (.one (.t (.bool false))) [] kr kr (.refl _) .nil
  · have h := cond_f h hc
    refine Wp.skip ?_
    refine thenN ?_
    refine Wp.seq ?_
    refine Wp.srg [] [] ?_
    refine Runs.alln ?_
    refine Wp.fg ⟨[(2, .obj 2 0), (3, .obj 3 0), (4, .t (.bool false)), (14, .t (.bool (p0.fWant != p1.fWant)))], [(2, ((Kid.enc p0).map .t)), (3, ((Kid.enc p1).map .t))], []⟩ ?_
    refine Wp.cond2 (b := p0.fWant != p1.fWant) kr (fun hc => ?_) (fun hc => ?_)
    · have h := cond_t h hc
      refine Wp.srg [] [] ?_
      refine Runs.alln ?_
      refine Wp.fg ⟨[(2, .obj 2 0), (3, .obj 3 0), (4, .t (.bool false))], [(2, ((Kid.enc p0).map .t)), (3, ((Kid.enc p1).map .t))], []⟩ ?_
      refine Wp.ret ?_
      refine thenR ?_
      have hr := Option.some.inj h
      subst hr
      exact RetK [.t (.bool false)] (.one (.t (.bool false))) [] kr kr (.refl _) .nil
    · have h := cond_f h hc
      refine Wp.skip ?_
      refine thenN ?_
      refine Wp.seq ?_
      refine Wp.srg [] [] ?_
      refine Runs.alln ?_
      refine Wp.fg ⟨[(2, .obj 2 0), (3, .obj 3 0), (4, .t (.bool false)), (19, .t (.bool (p0.fDone != p1.fDone)))], [(2, ((Kid.enc p0).map .t)), (3, ((Kid.enc p1).map .t))], []⟩ ?_
      refine Wp.cond2 (b := p0.fDone != p1.fDone) kr (fun hc => ?_) (fun hc => ?_)
      · have h := cond_t h hc
        refine Wp.srg [] [] ?_
        refine Runs.alln ?_
        refine Wp.fg ⟨[(2, .obj 2 0), (3, .obj 3 0), (4, .t (.bool false))], [(2, ((Kid.enc p0).map .t)), (3, ((Kid.enc p1).map .t))], []⟩ ?_
        refine Wp.ret ?_
        refine thenR ?_
        have hr := Option.some.inj h
        subst hr
        exact RetK [.t (.bool false)] (.one (.t (.bool false))) [] kr kr (.refl _) .nil
      · have h := cond_f h hc
        refine Wp.skip ?_
        refine thenN ?_
        refine Wp.seq ?_
        refine Wp.srg [] [] ?_
        refine Runs.alln ?_
        refine Wp.fg ⟨[(2, .obj 2 0), (3, .obj 3 0), (4, .t (.bool false)), (24, .t (.bool (p0.fAge != p1.fAge)))], [(2, ((Kid.enc p0).map .t)), (3, ((Kid.enc p1).map .t))], []⟩ ?_
        refine Wp.cond2 (b := p0.fAge != p1.fAge) kr (fun hc => ?_) (fun hc => ?_)
        · have h := cond_t h hc
          refine Wp.srg [] [] ?_
          refine Runs.alln ?_
          refine Wp.fg ⟨[(2, .obj 2 0), (3, .obj 3 0), (4, .t (.bool false))], [(2, ((Kid.enc p0).map .t)), (3, ((Kid.enc p1).map .t))], []⟩ ?_
          refine Wp.ret ?_
          refine thenR ?_
          have hr := Option.some.inj h
          subst hr
          exact RetK [.t (.bool false)] (.one (.t (.bool false))) [] kr kr (.refl _) .nil
        · have h := cond_f h hc
          refine Wp.skip ?_
          refine thenN ?_
          refine Wp.seq ?_
          refine Wp.srg [] [] ?_
          refine Runs.alln ?_
          refine Wp.fg ⟨[(4, .t (.bool false)), (29, .t (.bool (p0.fSent != p1.fSent)))], [], []⟩ ?_
          refine Wp.cond2 (b := p0.fSent != p1.fSent) kr (fun hc => ?_) (fun hc => ?_)
          · have h := cond_t h hc
            refine Wp.srg [] [] ?_
            refine Runs.alln ?_
            refine Wp.fg ⟨[(4, .t (.bool false))], [], []⟩ ?_
            refine Wp.ret ?_
            refine thenR ?_
            have hr := Option.some.inj h
            subst hr
            exact RetK [.t (.bool false)] (.one (.t (.bool false))) [] kr kr (.refl _) .nil
          · have h := cond_f h hc
            refine Wp.skip ?_
            refine thenN ?_
            refine Wp.srg [] [] ?_
            refine Runs.alln ?_
            refine Wp.fg ⟨[(4, .t (.bool true))], [], []⟩ ?_
            refine Wp.ret ?_
            have hr := Option.some.inj h
            subst hr
            exact RetK [.t (.bool true)] (.one (.t (.bool true))) [] kr kr (.refl _) .nil
theorem laws_eqKidS_ok (u : Nat) (p0 : List Kid) (p1 : List Kid) (r : Bool) (h : laws_eqKidS u p0 p1 = some r) : CallOK Tryz.prog 147 [.one (.t (.sl 5 (p0.map Kid.enc))), .one (.t (.sl 5 (p1.map Kid.enc)))] (.one (.t (.bool r))) [] := by
  unfold laws_eqKidS at h
  refine CallOK.of_bodyK (fn := Tryz.f147) (m := false) [.t (.sl 5 (p0.map Kid.enc)), .t (.sl 5 (p1.map Kid.enc))] kr rfl kr kr kr kr kr ?_
  refine Wp.srg [] [] ?_
  refine Runs.alln ?_
  refine Wp.fg ⟨[(0, .t (.sl 5 (p0.map Kid.enc))), (1, .t (.sl 5 (p1.map Kid.enc))), (4, .t (.bool false))], [], []⟩ ?_
  refine Wp.seq ?_
  refine Wp.srg [] [] ?_
  refine Runs.batch 1 kr ?_
  refine Runs.lenT (y := .t (.sl 5 (p0.map Kid.enc))) (e := 175) Kid.enc p0 5 rfl rfl rfl kr kr kr kr kr ?_
  refine Runs.batch 1 kr ?_
  refine Runs.lenT (y := .t (.sl 5 (p1.map Kid.enc))) (e := 175) Kid.enc p1 5 rfl rfl rfl kr kr kr kr kr ?_
  refine Runs.alln ?_
  refine Wp.fg ⟨[(0, .t (.sl 5 (p0.map Kid.enc))), (1, .t (.sl 5 (p1.map Kid.enc))), (4, .t (.bool false)), (10, .t (.bool (((p0.length : Int)) != ((p1.length : Int)))))], [], []⟩ ?_
  refine Wp.cond2 (b := ((p0.length : Int)) != ((p1.length : Int))) kr (fun hc => ?_) (fun hc => ?_)
  · have h := cond_t h hc
    refine Wp.srg [] [] ?_
    refine Runs.alln ?_
    refine Wp.fg ⟨[(0, .t (.sl 5 (p0.map Kid.enc))), (1, .t (.sl 5 (p1.map Kid.enc))), (4, .t (.bool false))], [], []⟩ ?_
    refine Wp.ret ?_
    refine thenR ?_
    have hr := Option.some.inj h
    subst hr
    exact RetK [.t (.bool false)] (.one (.t (.bool false))) [] kr kr (.refl _) .nil
  · have h := cond_f h hc
    refine Wp.skip ?_
    refine thenN ?_
    refine Wp.seqJ (α := Unit) (fun a => ⟨[(4, .t (.bool false))], [], []⟩) (fun a => laws_eqKidS_j1 u = some r) ?_ ?_
    · rintro ⟨⟩ h
      change laws_eqKidS_j1 u = some r at h
      unfold laws_eqKidS_j1 at h
      refine Wp.srg [] [] ?_
      refine Runs.alln ?_
      refine Wp.fg ⟨[(4, .t (.bool true))], [], []⟩ ?_
      refine Wp.ret ?_
      have hr := Option.some.inj h
      subst hr
      exact RetK [.t (.bool true)] (.one (.t (.bool true))) [] kr kr (.refl _) .nil
    · refine Wp.srg [] [] ?_
      refine Runs.alln ?_
      refine Wp.fg ⟨[(0, .t (.sl 5 (p0.map Kid.enc))), (1, .t (.sl 5 (p1.map Kid.enc))), (4, .t (.bool false)), (5, .t (.int .i64 0))], [], []⟩ ?_
      refine Wp.block ?_
      refine Wp.loopF (α := (List Kid) × (List Kid) × Int) (fun a => ⟨[(0, .t (.sl 5 (a.1.map Kid.enc))), (1, .t (.sl 5 (a.2.1.map Kid.enc))), (4, .t (.bool false)), (5, .t (.int .i64 a.2.2))], [], []⟩) (fun k_laws_eqKidS_l2 a => laws_eqKidS_l2 u k_laws_eqKidS_l2 a.1 a.2.1 a.2.2 = some r) ?_ ?_ u (p0, p1, 0) h (Le.of (mo := []) (mr := []) kr kr kr kr)
      · intro a h; unfold laws_eqKidS_l2 at h; cases h
      · rintro k_laws_eqKidS_l2 ⟨p0, p1, x2⟩ h
        change laws_eqKidS_l2 u (k_laws_eqKidS_l2 + 1) p0 p1 x2 = some r at h
        rw [laws_eqKidS_l2] at h
        refine Wp.seq ?_
        refine Wp.srg [] [] ?_
        refine Runs.batch 2 kr ?_
        refine Runs.lenT (y := .t (.sl 5 (p0.map Kid.enc))) (e := 175) Kid.enc p0 5 rfl rfl rfl kr kr kr kr kr ?_
        refine Runs.alln ?_
        refine Wp.fg ⟨[(0, .t (.sl 5 (p0.map Kid.enc))), (1, .t (.sl 5 (p1.map Kid.enc))), (4, .t (.bool false)), (5, .t (.int .i64 x2)), (11, .t (.int .i64 x2)), (12, .t (.sl 5 (p0.map Kid.enc))), (13, .t (.int .i64 ((p0.length : Int)))), (14, .t (.bool (decide (x2 < ((p0.length : Int))))))], [], []⟩ ?_
        refine Wp.cond2 (b := decide (x2 < ((p0.length : Int)))) kr (fun hc => ?_) (fun hc => ?_)
        · have h := cond_t h hc
          refine Wp.skip ?_
          refine thenN ?_
          refine Wp.seq ?_
          refine Wp.block ?_
          refine Wp.seq ?_
          refine Wp.regionA (pOf []) (rhoOf [(0, .frz), (1, .frz), (5, .frz), (17, .frz), (18, .frz), (19, .frz), (20, .frz), (21, .frz), (22, .frz), (23, .frz), (24, .frz), (25, .frz)]) kr kr ?_
          refine Runs.batch 2 kr ?_
          obtain ⟨y4, e_y4, h⟩ := bind_some h
          refine Runs.idxT (e := 175) (kk := .i64) (sz := 5) Kid.enc p0 x2 rfl kr kr kr kr kr kr e_y4 ?_
          refine Runs.batch 3 kr ?_
          obtain ⟨y5, e_y5, h⟩ := bind_some h
          refine Runs.idxT (e := 175) (kk := .i64) (sz := 5) Kid.enc p1 x2 rfl kr kr kr kr kr kr e_y5 ?_
          refine Runs.batch 1 kr ?_
          obtain ⟨r6, e_r6, h⟩ := bind_some h
          refine Runs.callK false 25 179 [] [.agg ((Kid.enc y4).map .t), .agg ((Kid.enc y5).map .t)] [.agg ((Kid.enc y4).map .t), .agg ((Kid.enc y5).map .t)] (.one (.t (.bool r6))) [] rfl rfl kr kr kr kr kr (laws_eqKid_ok u y4 y5 r6 e_r6) kr ?_
          refine Runs.alln ?_
          refine Wp.fg ⟨[(0, .t (.sl 5 (p0.map Kid.enc))), (1, .t (.sl 5 (p1.map Kid.enc))), (4, .t (.bool false)), (5, .t (.int .i64 x2)), (11, .t (.int .i64 x2)), (12, .t (.sl 5 (p0.map Kid.enc))), (13, .t (.int .i64 ((p0.length : Int)))), (14, .t (.bool (decide (x2 < ((p0.length : Int)))))), (17, .t (.sl 5 (p0.map Kid.enc))), (18, .t (.int .i64 x2)), (19, .fadr (Kid.enc y4)), (20, .agg ((Kid.enc y4).map .t)), (21, .t (.sl 5 (p1.map Kid.enc))), (22, .t (.int .i64 x2)), (23, .fadr (Kid.enc y5)), (24, .agg ((Kid.enc y5).map .t)), (25, .t (.bool r6)), (26, .t (.bool (!r6)))], [], []⟩ ?_
          refine Wp.cond2 (b := !r6) kr (fun hc => ?_) (fun hc => ?_)
          · have h := cond_t h hc
            refine Wp.srg [] [] ?_
            refine Runs.alln ?_
            refine Wp.fg ⟨[(0, .t (.sl 5 (p0.map Kid.enc))), (1, .t (.sl 5 (p1.map Kid.enc))), (4, .t (.bool false)), (5, .t (.int .i64 x2)), (11, .t (.int .i64 x2)), (12, .t (.sl 5 (p0.map Kid.enc))), (13, .t (.int .i64 ((p0.length : Int)))), (14, .t (.bool (decide (x2 < ((p0.length : Int)))))), (17, .t (.sl 5 (p0.map Kid.enc))), (18, .t (.int .i64 x2)), (19, .fadr (Kid.enc y4)), (20, .agg ((Kid.enc y4).map .t)), (21, .t (.sl 5 (p1.map Kid.enc))), (22, .t (.int .i64 x2)), (23, .fadr (Kid.enc y5)), (24, .agg ((Kid.enc y5).map .t)), (25, .t (.bool r6)), (26, .t (.bool (!r6)))], [], []⟩ ?_
            refine Wp.ret ?_
            refine blkR ?_
            refine thenR ?_
            refine thenR ?_
            refine blkR ?_
            refine thenR ?_
            have hr := Option.some.inj h
            subst hr
            exact RetK [.t (.bool false)] (.one (.t (.bool false))) [] kr kr (.refl _) .nil
          · have h := cond_f h hc
            refine Wp.skip ?_
            refine blkN ?_
            refine thenN ?_
            refine Wp.rg [] [] ?_
            refine Runs.alln ?_
            exact ⟨(p0, p1, bAdd .i64 x2 1), h, Le.of (mo := []) (mr := []) kr kr kr kr⟩
        · have h := cond_f h hc
          refine Wp.exit ?_
          refine thenE ?_
          refine thenE ?_
          refine blkE ?_
          refine thenN ?_
          exact ⟨(), h, Le.of (mo := []) (mr := []) kr kr kr kr⟩
theorem laws_eqNode_ok (u : Nat) (p0 : Node) (p1 : Node) (r : Bool) (h : laws_eqNode u p0 p1 = some r) : CallOK Tryz.prog 107 [.agg [.t (.bool p0.fOn), .t (.int .i64 p0.fBoss), .t (.int .i64 p0.fQuiet), .t (.int .i64 p0.fMan.fGen), .t (.int .i64 p0.fMan.fSize), .t (.int .i64 p0.fMan.fLen), .t (.sl 2 (p0.fMan.fSums.map Sum.enc)), .t (.int .i64 p0.fBld.fHave), .t (.sl 1 (p0.fBld.fBuf.map (eInt .u8))), .t (.int .i64 p0.fPhase), .t (.sl 5 (p0.fKids.map Kid.enc)), .t (.int .i64 p0.fDrops)], .agg [.t (.bool p1.fOn), .t (.int .i64 p1.fBoss), .t (.int .i64 p1.fQuiet), .t (.int .i64 p1.fMan.fGen), .t (.int .i64 p1.fMan.fSize), .t (.int .i64 p1.fMan.fLen), .t (.sl 2 (p1.fMan.fSums.map Sum.enc)), .t (.int .i64 p1.fBld.fHave), .t (.sl 1 (p1.fBld.fBuf.map (eInt .u8))), .t (.int .i64 p1.fPhase), .t (.sl 5 (p1.fKids.map Kid.enc)), .t (.int .i64 p1.fDrops)]] (.one (.t (.bool r))) [] := by
  unfold laws_eqNode at h
  refine CallOK.of_bodyK (fn := Tryz.f107) (m := false) [.agg ((Node.enc p0).map .t), .agg ((Node.enc p1).map .t)] kr rfl kr kr kr kr kr ?_
  refine Wp.srg [] [] ?_
  refine Runs.alln ?_
  refine Wp.fg ⟨[(2, .obj 2 0), (3, .obj 3 0), (4, .t (.bool false))], [(2, ((Node.enc p0).map .t)), (3, ((Node.enc p1).map .t))], []⟩ ?_
  refine Wp.seq ?_
  refine Wp.srg [] [] ?_
  refine Runs.alln ?_
  refine Wp.fg ⟨[(2, .obj 2 0), (3, .obj 3 0), (4, .t (.bool false)), (9, .t (.bool (!(p0.fOn == p1.fOn))))], [(2, ((Node.enc p0).map .t)), (3, ((Node.enc p1).map .t))], []⟩ ?_
  refine Wp.cond2 (b := !(p0.fOn == p1.fOn)) kr (fun hc => ?_) (fun hc => ?_)
  · have h := cond_t h hc
    refine Wp.srg [] [] ?_
    refine Runs.alln ?_
    refine Wp.fg ⟨[(2, .obj 2 0), (3, .obj 3 0), (4, .t (.bool false))], [(2, ((Node.enc p0).map .t)), (3, ((Node.enc p1).map .t))], []⟩ ?_
    refine Wp.ret ?_
    refine thenR ?_
    have hr := Option.some.inj h
    subst hr
    exact RetK [.t (.bool false)] (.one (.t (.bool false))) [] kr kr (.refl _) .nil
  · have h := cond_f h hc
    refine Wp.skip ?_
    refine thenN ?_
    refine Wp.seq ?_
    refine Wp.srg [] [] ?_
    refine Runs.alln ?_
    refine Wp.fg ⟨[(2, .obj 2 0), (3, .obj 3 0), (4, .t (.bool false)), (14, .t (.bool (p0.fBoss != p1.fBoss)))], [(2, ((Node.enc p0).map .t)), (3, ((Node.enc p1).map .t))], []⟩ ?_
    refine Wp.cond2 (b := p0.fBoss != p1.fBoss) kr (fun hc => ?_) (fun hc => ?_)
    · have h := cond_t h hc
      refine Wp.srg [] [] ?_
      refine Runs.alln ?_
      refine Wp.fg ⟨[(2, .obj 2 0), (3, .obj 3 0), (4, .t (.bool false))], [(2, ((Node.enc p0).map .t)), (3, ((Node.enc p1).map .t))], []⟩ ?_
      refine Wp.ret ?_
      refine thenR ?_
      have hr := Option.some.inj h
      subst hr
      exact RetK [.t (.bool false)] (.one (.t (.bool false))) [] kr kr (.refl _) .nil
    · have h := cond_f h hc
      refine Wp.skip ?_
      refine thenN ?_
      refine Wp.seq ?_
      refine Wp.srg [] [] ?_
      refine Runs.alln ?_
      refine Wp.fg ⟨[(2, .obj 2 0), (3, .obj 3 0), (4, .t (.bool false)), (19, .t (.bool (p0.fQuiet != p1.fQuiet)))], [(2, ((Node.enc p0).map .t)), (3, ((Node.enc p1).map .t))], []⟩ ?_
      refine Wp.cond2 (b := p0.fQuiet != p1.fQuiet) kr (fun hc => ?_) (fun hc => ?_)
      · have h := cond_t h hc
        refine Wp.srg [] [] ?_
        refine Runs.alln ?_
        refine Wp.fg ⟨[(2, .obj 2 0), (3, .obj 3 0), (4, .t (.bool false))], [(2, ((Node.enc p0).map .t)), (3, ((Node.enc p1).map .t))], []⟩ ?_
        refine Wp.ret ?_
        refine thenR ?_
        have hr := Option.some.inj h
        subst hr
        exact RetK [.t (.bool false)] (.one (.t (.bool false))) [] kr kr (.refl _) .nil
      · have h := cond_f h hc
        refine Wp.skip ?_
        refine thenN ?_
        refine Wp.seq ?_
        refine Wp.srg [] [] ?_
        refine Runs.batch 4 kr ?_
        obtain ⟨r1, e_r1, h⟩ := bind_some h
        refine Runs.callK false 24 145 [] [.agg ((Manifest.enc p0.fMan).map .t), .agg ((Manifest.enc p1.fMan).map .t)] [.agg ((Manifest.enc p0.fMan).map .t), .agg ((Manifest.enc p1.fMan).map .t)] (.one (.t (.bool r1))) [] rfl rfl kr kr kr kr kr (laws_eqManifest_ok u p0.fMan p1.fMan r1 e_r1) kr ?_
        refine Runs.alln ?_
        refine Wp.fg ⟨[(2, .obj 2 0), (3, .obj 3 0), (4, .t (.bool false)), (25, .t (.bool (!r1)))], [(2, ((Node.enc p0).map .t)), (3, ((Node.enc p1).map .t))], []⟩ ?_
        refine Wp.cond2 (b := !r1) kr (fun hc => ?_) (fun hc => ?_)
        · have h := cond_t h hc
          refine Wp.srg [] [] ?_
          refine Runs.alln ?_
          refine Wp.fg ⟨[(2, .obj 2 0), (3, .obj 3 0), (4, .t (.bool false))], [(2, ((Node.enc p0).map .t)), (3, ((Node.enc p1).map .t))], []⟩ ?_
          refine Wp.ret ?_
          refine thenR ?_
          have hr := Option.some.inj h
          subst hr
          exact RetK [.t (.bool false)] (.one (.t (.bool false))) [] kr kr (.refl _) .nil
        · have h := cond_f h hc
          refine Wp.skip ?_
          refine thenN ?_
          refine Wp.seq ?_
          refine Wp.srg [] [] ?_
          refine Runs.batch 4 kr ?_
          obtain ⟨r2, e_r2, h⟩ := bind_some h
          refine Runs.callK false 30 146 [] [.agg [.t (.int .i64 p0.fBld.fHave), .t (.sl 1 (p0.fBld.fBuf.map (eInt .u8)))], .agg [.t (.int .i64 p1.fBld.fHave), .t (.sl 1 (p1.fBld.fBuf.map (eInt .u8)))]] [.agg [.t (.int .i64 p0.fBld.fHave), .t (.sl 1 (p0.fBld.fBuf.map (eInt .u8)))], .agg [.t (.int .i64 p1.fBld.fHave), .t (.sl 1 (p1.fBld.fBuf.map (eInt .u8)))]] (.one (.t (.bool r2))) [] rfl rfl kr kr kr kr kr (laws_eqBuild_ok u p0.fBld p1.fBld r2 e_r2) kr ?_
          refine Runs.alln ?_
          refine Wp.fg ⟨[(2, .obj 2 0), (3, .obj 3 0), (4, .t (.bool false)), (31, .t (.bool (!r2)))], [(2, ((Node.enc p0).map .t)), (3, ((Node.enc p1).map .t))], []⟩ ?_
          refine Wp.cond2 (b := !r2) kr (fun hc => ?_) (fun hc => ?_)
          · have h := cond_t h hc
            refine Wp.srg [] [] ?_
            refine Runs.alln ?_
            refine Wp.fg ⟨[(2, .obj 2 0), (3, .obj 3 0), (4, .t (.bool false))], [(2, ((Node.enc p0).map .t)), (3, ((Node.enc p1).map .t))], []⟩ ?_
            refine Wp.ret ?_
            refine thenR ?_
            have hr := Option.some.inj h
            subst hr
            exact RetK [.t (.bool false)] (.one (.t (.bool false))) [] kr kr (.refl _) .nil
          · have h := cond_f h hc
            refine Wp.skip ?_
            refine thenN ?_
            refine Wp.seq ?_
            refine Wp.srg [] [] ?_
            refine Runs.alln ?_
            refine Wp.fg ⟨[(2, .obj 2 0), (3, .obj 3 0), (4, .t (.bool false)), (36, .t (.bool (p0.fPhase != p1.fPhase)))], [(2, ((Node.enc p0).map .t)), (3, ((Node.enc p1).map .t))], []⟩ ?_
            refine Wp.cond2 (b := p0.fPhase != p1.fPhase) kr (fun hc => ?_) (fun hc => ?_)
            · have h := cond_t h hc
              refine Wp.srg [] [] ?_
              refine Runs.alln ?_
              refine Wp.fg ⟨[(2, .obj 2 0), (3, .obj 3 0), (4, .t (.bool false))], [(2, ((Node.enc p0).map .t)), (3, ((Node.enc p1).map .t))], []⟩ ?_
              refine Wp.ret ?_
              refine thenR ?_
              have hr := Option.some.inj h
              subst hr
              exact RetK [.t (.bool false)] (.one (.t (.bool false))) [] kr kr (.refl _) .nil
            · have h := cond_f h hc
              refine Wp.skip ?_
              refine thenN ?_
              refine Wp.seq ?_
              refine Wp.srg [] [] ?_
              refine Runs.batch 4 kr ?_
              obtain ⟨r3, e_r3, h⟩ := bind_some h
              refine Runs.callK false 41 147 [] [.t (.sl 5 (p0.fKids.map Kid.enc)), .t (.sl 5 (p1.fKids.map Kid.enc))] [.one (.t (.sl 5 (p0.fKids.map Kid.enc))), .one (.t (.sl 5 (p1.fKids.map Kid.enc)))] (.one (.t (.bool r3))) [] rfl rfl kr kr kr kr kr (laws_eqKidS_ok u p0.fKids p1.fKids r3 e_r3) kr ?_
              refine Runs.alln ?_
              refine Wp.fg ⟨[(2, .obj 2 0), (3, .obj 3 0), (4, .t (.bool false)), (42, .t (.bool (!r3)))], [(2, ((Node.enc p0).map .t)), (3, ((Node.enc p1).map .t))], []⟩ ?_
              refine Wp.cond2 (b := !r3) kr (fun hc => ?_) (fun hc => ?_)
              · have h := cond_t h hc
                refine Wp.srg [] [] ?_
                refine Runs.alln ?_
                refine Wp.fg ⟨[(2, .obj 2 0), (3, .obj 3 0), (4, .t (.bool false))], [(2, ((Node.enc p0).map .t)), (3, ((Node.enc p1).map .t))], []⟩ ?_
                refine Wp.ret ?_
                refine thenR ?_
                have hr := Option.some.inj h
                subst hr
                exact RetK [.t (.bool false)] (.one (.t (.bool false))) [] kr kr (.refl _) .nil
              · have h := cond_f h hc
                refine Wp.skip ?_
                refine thenN ?_
                refine Wp.seq ?_
                refine Wp.srg [] [] ?_
                refine Runs.alln ?_
                refine Wp.fg ⟨[(4, .t (.bool false)), (47, .t (.bool (p0.fDrops != p1.fDrops)))], [], []⟩ ?_
                refine Wp.cond2 (b := p0.fDrops != p1.fDrops) kr (fun hc => ?_) (fun hc => ?_)
                · have h := cond_t h hc
                  refine Wp.srg [] [] ?_
                  refine Runs.alln ?_
                  refine Wp.fg ⟨[(4, .t (.bool false))], [], []⟩ ?_
                  refine Wp.ret ?_
                  refine thenR ?_
                  have hr := Option.some.inj h
                  subst hr
                  exact RetK [.t (.bool false)] (.one (.t (.bool false))) [] kr kr (.refl _) .nil
                · have h := cond_f h hc
                  refine Wp.skip ?_
                  refine thenN ?_
                  refine Wp.srg [] [] ?_
                  refine Runs.alln ?_
                  refine Wp.fg ⟨[(4, .t (.bool true))], [], []⟩ ?_
                  refine Wp.ret ?_
                  have hr := Option.some.inj h
                  subst hr
                  exact RetK [.t (.bool true)] (.one (.t (.bool true))) [] kr kr (.refl _) .nil
theorem laws_eqNodeS_ok (u : Nat) (p0 : List Node) (p1 : List Node) (r : Bool) (h : laws_eqNodeS u p0 p1 = some r) : CallOK Tryz.prog 56 [.one (.t (.sl 12 (p0.map Node.enc))), .one (.t (.sl 12 (p1.map Node.enc)))] (.one (.t (.bool r))) [] := by
  unfold laws_eqNodeS at h
  refine CallOK.of_bodyK (fn := Tryz.f56) (m := false) [.t (.sl 12 (p0.map Node.enc)), .t (.sl 12 (p1.map Node.enc))] kr rfl kr kr kr kr kr ?_
  refine Wp.srg [] [] ?_
  refine Runs.alln ?_
  refine Wp.fg ⟨[(0, .t (.sl 12 (p0.map Node.enc))), (1, .t (.sl 12 (p1.map Node.enc))), (4, .t (.bool false))], [], []⟩ ?_
  refine Wp.seq ?_
  refine Wp.srg [] [] ?_
  refine Runs.batch 1 kr ?_
  refine Runs.lenT (y := .t (.sl 12 (p0.map Node.enc))) (e := 97) Node.enc p0 12 rfl rfl rfl kr kr kr kr kr ?_
  refine Runs.batch 1 kr ?_
  refine Runs.lenT (y := .t (.sl 12 (p1.map Node.enc))) (e := 97) Node.enc p1 12 rfl rfl rfl kr kr kr kr kr ?_
  refine Runs.alln ?_
  refine Wp.fg ⟨[(0, .t (.sl 12 (p0.map Node.enc))), (1, .t (.sl 12 (p1.map Node.enc))), (4, .t (.bool false)), (10, .t (.bool (((p0.length : Int)) != ((p1.length : Int)))))], [], []⟩ ?_
  refine Wp.cond2 (b := ((p0.length : Int)) != ((p1.length : Int))) kr (fun hc => ?_) (fun hc => ?_)
  · have h := cond_t h hc
    refine Wp.srg [] [] ?_
    refine Runs.alln ?_
    refine Wp.fg ⟨[(0, .t (.sl 12 (p0.map Node.enc))), (1, .t (.sl 12 (p1.map Node.enc))), (4, .t (.bool false))], [], []⟩ ?_
    refine Wp.ret ?_
    refine thenR ?_
    have hr := Option.some.inj h
    subst hr
    exact RetK [.t (.bool false)] (.one (.t (.bool false))) [] kr kr (.refl _) .nil
  · have h := cond_f h hc
    refine Wp.skip ?_
    refine thenN ?_
    refine Wp.seqJ (α := Unit) (fun a => ⟨[(4, .t (.bool false))], [], []⟩) (fun a => laws_eqNodeS_j1 u = some r) ?_ ?_
    · rintro ⟨⟩ h
      change laws_eqNodeS_j1 u = some r at h
      unfold laws_eqNodeS_j1 at h
      refine Wp.srg [] [] ?_
      refine Runs.alln ?_
      refine Wp.fg ⟨[(4, .t (.bool true))], [], []⟩ ?_
      refine Wp.ret ?_
      have hr := Option.some.inj h
      subst hr
      exact RetK [.t (.bool true)] (.one (.t (.bool true))) [] kr kr (.refl _) .nil
    · refine Wp.srg [] [] ?_
      refine Runs.alln ?_
      refine Wp.fg ⟨[(0, .t (.sl 12 (p0.map Node.enc))), (1, .t (.sl 12 (p1.map Node.enc))), (4, .t (.bool false)), (5, .t (.int .i64 0))], [], []⟩ ?_
      refine Wp.block ?_
      refine Wp.loopF (α := (List Node) × (List Node) × Int) (fun a => ⟨[(0, .t (.sl 12 (a.1.map Node.enc))), (1, .t (.sl 12 (a.2.1.map Node.enc))), (4, .t (.bool false)), (5, .t (.int .i64 a.2.2))], [], []⟩) (fun k_laws_eqNodeS_l2 a => laws_eqNodeS_l2 u k_laws_eqNodeS_l2 a.1 a.2.1 a.2.2 = some r) ?_ ?_ u (p0, p1, 0) h (Le.of (mo := []) (mr := []) kr kr kr kr)
      · intro a h; unfold laws_eqNodeS_l2 at h; cases h
      · rintro k_laws_eqNodeS_l2 ⟨p0, p1, x2⟩ h
        change laws_eqNodeS_l2 u (k_laws_eqNodeS_l2 + 1) p0 p1 x2 = some r at h
        rw [laws_eqNodeS_l2] at h
        refine Wp.seq ?_
        refine Wp.srg [] [] ?_
        refine Runs.batch 2 kr ?_
        refine Runs.lenT (y := .t (.sl 12 (p0.map Node.enc))) (e := 97) Node.enc p0 12 rfl rfl rfl kr kr kr kr kr ?_
        refine Runs.alln ?_
        refine Wp.fg ⟨[(0, .t (.sl 12 (p0.map Node.enc))), (1, .t (.sl 12 (p1.map Node.enc))), (4, .t (.bool false)), (5, .t (.int .i64 x2)), (11, .t (.int .i64 x2)), (12, .t (.sl 12 (p0.map Node.enc))), (13, .t (.int .i64 ((p0.length : Int)))), (14, .t (.bool (decide (x2 < ((p0.length : Int))))))], [], []⟩ ?_
        refine Wp.cond2 (b := decide (x2 < ((p0.length : Int)))) kr (fun hc => ?_) (fun hc => ?_)
        · have h := cond_t h hc
          refine Wp.skip ?_
          refine thenN ?_
          refine Wp.seq ?_
          refine Wp.block ?_
          refine Wp.seq ?_
          refine Wp.regionA (pOf []) (rhoOf [(0, .frz), (1, .frz), (5, .frz), (17, .frz), (18, .frz), (19, .frz), (20, .frz), (21, .frz), (22, .frz), (23, .frz), (24, .frz), (25, .frz)]) kr kr ?_
          refine Runs.batch 2 kr ?_
          obtain ⟨y4, e_y4, h⟩ := bind_some h
          refine Runs.idxT (e := 97) (kk := .i64) (sz := 12) Node.enc p0 x2 rfl kr kr kr kr kr kr e_y4 ?_
          refine Runs.batch 3 kr ?_
          obtain ⟨y5, e_y5, h⟩ := bind_some h
          refine Runs.idxT (e := 97) (kk := .i64) (sz := 12) Node.enc p1 x2 rfl kr kr kr kr kr kr e_y5 ?_
          refine Runs.batch 1 kr ?_
          obtain ⟨r6, e_r6, h⟩ := bind_some h
          refine Runs.callK false 25 107 [] [.agg ((Node.enc y4).map .t), .agg ((Node.enc y5).map .t)] [.agg ((Node.enc y4).map .t), .agg ((Node.enc y5).map .t)] (.one (.t (.bool r6))) [] rfl rfl kr kr kr kr kr (laws_eqNode_ok u y4 y5 r6 e_r6) kr ?_
          refine Runs.alln ?_
          refine Wp.fg ⟨[(0, .t (.sl 12 (p0.map Node.enc))), (1, .t (.sl 12 (p1.map Node.enc))), (4, .t (.bool false)), (5, .t (.int .i64 x2)), (11, .t (.int .i64 x2)), (12, .t (.sl 12 (p0.map Node.enc))), (13, .t (.int .i64 ((p0.length : Int)))), (14, .t (.bool (decide (x2 < ((p0.length : Int)))))), (17, .t (.sl 12 (p0.map Node.enc))), (18, .t (.int .i64 x2)), (19, .fadr (Node.enc y4)), (20, .agg ((Node.enc y4).map .t)), (21, .t (.sl 12 (p1.map Node.enc))), (22, .t (.int .i64 x2)), (23, .fadr (Node.enc y5)), (24, .agg ((Node.enc y5).map .t)), (25, .t (.bool r6)), (26, .t (.bool (!r6)))], [], []⟩ ?_
          refine Wp.cond2 (b := !r6) kr (fun hc => ?_) (fun hc => ?_)
          · have h := cond_t h hc
            refine Wp.srg [] [] ?_
            refine Runs.alln ?_
            refine Wp.fg ⟨[(0, .t (.sl 12 (p0.map Node.enc))), (1, .t (.sl 12 (p1.map Node.enc))), (4, .t (.bool false)), (5, .t (.int .i64 x2)), (11, .t (.int .i64 x2)), (12, .t (.sl 12 (p0.map Node.enc))), (13, .t (.int .i64 ((p0.length : Int)))), (14, .t (.bool (decide (x2 < ((p0.length : Int)))))), (17, .t (.sl 12 (p0.map Node.enc))), (18, .t (.int .i64 x2)), (19, .fadr (Node.enc y4)), (20, .agg ((Node.enc y4).map .t)), (21, .t (.sl 12 (p1.map Node.enc))), (22, .t (.int .i64 x2)), (23, .fadr (Node.enc y5)), (24, .agg ((Node.enc y5).map .t)), (25, .t (.bool r6)), (26, .t (.bool (!r6)))], [], []⟩ ?_
            refine Wp.ret ?_
            refine blkR ?_
            refine thenR ?_
            refine thenR ?_
            refine blkR ?_
            refine thenR ?_
            have hr := Option.some.inj h
            subst hr
            exact RetK [.t (.bool false)] (.one (.t (.bool false))) [] kr kr (.refl _) .nil
          · have h := cond_f h hc
            refine Wp.skip ?_
            refine blkN ?_
            refine thenN ?_
            refine Wp.rg [] [] ?_
            refine Runs.alln ?_
            exact ⟨(p0, p1, bAdd .i64 x2 1), h, Le.of (mo := []) (mr := []) kr kr kr kr⟩
        · have h := cond_f h hc
          refine Wp.exit ?_
          refine thenE ?_
          refine thenE ?_
          refine blkE ?_
          refine thenN ?_
          exact ⟨(), h, Le.of (mo := []) (mr := []) kr kr kr kr⟩
theorem laws_eqRecord_ok (u : Nat) (p0 : Record) (p1 : Record) (r : Bool) (h : laws_eqRecord u p0 p1 = some r) : CallOK Tryz.prog 148 [.agg [.t (.int .i64 p0.fGen), .t (.int .i64 p0.fSlot), .t (.int .i64 p0.fLen)], .agg [.t (.int .i64 p1.fGen), .t (.int .i64 p1.fSlot), .t (.int .i64 p1.fLen)]] (.one (.t (.bool r))) [] := by
  unfold laws_eqRecord at h
  refine CallOK.of_bodyK (fn := Tryz.f148) (m := false) [.agg ((Record.enc p0).map .t), .agg ((Record.enc p1).map .t)] kr rfl kr kr kr kr kr ?_
  refine Wp.srg [] [] ?_
  refine Runs.alln ?_
  refine Wp.fg ⟨[(2, .obj 2 0), (3, .obj 3 0), (4, .t (.bool false))], [(2, ((Record.enc p0).map .t)), (3, ((Record.enc p1).map .t))], []⟩ ?_
  refine Wp.seq ?_
  refine Wp.srg [] [] ?_
  refine Runs.alln ?_
  refine Wp.fg ⟨[(2, .obj 2 0), (3, .obj 3 0), (4, .t (.bool false)), (9, .t (.bool (p0.fGen != p1.fGen)))], [(2, ((Record.enc p0).map .t)), (3, ((Record.enc p1).map .t))], []⟩ ?_
  refine Wp.cond2 (b := p0.fGen != p1.fGen) kr (fun hc => ?_) (fun hc => ?_)
  · have h := cond_t h hc
    refine Wp.srg [] [] ?_
    refine Runs.alln ?_
    refine Wp.fg ⟨[(2, .obj 2 0), (3, .obj 3 0), (4, .t (.bool false))], [(2, ((Record.enc p0).map .t)), (3, ((Record.enc p1).map .t))], []⟩ ?_
    refine Wp.ret ?_
    refine thenR ?_
    have hr := Option.some.inj h
    subst hr
    exact RetK [.t (.bool false)] (.one (.t (.bool false))) [] kr kr (.refl _) .nil
  · have h := cond_f h hc
    refine Wp.skip ?_
    refine thenN ?_
    refine Wp.seq ?_
    refine Wp.srg [] [] ?_
    refine Runs.alln ?_
    refine Wp.fg ⟨[(2, .obj 2 0), (3, .obj 3 0), (4, .t (.bool false)), (14, .t (.bool (p0.fSlot != p1.fSlot)))], [(2, ((Record.enc p0).map .t)), (3, ((Record.enc p1).map .t))], []⟩ ?_
    refine Wp.cond2 (b := p0.fSlot != p1.fSlot) kr (fun hc => ?_) (fun hc => ?_)
    · have h := cond_t h hc
      refine Wp.srg [] [] ?_
      refine Runs.alln ?_
      refine Wp.fg ⟨[(2, .obj 2 0), (3, .obj 3 0), (4, .t (.bool false))], [(2, ((Record.enc p0).map .t)), (3, ((Record.enc p1).map .t))], []⟩ ?_
      refine Wp.ret ?_
      refine thenR ?_
      have hr := Option.some.inj h
      subst hr
      exact RetK [.t (.bool false)] (.one (.t (.bool false))) [] kr kr (.refl _) .nil
    · have h := cond_f h hc
      refine Wp.skip ?_
      refine thenN ?_
      refine Wp.seq ?_
      refine Wp.srg [] [] ?_
      refine Runs.alln ?_
      refine Wp.fg ⟨[(4, .t (.bool false)), (19, .t (.bool (p0.fLen != p1.fLen)))], [], []⟩ ?_
      refine Wp.cond2 (b := p0.fLen != p1.fLen) kr (fun hc => ?_) (fun hc => ?_)
      · have h := cond_t h hc
        refine Wp.srg [] [] ?_
        refine Runs.alln ?_
        refine Wp.fg ⟨[(4, .t (.bool false))], [], []⟩ ?_
        refine Wp.ret ?_
        refine thenR ?_
        have hr := Option.some.inj h
        subst hr
        exact RetK [.t (.bool false)] (.one (.t (.bool false))) [] kr kr (.refl _) .nil
      · have h := cond_f h hc
        refine Wp.skip ?_
        refine thenN ?_
        refine Wp.srg [] [] ?_
        refine Runs.alln ?_
        refine Wp.fg ⟨[(4, .t (.bool true))], [], []⟩ ?_
        refine Wp.ret ?_
        have hr := Option.some.inj h
        subst hr
        exact RetK [.t (.bool true)] (.one (.t (.bool true))) [] kr kr (.refl _) .nil
theorem laws_eqPut_ok (u : Nat) (p0 : Put) (p1 : Put) (r : Bool) (h : laws_eqPut u p0 p1 = some r) : CallOK Tryz.prog 180 [.agg [.t (.int .i64 p0.fWhat), .t (.int .i64 p0.fAt), .t (.sl 1 (p0.fB.map (eInt .u8))), .t (.int .i64 p0.fR.fGen), .t (.int .i64 p0.fR.fSlot), .t (.int .i64 p0.fR.fLen)], .agg [.t (.int .i64 p1.fWhat), .t (.int .i64 p1.fAt), .t (.sl 1 (p1.fB.map (eInt .u8))), .t (.int .i64 p1.fR.fGen), .t (.int .i64 p1.fR.fSlot), .t (.int .i64 p1.fR.fLen)]] (.one (.t (.bool r))) [] := by
  unfold laws_eqPut at h
  refine CallOK.of_bodyK (fn := Tryz.f180) (m := false) [.agg ((Put.enc p0).map .t), .agg ((Put.enc p1).map .t)] kr rfl kr kr kr kr kr ?_
  refine Wp.srg [] [] ?_
  refine Runs.alln ?_
  refine Wp.fg ⟨[(2, .obj 2 0), (3, .obj 3 0), (4, .t (.bool false))], [(2, ((Put.enc p0).map .t)), (3, ((Put.enc p1).map .t))], []⟩ ?_
  refine Wp.seq ?_
  refine Wp.srg [] [] ?_
  refine Runs.alln ?_
  refine Wp.fg ⟨[(2, .obj 2 0), (3, .obj 3 0), (4, .t (.bool false)), (9, .t (.bool (p0.fWhat != p1.fWhat)))], [(2, ((Put.enc p0).map .t)), (3, ((Put.enc p1).map .t))], []⟩ ?_
  refine Wp.cond2 (b := p0.fWhat != p1.fWhat) kr (fun hc => ?_) (fun hc => ?_)
  · have h := cond_t h hc
    refine Wp.srg [] [] ?_
    refine Runs.alln ?_
    refine Wp.fg ⟨[(2, .obj 2 0), (3, .obj 3 0), (4, .t (.bool false))], [(2, ((Put.enc p0).map .t)), (3, ((Put.enc p1).map .t))], []⟩ ?_
    refine Wp.ret ?_
    refine thenR ?_
    have hr := Option.some.inj h
    subst hr
    exact RetK [.t (.bool false)] (.one (.t (.bool false))) [] kr kr (.refl _) .nil
  · have h := cond_f h hc
    refine Wp.skip ?_
    refine thenN ?_
    refine Wp.seq ?_
    refine Wp.srg [] [] ?_
    refine Runs.alln ?_
    refine Wp.fg ⟨[(2, .obj 2 0), (3, .obj 3 0), (4, .t (.bool false)), (14, .t (.bool (p0.fAt != p1.fAt)))], [(2, ((Put.enc p0).map .t)), (3, ((Put.enc p1).map .t))], []⟩ ?_
    refine Wp.cond2 (b := p0.fAt != p1.fAt) kr (fun hc => ?_) (fun hc => ?_)
    · have h := cond_t h hc
      refine Wp.srg [] [] ?_
      refine Runs.alln ?_
      refine Wp.fg ⟨[(2, .obj 2 0), (3, .obj 3 0), (4, .t (.bool false))], [(2, ((Put.enc p0).map .t)), (3, ((Put.enc p1).map .t))], []⟩ ?_
      refine Wp.ret ?_
      refine thenR ?_
      have hr := Option.some.inj h
      subst hr
      exact RetK [.t (.bool false)] (.one (.t (.bool false))) [] kr kr (.refl _) .nil
    · have h := cond_f h hc
      refine Wp.skip ?_
      refine thenN ?_
      refine Wp.seq ?_
      refine Wp.srg [] [] ?_
      refine Runs.batch 4 kr ?_
      obtain ⟨r1, e_r1, h⟩ := bind_some h
      refine Runs.callK false 19 54 [] [.t (.sl 1 (p0.fB.map (eInt .u8))), .t (.sl 1 (p1.fB.map (eInt .u8)))] [.one (.t (.sl 1 (p0.fB.map (eInt .u8)))), .one (.t (.sl 1 (p1.fB.map (eInt .u8))))] (.one (.t (.bool r1))) [] rfl rfl kr kr kr kr kr (laws_eqByteS_ok u p0.fB p1.fB r1 e_r1) kr ?_
      refine Runs.alln ?_
      refine Wp.fg ⟨[(2, .obj 2 0), (3, .obj 3 0), (4, .t (.bool false)), (20, .t (.bool (!r1)))], [(2, ((Put.enc p0).map .t)), (3, ((Put.enc p1).map .t))], []⟩ ?_
      refine Wp.cond2 (b := !r1) kr (fun hc => ?_) (fun hc => ?_)
      · have h := cond_t h hc
        refine Wp.srg [] [] ?_
        refine Runs.alln ?_
        refine Wp.fg ⟨[(2, .obj 2 0), (3, .obj 3 0), (4, .t (.bool false))], [(2, ((Put.enc p0).map .t)), (3, ((Put.enc p1).map .t))], []⟩ ?_
        refine Wp.ret ?_
        refine thenR ?_
        have hr := Option.some.inj h
        subst hr
        exact RetK [.t (.bool false)] (.one (.t (.bool false))) [] kr kr (.refl _) .nil
      · have h := cond_f h hc
        refine Wp.skip ?_
        refine thenN ?_
        refine Wp.seq ?_
        refine Wp.srg [] [] ?_
        refine Runs.batch 4 kr ?_
        obtain ⟨r2, e_r2, h⟩ := bind_some h
        refine Runs.callK false 25 148 [] [.agg ((Record.enc p0.fR).map .t), .agg ((Record.enc p1.fR).map .t)] [.agg ((Record.enc p0.fR).map .t), .agg ((Record.enc p1.fR).map .t)] (.one (.t (.bool r2))) [] rfl rfl kr kr kr kr kr (laws_eqRecord_ok u p0.fR p1.fR r2 e_r2) kr ?_
        refine Runs.alln ?_
        refine Wp.fg ⟨[(4, .t (.bool false)), (26, .t (.bool (!r2)))], [], []⟩ ?_
        refine Wp.cond2 (b := !r2) kr (fun hc => ?_) (fun hc => ?_)
        · have h := cond_t h hc
          refine Wp.srg [] [] ?_
          refine Runs.alln ?_
          refine Wp.fg ⟨[(4, .t (.bool false))], [], []⟩ ?_
          refine Wp.ret ?_
          refine thenR ?_
          have hr := Option.some.inj h
          subst hr
          exact RetK [.t (.bool false)] (.one (.t (.bool false))) [] kr kr (.refl _) .nil
        · have h := cond_f h hc
          refine Wp.skip ?_
          refine thenN ?_
          refine Wp.srg [] [] ?_
          refine Runs.alln ?_
          refine Wp.fg ⟨[(4, .t (.bool true))], [], []⟩ ?_
          refine Wp.ret ?_
          have hr := Option.some.inj h
          subst hr
          exact RetK [.t (.bool true)] (.one (.t (.bool true))) [] kr kr (.refl _) .nil
theorem laws_eqPutS_ok (u : Nat) (p0 : List Put) (p1 : List Put) (r : Bool) (h : laws_eqPutS u p0 p1 = some r) : CallOK Tryz.prog 149 [.one (.t (.sl 6 (p0.map Put.enc))), .one (.t (.sl 6 (p1.map Put.enc)))] (.one (.t (.bool r))) [] := by
  unfold laws_eqPutS at h
  refine CallOK.of_bodyK (fn := Tryz.f149) (m := false) [.t (.sl 6 (p0.map Put.enc)), .t (.sl 6 (p1.map Put.enc))] kr rfl kr kr kr kr kr ?_
  refine Wp.srg [] [] ?_
  refine Runs.alln ?_
  refine Wp.fg ⟨[(0, .t (.sl 6 (p0.map Put.enc))), (1, .t (.sl 6 (p1.map Put.enc))), (4, .t (.bool false))], [], []⟩ ?_
  refine Wp.seq ?_
  refine Wp.srg [] [] ?_
  refine Runs.batch 1 kr ?_
  refine Runs.lenT (y := .t (.sl 6 (p0.map Put.enc))) (e := 186) Put.enc p0 6 rfl rfl rfl kr kr kr kr kr ?_
  refine Runs.batch 1 kr ?_
  refine Runs.lenT (y := .t (.sl 6 (p1.map Put.enc))) (e := 186) Put.enc p1 6 rfl rfl rfl kr kr kr kr kr ?_
  refine Runs.alln ?_
  refine Wp.fg ⟨[(0, .t (.sl 6 (p0.map Put.enc))), (1, .t (.sl 6 (p1.map Put.enc))), (4, .t (.bool false)), (10, .t (.bool (((p0.length : Int)) != ((p1.length : Int)))))], [], []⟩ ?_
  refine Wp.cond2 (b := ((p0.length : Int)) != ((p1.length : Int))) kr (fun hc => ?_) (fun hc => ?_)
  · have h := cond_t h hc
    refine Wp.srg [] [] ?_
    refine Runs.alln ?_
    refine Wp.fg ⟨[(0, .t (.sl 6 (p0.map Put.enc))), (1, .t (.sl 6 (p1.map Put.enc))), (4, .t (.bool false))], [], []⟩ ?_
    refine Wp.ret ?_
    refine thenR ?_
    have hr := Option.some.inj h
    subst hr
    exact RetK [.t (.bool false)] (.one (.t (.bool false))) [] kr kr (.refl _) .nil
  · have h := cond_f h hc
    refine Wp.skip ?_
    refine thenN ?_
    refine Wp.seqJ (α := Unit) (fun a => ⟨[(4, .t (.bool false))], [], []⟩) (fun a => laws_eqPutS_j1 u = some r) ?_ ?_
    · rintro ⟨⟩ h
      change laws_eqPutS_j1 u = some r at h
      unfold laws_eqPutS_j1 at h
      refine Wp.srg [] [] ?_
      refine Runs.alln ?_
      refine Wp.fg ⟨[(4, .t (.bool true))], [], []⟩ ?_
      refine Wp.ret ?_
      have hr := Option.some.inj h
      subst hr
      exact RetK [.t (.bool true)] (.one (.t (.bool true))) [] kr kr (.refl _) .nil
    · refine Wp.srg [] [] ?_
      refine Runs.alln ?_
      refine Wp.fg ⟨[(0, .t (.sl 6 (p0.map Put.enc))), (1, .t (.sl 6 (p1.map Put.enc))), (4, .t (.bool false)), (5, .t (.int .i64 0))], [], []⟩ ?_
      refine Wp.block ?_
      refine Wp.loopF (α := (List Put) × (List Put) × Int) (fun a => ⟨[(0, .t (.sl 6 (a.1.map Put.enc))), (1, .t (.sl 6 (a.2.1.map Put.enc))), (4, .t (.bool false)), (5, .t (.int .i64 a.2.2))], [], []⟩) (fun k_laws_eqPutS_l2 a => laws_eqPutS_l2 u k_laws_eqPutS_l2 a.1 a.2.1 a.2.2 = some r) ?_ ?_ u (p0, p1, 0) h (Le.of (mo := []) (mr := []) kr kr kr kr)
      · intro a h; unfold laws_eqPutS_l2 at h; cases h
      · rintro k_laws_eqPutS_l2 ⟨p0, p1, x2⟩ h
        change laws_eqPutS_l2 u (k_laws_eqPutS_l2 + 1) p0 p1 x2 = some r at h
        rw [laws_eqPutS_l2] at h
        refine Wp.seq ?_
        refine Wp.srg [] [] ?_
        refine Runs.batch 2 kr ?_
        refine Runs.lenT (y := .t (.sl 6 (p0.map Put.enc))) (e := 186) Put.enc p0 6 rfl rfl rfl kr kr kr kr kr ?_
        refine Runs.alln ?_
        refine Wp.fg ⟨[(0, .t (.sl 6 (p0.map Put.enc))), (1, .t (.sl 6 (p1.map Put.enc))), (4, .t (.bool false)), (5, .t (.int .i64 x2)), (11, .t (.int .i64 x2)), (12, .t (.sl 6 (p0.map Put.enc))), (13, .t (.int .i64 ((p0.length : Int)))), (14, .t (.bool (decide (x2 < ((p0.length : Int))))))], [], []⟩ ?_
        refine Wp.cond2 (b := decide (x2 < ((p0.length : Int)))) kr (fun hc => ?_) (fun hc => ?_)
        · have h := cond_t h hc
          refine Wp.skip ?_
          refine thenN ?_
          refine Wp.seq ?_
          refine Wp.block ?_
          refine Wp.seq ?_
          refine Wp.regionA (pOf []) (rhoOf [(0, .frz), (1, .frz), (5, .frz), (17, .frz), (18, .frz), (19, .frz), (20, .frz), (21, .frz), (22, .frz), (23, .frz), (24, .frz), (25, .frz)]) kr kr ?_
          refine Runs.batch 2 kr ?_
          obtain ⟨y4, e_y4, h⟩ := bind_some h
          refine Runs.idxT (e := 186) (kk := .i64) (sz := 6) Put.enc p0 x2 rfl kr kr kr kr kr kr e_y4 ?_
          refine Runs.batch 3 kr ?_
          obtain ⟨y5, e_y5, h⟩ := bind_some h
          refine Runs.idxT (e := 186) (kk := .i64) (sz := 6) Put.enc p1 x2 rfl kr kr kr kr kr kr e_y5 ?_
          refine Runs.batch 1 kr ?_
          obtain ⟨r6, e_r6, h⟩ := bind_some h
          refine Runs.callK false 25 180 [] [.agg ((Put.enc y4).map .t), .agg ((Put.enc y5).map .t)] [.agg ((Put.enc y4).map .t), .agg ((Put.enc y5).map .t)] (.one (.t (.bool r6))) [] rfl rfl kr kr kr kr kr (laws_eqPut_ok u y4 y5 r6 e_r6) kr ?_
          refine Runs.alln ?_
          refine Wp.fg ⟨[(0, .t (.sl 6 (p0.map Put.enc))), (1, .t (.sl 6 (p1.map Put.enc))), (4, .t (.bool false)), (5, .t (.int .i64 x2)), (11, .t (.int .i64 x2)), (12, .t (.sl 6 (p0.map Put.enc))), (13, .t (.int .i64 ((p0.length : Int)))), (14, .t (.bool (decide (x2 < ((p0.length : Int)))))), (17, .t (.sl 6 (p0.map Put.enc))), (18, .t (.int .i64 x2)), (19, .fadr (Put.enc y4)), (20, .agg ((Put.enc y4).map .t)), (21, .t (.sl 6 (p1.map Put.enc))), (22, .t (.int .i64 x2)), (23, .fadr (Put.enc y5)), (24, .agg ((Put.enc y5).map .t)), (25, .t (.bool r6)), (26, .t (.bool (!r6)))], [], []⟩ ?_
          refine Wp.cond2 (b := !r6) kr (fun hc => ?_) (fun hc => ?_)
          · have h := cond_t h hc
            refine Wp.srg [] [] ?_
            refine Runs.alln ?_
            refine Wp.fg ⟨[(0, .t (.sl 6 (p0.map Put.enc))), (1, .t (.sl 6 (p1.map Put.enc))), (4, .t (.bool false)), (5, .t (.int .i64 x2)), (11, .t (.int .i64 x2)), (12, .t (.sl 6 (p0.map Put.enc))), (13, .t (.int .i64 ((p0.length : Int)))), (14, .t (.bool (decide (x2 < ((p0.length : Int)))))), (17, .t (.sl 6 (p0.map Put.enc))), (18, .t (.int .i64 x2)), (19, .fadr (Put.enc y4)), (20, .agg ((Put.enc y4).map .t)), (21, .t (.sl 6 (p1.map Put.enc))), (22, .t (.int .i64 x2)), (23, .fadr (Put.enc y5)), (24, .agg ((Put.enc y5).map .t)), (25, .t (.bool r6)), (26, .t (.bool (!r6)))], [], []⟩ ?_
            refine Wp.ret ?_
            refine blkR ?_
            refine thenR ?_
            refine thenR ?_
            refine blkR ?_
            refine thenR ?_
            have hr := Option.some.inj h
            subst hr
            exact RetK [.t (.bool false)] (.one (.t (.bool false))) [] kr kr (.refl _) .nil
          · have h := cond_f h hc
            refine Wp.skip ?_
            refine blkN ?_
            refine thenN ?_
            refine Wp.rg [] [] ?_
            refine Runs.alln ?_
            exact ⟨(p0, p1, bAdd .i64 x2 1), h, Le.of (mo := []) (mr := []) kr kr kr kr⟩
        · have h := cond_f h hc
          refine Wp.exit ?_
          refine thenE ?_
          refine thenE ?_
          refine blkE ?_
          refine thenN ?_
          exact ⟨(), h, Le.of (mo := []) (mr := []) kr kr kr kr⟩
theorem laws_eqDisk_ok (u : Nat) (p0 : Disk) (p1 : Disk) (r : Bool) (h : laws_eqDisk u p0 p1 = some r) : CallOK Tryz.prog 108 [.agg [.t (.sl 1 (p0.fA.map (eInt .u8))), .t (.sl 1 (p0.fB.map (eInt .u8))), .t (.int .i64 p0.fR.fGen), .t (.int .i64 p0.fR.fSlot), .t (.int .i64 p0.fR.fLen), .t (.sl 6 (p0.fP.map Put.enc))], .agg [.t (.sl 1 (p1.fA.map (eInt .u8))), .t (.sl 1 (p1.fB.map (eInt .u8))), .t (.int .i64 p1.fR.fGen), .t (.int .i64 p1.fR.fSlot), .t (.int .i64 p1.fR.fLen), .t (.sl 6 (p1.fP.map Put.enc))]] (.one (.t (.bool r))) [] := by
  unfold laws_eqDisk at h
  refine CallOK.of_bodyK (fn := Tryz.f108) (m := false) [.agg ((Disk.enc p0).map .t), .agg ((Disk.enc p1).map .t)] kr rfl kr kr kr kr kr ?_
  refine Wp.srg [] [] ?_
  refine Runs.alln ?_
  refine Wp.fg ⟨[(2, .obj 2 0), (3, .obj 3 0), (4, .t (.bool false))], [(2, ((Disk.enc p0).map .t)), (3, ((Disk.enc p1).map .t))], []⟩ ?_
  refine Wp.seq ?_
  refine Wp.srg [] [] ?_
  refine Runs.batch 4 kr ?_
  obtain ⟨r1, e_r1, h⟩ := bind_some h
  refine Runs.callK false 9 54 [] [.t (.sl 1 (p0.fA.map (eInt .u8))), .t (.sl 1 (p1.fA.map (eInt .u8)))] [.one (.t (.sl 1 (p0.fA.map (eInt .u8)))), .one (.t (.sl 1 (p1.fA.map (eInt .u8))))] (.one (.t (.bool r1))) [] rfl rfl kr kr kr kr kr (laws_eqByteS_ok u p0.fA p1.fA r1 e_r1) kr ?_
  refine Runs.alln ?_
  refine Wp.fg ⟨[(2, .obj 2 0), (3, .obj 3 0), (4, .t (.bool false)), (10, .t (.bool (!r1)))], [(2, ((Disk.enc p0).map .t)), (3, ((Disk.enc p1).map .t))], []⟩ ?_
  refine Wp.cond2 (b := !r1) kr (fun hc => ?_) (fun hc => ?_)
  · have h := cond_t h hc
    refine Wp.srg [] [] ?_
    refine Runs.alln ?_
    refine Wp.fg ⟨[(2, .obj 2 0), (3, .obj 3 0), (4, .t (.bool false))], [(2, ((Disk.enc p0).map .t)), (3, ((Disk.enc p1).map .t))], []⟩ ?_
    refine Wp.ret ?_
    refine thenR ?_
    have hr := Option.some.inj h
    subst hr
    exact RetK [.t (.bool false)] (.one (.t (.bool false))) [] kr kr (.refl _) .nil
  · have h := cond_f h hc
    refine Wp.skip ?_
    refine thenN ?_
    refine Wp.seq ?_
    refine Wp.srg [] [] ?_
    refine Runs.batch 4 kr ?_
    obtain ⟨r2, e_r2, h⟩ := bind_some h
    refine Runs.callK false 15 54 [] [.t (.sl 1 (p0.fB.map (eInt .u8))), .t (.sl 1 (p1.fB.map (eInt .u8)))] [.one (.t (.sl 1 (p0.fB.map (eInt .u8)))), .one (.t (.sl 1 (p1.fB.map (eInt .u8))))] (.one (.t (.bool r2))) [] rfl rfl kr kr kr kr kr (laws_eqByteS_ok u p0.fB p1.fB r2 e_r2) kr ?_
    refine Runs.alln ?_
    refine Wp.fg ⟨[(2, .obj 2 0), (3, .obj 3 0), (4, .t (.bool false)), (16, .t (.bool (!r2)))], [(2, ((Disk.enc p0).map .t)), (3, ((Disk.enc p1).map .t))], []⟩ ?_
    refine Wp.cond2 (b := !r2) kr (fun hc => ?_) (fun hc => ?_)
    · have h := cond_t h hc
      refine Wp.srg [] [] ?_
      refine Runs.alln ?_
      refine Wp.fg ⟨[(2, .obj 2 0), (3, .obj 3 0), (4, .t (.bool false))], [(2, ((Disk.enc p0).map .t)), (3, ((Disk.enc p1).map .t))], []⟩ ?_
      refine Wp.ret ?_
      refine thenR ?_
      have hr := Option.some.inj h
      subst hr
      exact RetK [.t (.bool false)] (.one (.t (.bool false))) [] kr kr (.refl _) .nil
    · have h := cond_f h hc
      refine Wp.skip ?_
      refine thenN ?_
      refine Wp.seq ?_
      refine Wp.srg [] [] ?_
      refine Runs.batch 4 kr ?_
      obtain ⟨r3, e_r3, h⟩ := bind_some h
      refine Runs.callK false 21 148 [] [.agg ((Record.enc p0.fR).map .t), .agg ((Record.enc p1.fR).map .t)] [.agg ((Record.enc p0.fR).map .t), .agg ((Record.enc p1.fR).map .t)] (.one (.t (.bool r3))) [] rfl rfl kr kr kr kr kr (laws_eqRecord_ok u p0.fR p1.fR r3 e_r3) kr ?_
      refine Runs.alln ?_
      refine Wp.fg ⟨[(2, .obj 2 0), (3, .obj 3 0), (4, .t (.bool false)), (22, .t (.bool (!r3)))], [(2, ((Disk.enc p0).map .t)), (3, ((Disk.enc p1).map .t))], []⟩ ?_
      refine Wp.cond2 (b := !r3) kr (fun hc => ?_) (fun hc => ?_)
      · have h := cond_t h hc
        refine Wp.srg [] [] ?_
        refine Runs.alln ?_
        refine Wp.fg ⟨[(2, .obj 2 0), (3, .obj 3 0), (4, .t (.bool false))], [(2, ((Disk.enc p0).map .t)), (3, ((Disk.enc p1).map .t))], []⟩ ?_
        refine Wp.ret ?_
        refine thenR ?_
        have hr := Option.some.inj h
        subst hr
        exact RetK [.t (.bool false)] (.one (.t (.bool false))) [] kr kr (.refl _) .nil
      · have h := cond_f h hc
        refine Wp.skip ?_
        refine thenN ?_
        refine Wp.seq ?_
        refine Wp.srg [] [] ?_
        refine Runs.batch 4 kr ?_
        obtain ⟨r4, e_r4, h⟩ := bind_some h
        refine Runs.callK false 27 149 [] [.t (.sl 6 (p0.fP.map Put.enc)), .t (.sl 6 (p1.fP.map Put.enc))] [.one (.t (.sl 6 (p0.fP.map Put.enc))), .one (.t (.sl 6 (p1.fP.map Put.enc)))] (.one (.t (.bool r4))) [] rfl rfl kr kr kr kr kr (laws_eqPutS_ok u p0.fP p1.fP r4 e_r4) kr ?_
        refine Runs.alln ?_
        refine Wp.fg ⟨[(4, .t (.bool false)), (28, .t (.bool (!r4)))], [], []⟩ ?_
        refine Wp.cond2 (b := !r4) kr (fun hc => ?_) (fun hc => ?_)
        · have h := cond_t h hc
          refine Wp.srg [] [] ?_
          refine Runs.alln ?_
          refine Wp.fg ⟨[(4, .t (.bool false))], [], []⟩ ?_
          refine Wp.ret ?_
          refine thenR ?_
          have hr := Option.some.inj h
          subst hr
          exact RetK [.t (.bool false)] (.one (.t (.bool false))) [] kr kr (.refl _) .nil
        · have h := cond_f h hc
          refine Wp.skip ?_
          refine thenN ?_
          refine Wp.srg [] [] ?_
          refine Runs.alln ?_
          refine Wp.fg ⟨[(4, .t (.bool true))], [], []⟩ ?_
          refine Wp.ret ?_
          have hr := Option.some.inj h
          subst hr
          exact RetK [.t (.bool true)] (.one (.t (.bool true))) [] kr kr (.refl _) .nil
theorem laws_eqDiskS_ok (u : Nat) (p0 : List Disk) (p1 : List Disk) (r : Bool) (h : laws_eqDiskS u p0 p1 = some r) : CallOK Tryz.prog 57 [.one (.t (.sl 6 (p0.map Disk.enc))), .one (.t (.sl 6 (p1.map Disk.enc)))] (.one (.t (.bool r))) [] := by
  unfold laws_eqDiskS at h
  refine CallOK.of_bodyK (fn := Tryz.f57) (m := false) [.t (.sl 6 (p0.map Disk.enc)), .t (.sl 6 (p1.map Disk.enc))] kr rfl kr kr kr kr kr ?_
  refine Wp.srg [] [] ?_
  refine Runs.alln ?_
  refine Wp.fg ⟨[(0, .t (.sl 6 (p0.map Disk.enc))), (1, .t (.sl 6 (p1.map Disk.enc))), (4, .t (.bool false))], [], []⟩ ?_
  refine Wp.seq ?_
  refine Wp.srg [] [] ?_
  refine Runs.batch 1 kr ?_
  refine Runs.lenT (y := .t (.sl 6 (p0.map Disk.enc))) (e := 87) Disk.enc p0 6 rfl rfl rfl kr kr kr kr kr ?_
  refine Runs.batch 1 kr ?_
  refine Runs.lenT (y := .t (.sl 6 (p1.map Disk.enc))) (e := 87) Disk.enc p1 6 rfl rfl rfl kr kr kr kr kr ?_
  refine Runs.alln ?_
  refine Wp.fg ⟨[(0, .t (.sl 6 (p0.map Disk.enc))), (1, .t (.sl 6 (p1.map Disk.enc))), (4, .t (.bool false)), (10, .t (.bool (((p0.length : Int)) != ((p1.length : Int)))))], [], []⟩ ?_
  refine Wp.cond2 (b := ((p0.length : Int)) != ((p1.length : Int))) kr (fun hc => ?_) (fun hc => ?_)
  · have h := cond_t h hc
    refine Wp.srg [] [] ?_
    refine Runs.alln ?_
    refine Wp.fg ⟨[(0, .t (.sl 6 (p0.map Disk.enc))), (1, .t (.sl 6 (p1.map Disk.enc))), (4, .t (.bool false))], [], []⟩ ?_
    refine Wp.ret ?_
    refine thenR ?_
    have hr := Option.some.inj h
    subst hr
    exact RetK [.t (.bool false)] (.one (.t (.bool false))) [] kr kr (.refl _) .nil
  · have h := cond_f h hc
    refine Wp.skip ?_
    refine thenN ?_
    refine Wp.seqJ (α := Unit) (fun a => ⟨[(4, .t (.bool false))], [], []⟩) (fun a => laws_eqDiskS_j1 u = some r) ?_ ?_
    · rintro ⟨⟩ h
      change laws_eqDiskS_j1 u = some r at h
      unfold laws_eqDiskS_j1 at h
      refine Wp.srg [] [] ?_
      refine Runs.alln ?_
      refine Wp.fg ⟨[(4, .t (.bool true))], [], []⟩ ?_
      refine Wp.ret ?_
      have hr := Option.some.inj h
      subst hr
      exact RetK [.t (.bool true)] (.one (.t (.bool true))) [] kr kr (.refl _) .nil
    · refine Wp.srg [] [] ?_
      refine Runs.alln ?_
      refine Wp.fg ⟨[(0, .t (.sl 6 (p0.map Disk.enc))), (1, .t (.sl 6 (p1.map Disk.enc))), (4, .t (.bool false)), (5, .t (.int .i64 0))], [], []⟩ ?_
      refine Wp.block ?_
      refine Wp.loopF (α := (List Disk) × (List Disk) × Int) (fun a => ⟨[(0, .t (.sl 6 (a.1.map Disk.enc))), (1, .t (.sl 6 (a.2.1.map Disk.enc))), (4, .t (.bool false)), (5, .t (.int .i64 a.2.2))], [], []⟩) (fun k_laws_eqDiskS_l2 a => laws_eqDiskS_l2 u k_laws_eqDiskS_l2 a.1 a.2.1 a.2.2 = some r) ?_ ?_ u (p0, p1, 0) h (Le.of (mo := []) (mr := []) kr kr kr kr)
      · intro a h; unfold laws_eqDiskS_l2 at h; cases h
      · rintro k_laws_eqDiskS_l2 ⟨p0, p1, x2⟩ h
        change laws_eqDiskS_l2 u (k_laws_eqDiskS_l2 + 1) p0 p1 x2 = some r at h
        rw [laws_eqDiskS_l2] at h
        refine Wp.seq ?_
        refine Wp.srg [] [] ?_
        refine Runs.batch 2 kr ?_
        refine Runs.lenT (y := .t (.sl 6 (p0.map Disk.enc))) (e := 87) Disk.enc p0 6 rfl rfl rfl kr kr kr kr kr ?_
        refine Runs.alln ?_
        refine Wp.fg ⟨[(0, .t (.sl 6 (p0.map Disk.enc))), (1, .t (.sl 6 (p1.map Disk.enc))), (4, .t (.bool false)), (5, .t (.int .i64 x2)), (11, .t (.int .i64 x2)), (12, .t (.sl 6 (p0.map Disk.enc))), (13, .t (.int .i64 ((p0.length : Int)))), (14, .t (.bool (decide (x2 < ((p0.length : Int))))))], [], []⟩ ?_
        refine Wp.cond2 (b := decide (x2 < ((p0.length : Int)))) kr (fun hc => ?_) (fun hc => ?_)
        · have h := cond_t h hc
          refine Wp.skip ?_
          refine thenN ?_
          refine Wp.seq ?_
          refine Wp.block ?_
          refine Wp.seq ?_
          refine Wp.regionA (pOf []) (rhoOf [(0, .frz), (1, .frz), (5, .frz), (17, .frz), (18, .frz), (19, .frz), (20, .frz), (21, .frz), (22, .frz), (23, .frz), (24, .frz), (25, .frz)]) kr kr ?_
          refine Runs.batch 2 kr ?_
          obtain ⟨y4, e_y4, h⟩ := bind_some h
          refine Runs.idxT (e := 87) (kk := .i64) (sz := 6) Disk.enc p0 x2 rfl kr kr kr kr kr kr e_y4 ?_
          refine Runs.batch 3 kr ?_
          obtain ⟨y5, e_y5, h⟩ := bind_some h
          refine Runs.idxT (e := 87) (kk := .i64) (sz := 6) Disk.enc p1 x2 rfl kr kr kr kr kr kr e_y5 ?_
          refine Runs.batch 1 kr ?_
          obtain ⟨r6, e_r6, h⟩ := bind_some h
          refine Runs.callK false 25 108 [] [.agg ((Disk.enc y4).map .t), .agg ((Disk.enc y5).map .t)] [.agg ((Disk.enc y4).map .t), .agg ((Disk.enc y5).map .t)] (.one (.t (.bool r6))) [] rfl rfl kr kr kr kr kr (laws_eqDisk_ok u y4 y5 r6 e_r6) kr ?_
          refine Runs.alln ?_
          refine Wp.fg ⟨[(0, .t (.sl 6 (p0.map Disk.enc))), (1, .t (.sl 6 (p1.map Disk.enc))), (4, .t (.bool false)), (5, .t (.int .i64 x2)), (11, .t (.int .i64 x2)), (12, .t (.sl 6 (p0.map Disk.enc))), (13, .t (.int .i64 ((p0.length : Int)))), (14, .t (.bool (decide (x2 < ((p0.length : Int)))))), (17, .t (.sl 6 (p0.map Disk.enc))), (18, .t (.int .i64 x2)), (19, .fadr (Disk.enc y4)), (20, .agg ((Disk.enc y4).map .t)), (21, .t (.sl 6 (p1.map Disk.enc))), (22, .t (.int .i64 x2)), (23, .fadr (Disk.enc y5)), (24, .agg ((Disk.enc y5).map .t)), (25, .t (.bool r6)), (26, .t (.bool (!r6)))], [], []⟩ ?_
          refine Wp.cond2 (b := !r6) kr (fun hc => ?_) (fun hc => ?_)
          · have h := cond_t h hc
            refine Wp.srg [] [] ?_
            refine Runs.alln ?_
            refine Wp.fg ⟨[(0, .t (.sl 6 (p0.map Disk.enc))), (1, .t (.sl 6 (p1.map Disk.enc))), (4, .t (.bool false)), (5, .t (.int .i64 x2)), (11, .t (.int .i64 x2)), (12, .t (.sl 6 (p0.map Disk.enc))), (13, .t (.int .i64 ((p0.length : Int)))), (14, .t (.bool (decide (x2 < ((p0.length : Int)))))), (17, .t (.sl 6 (p0.map Disk.enc))), (18, .t (.int .i64 x2)), (19, .fadr (Disk.enc y4)), (20, .agg ((Disk.enc y4).map .t)), (21, .t (.sl 6 (p1.map Disk.enc))), (22, .t (.int .i64 x2)), (23, .fadr (Disk.enc y5)), (24, .agg ((Disk.enc y5).map .t)), (25, .t (.bool r6)), (26, .t (.bool (!r6)))], [], []⟩ ?_
            refine Wp.ret ?_
            refine blkR ?_
            refine thenR ?_
            refine thenR ?_
            refine blkR ?_
            refine thenR ?_
            have hr := Option.some.inj h
            subst hr
            exact RetK [.t (.bool false)] (.one (.t (.bool false))) [] kr kr (.refl _) .nil
          · have h := cond_f h hc
            refine Wp.skip ?_
            refine blkN ?_
            refine thenN ?_
            refine Wp.rg [] [] ?_
            refine Runs.alln ?_
            exact ⟨(p0, p1, bAdd .i64 x2 1), h, Le.of (mo := []) (mr := []) kr kr kr kr⟩
        · have h := cond_f h hc
          refine Wp.exit ?_
          refine thenE ?_
          refine thenE ?_
          refine blkE ?_
          refine thenN ?_
          exact ⟨(), h, Le.of (mo := []) (mr := []) kr kr kr kr⟩
theorem laws_eqPacket_ok (u : Nat) (p0 : Packet) (p1 : Packet) (r : Bool) (h : laws_eqPacket u p0 p1 = some r) : CallOK Tryz.prog 109 [.agg [.t (.int .i64 p0.fFrom), .t (.int .i64 p0.fTo), .t (.sl 1 (p0.fB.map (eInt .u8)))], .agg [.t (.int .i64 p1.fFrom), .t (.int .i64 p1.fTo), .t (.sl 1 (p1.fB.map (eInt .u8)))]] (.one (.t (.bool r))) [] := by
  unfold laws_eqPacket at h
  refine CallOK.of_bodyK (fn := Tryz.f109) (m := false) [.agg ((Packet.enc p0).map .t), .agg ((Packet.enc p1).map .t)] kr rfl kr kr kr kr kr ?_
  refine Wp.srg [] [] ?_
  refine Runs.alln ?_
  refine Wp.fg ⟨[(2, .obj 2 0), (3, .obj 3 0), (4, .t (.bool false))], [(2, ((Packet.enc p0).map .t)), (3, ((Packet.enc p1).map .t))], []⟩ ?_
  refine Wp.seq ?_
  refine Wp.srg [] [] ?_
  refine Runs.alln ?_
  refine Wp.fg ⟨[(2, .obj 2 0), (3, .obj 3 0), (4, .t (.bool false)), (9, .t (.bool (p0.fFrom != p1.fFrom)))], [(2, ((Packet.enc p0).map .t)), (3, ((Packet.enc p1).map .t))], []⟩ ?_
  refine Wp.cond2 (b := p0.fFrom != p1.fFrom) kr (fun hc => ?_) (fun hc => ?_)
  · have h := cond_t h hc
    refine Wp.srg [] [] ?_
    refine Runs.alln ?_
    refine Wp.fg ⟨[(2, .obj 2 0), (3, .obj 3 0), (4, .t (.bool false))], [(2, ((Packet.enc p0).map .t)), (3, ((Packet.enc p1).map .t))], []⟩ ?_
    refine Wp.ret ?_
    refine thenR ?_
    have hr := Option.some.inj h
    subst hr
    exact RetK [.t (.bool false)] (.one (.t (.bool false))) [] kr kr (.refl _) .nil
  · have h := cond_f h hc
    refine Wp.skip ?_
    refine thenN ?_
    refine Wp.seq ?_
    refine Wp.srg [] [] ?_
    refine Runs.alln ?_
    refine Wp.fg ⟨[(2, .obj 2 0), (3, .obj 3 0), (4, .t (.bool false)), (14, .t (.bool (p0.fTo != p1.fTo)))], [(2, ((Packet.enc p0).map .t)), (3, ((Packet.enc p1).map .t))], []⟩ ?_
    refine Wp.cond2 (b := p0.fTo != p1.fTo) kr (fun hc => ?_) (fun hc => ?_)
    · have h := cond_t h hc
      refine Wp.srg [] [] ?_
      refine Runs.alln ?_
      refine Wp.fg ⟨[(2, .obj 2 0), (3, .obj 3 0), (4, .t (.bool false))], [(2, ((Packet.enc p0).map .t)), (3, ((Packet.enc p1).map .t))], []⟩ ?_
      refine Wp.ret ?_
      refine thenR ?_
      have hr := Option.some.inj h
      subst hr
      exact RetK [.t (.bool false)] (.one (.t (.bool false))) [] kr kr (.refl _) .nil
    · have h := cond_f h hc
      refine Wp.skip ?_
      refine thenN ?_
      refine Wp.seq ?_
      refine Wp.srg [] [] ?_
      refine Runs.batch 4 kr ?_
      obtain ⟨r1, e_r1, h⟩ := bind_some h
      refine Runs.callK false 19 54 [] [.t (.sl 1 (p0.fB.map (eInt .u8))), .t (.sl 1 (p1.fB.map (eInt .u8)))] [.one (.t (.sl 1 (p0.fB.map (eInt .u8)))), .one (.t (.sl 1 (p1.fB.map (eInt .u8))))] (.one (.t (.bool r1))) [] rfl rfl kr kr kr kr kr (laws_eqByteS_ok u p0.fB p1.fB r1 e_r1) kr ?_
      refine Runs.alln ?_
      refine Wp.fg ⟨[(4, .t (.bool false)), (20, .t (.bool (!r1)))], [], []⟩ ?_
      refine Wp.cond2 (b := !r1) kr (fun hc => ?_) (fun hc => ?_)
      · have h := cond_t h hc
        refine Wp.srg [] [] ?_
        refine Runs.alln ?_
        refine Wp.fg ⟨[(4, .t (.bool false))], [], []⟩ ?_
        refine Wp.ret ?_
        refine thenR ?_
        have hr := Option.some.inj h
        subst hr
        exact RetK [.t (.bool false)] (.one (.t (.bool false))) [] kr kr (.refl _) .nil
      · have h := cond_f h hc
        refine Wp.skip ?_
        refine thenN ?_
        refine Wp.srg [] [] ?_
        refine Runs.alln ?_
        refine Wp.fg ⟨[(4, .t (.bool true))], [], []⟩ ?_
        refine Wp.ret ?_
        have hr := Option.some.inj h
        subst hr
        exact RetK [.t (.bool true)] (.one (.t (.bool true))) [] kr kr (.refl _) .nil
theorem laws_eqPacketS_ok (u : Nat) (p0 : List Packet) (p1 : List Packet) (r : Bool) (h : laws_eqPacketS u p0 p1 = some r) : CallOK Tryz.prog 58 [.one (.t (.sl 3 (p0.map Packet.enc))), .one (.t (.sl 3 (p1.map Packet.enc)))] (.one (.t (.bool r))) [] := by
  unfold laws_eqPacketS at h
  refine CallOK.of_bodyK (fn := Tryz.f58) (m := false) [.t (.sl 3 (p0.map Packet.enc)), .t (.sl 3 (p1.map Packet.enc))] kr rfl kr kr kr kr kr ?_
  refine Wp.srg [] [] ?_
  refine Runs.alln ?_
  refine Wp.fg ⟨[(0, .t (.sl 3 (p0.map Packet.enc))), (1, .t (.sl 3 (p1.map Packet.enc))), (4, .t (.bool false))], [], []⟩ ?_
  refine Wp.seq ?_
  refine Wp.srg [] [] ?_
  refine Runs.batch 1 kr ?_
  refine Runs.lenT (y := .t (.sl 3 (p0.map Packet.enc))) (e := 134) Packet.enc p0 3 rfl rfl rfl kr kr kr kr kr ?_
  refine Runs.batch 1 kr ?_
  refine Runs.lenT (y := .t (.sl 3 (p1.map Packet.enc))) (e := 134) Packet.enc p1 3 rfl rfl rfl kr kr kr kr kr ?_
  refine Runs.alln ?_
  refine Wp.fg ⟨[(0, .t (.sl 3 (p0.map Packet.enc))), (1, .t (.sl 3 (p1.map Packet.enc))), (4, .t (.bool false)), (10, .t (.bool (((p0.length : Int)) != ((p1.length : Int)))))], [], []⟩ ?_
  refine Wp.cond2 (b := ((p0.length : Int)) != ((p1.length : Int))) kr (fun hc => ?_) (fun hc => ?_)
  · have h := cond_t h hc
    refine Wp.srg [] [] ?_
    refine Runs.alln ?_
    refine Wp.fg ⟨[(0, .t (.sl 3 (p0.map Packet.enc))), (1, .t (.sl 3 (p1.map Packet.enc))), (4, .t (.bool false))], [], []⟩ ?_
    refine Wp.ret ?_
    refine thenR ?_
    have hr := Option.some.inj h
    subst hr
    exact RetK [.t (.bool false)] (.one (.t (.bool false))) [] kr kr (.refl _) .nil
  · have h := cond_f h hc
    refine Wp.skip ?_
    refine thenN ?_
    refine Wp.seqJ (α := Unit) (fun a => ⟨[(4, .t (.bool false))], [], []⟩) (fun a => laws_eqPacketS_j1 u = some r) ?_ ?_
    · rintro ⟨⟩ h
      change laws_eqPacketS_j1 u = some r at h
      unfold laws_eqPacketS_j1 at h
      refine Wp.srg [] [] ?_
      refine Runs.alln ?_
      refine Wp.fg ⟨[(4, .t (.bool true))], [], []⟩ ?_
      refine Wp.ret ?_
      have hr := Option.some.inj h
      subst hr
      exact RetK [.t (.bool true)] (.one (.t (.bool true))) [] kr kr (.refl _) .nil
    · refine Wp.srg [] [] ?_
      refine Runs.alln ?_
      refine Wp.fg ⟨[(0, .t (.sl 3 (p0.map Packet.enc))), (1, .t (.sl 3 (p1.map Packet.enc))), (4, .t (.bool false)), (5, .t (.int .i64 0))], [], []⟩ ?_
      refine Wp.block ?_
      refine Wp.loopF (α := (List Packet) × (List Packet) × Int) (fun a => ⟨[(0, .t (.sl 3 (a.1.map Packet.enc))), (1, .t (.sl 3 (a.2.1.map Packet.enc))), (4, .t (.bool false)), (5, .t (.int .i64 a.2.2))], [], []⟩) (fun k_laws_eqPacketS_l2 a => laws_eqPacketS_l2 u k_laws_eqPacketS_l2 a.1 a.2.1 a.2.2 = some r) ?_ ?_ u (p0, p1, 0) h (Le.of (mo := []) (mr := []) kr kr kr kr)
      · intro a h; unfold laws_eqPacketS_l2 at h; cases h
      · rintro k_laws_eqPacketS_l2 ⟨p0, p1, x2⟩ h
        change laws_eqPacketS_l2 u (k_laws_eqPacketS_l2 + 1) p0 p1 x2 = some r at h
        rw [laws_eqPacketS_l2] at h
        refine Wp.seq ?_
        refine Wp.srg [] [] ?_
        refine Runs.batch 2 kr ?_
        refine Runs.lenT (y := .t (.sl 3 (p0.map Packet.enc))) (e := 134) Packet.enc p0 3 rfl rfl rfl kr kr kr kr kr ?_
        refine Runs.alln ?_
        refine Wp.fg ⟨[(0, .t (.sl 3 (p0.map Packet.enc))), (1, .t (.sl 3 (p1.map Packet.enc))), (4, .t (.bool false)), (5, .t (.int .i64 x2)), (11, .t (.int .i64 x2)), (12, .t (.sl 3 (p0.map Packet.enc))), (13, .t (.int .i64 ((p0.length : Int)))), (14, .t (.bool (decide (x2 < ((p0.length : Int))))))], [], []⟩ ?_
        refine Wp.cond2 (b := decide (x2 < ((p0.length : Int)))) kr (fun hc => ?_) (fun hc => ?_)
        · have h := cond_t h hc
          refine Wp.skip ?_
          refine thenN ?_
          refine Wp.seq ?_
          refine Wp.block ?_
          refine Wp.seq ?_
          refine Wp.regionA (pOf []) (rhoOf [(0, .frz), (1, .frz), (5, .frz), (17, .frz), (18, .frz), (19, .frz), (20, .frz), (21, .frz), (22, .frz), (23, .frz), (24, .frz), (25, .frz)]) kr kr ?_
          refine Runs.batch 2 kr ?_
          obtain ⟨y4, e_y4, h⟩ := bind_some h
          refine Runs.idxT (e := 134) (kk := .i64) (sz := 3) Packet.enc p0 x2 rfl kr kr kr kr kr kr e_y4 ?_
          refine Runs.batch 3 kr ?_
          obtain ⟨y5, e_y5, h⟩ := bind_some h
          refine Runs.idxT (e := 134) (kk := .i64) (sz := 3) Packet.enc p1 x2 rfl kr kr kr kr kr kr e_y5 ?_
          refine Runs.batch 1 kr ?_
          obtain ⟨r6, e_r6, h⟩ := bind_some h
          refine Runs.callK false 25 109 [] [.agg ((Packet.enc y4).map .t), .agg ((Packet.enc y5).map .t)] [.agg ((Packet.enc y4).map .t), .agg ((Packet.enc y5).map .t)] (.one (.t (.bool r6))) [] rfl rfl kr kr kr kr kr (laws_eqPacket_ok u y4 y5 r6 e_r6) kr ?_
          refine Runs.alln ?_
          refine Wp.fg ⟨[(0, .t (.sl 3 (p0.map Packet.enc))), (1, .t (.sl 3 (p1.map Packet.enc))), (4, .t (.bool false)), (5, .t (.int .i64 x2)), (11, .t (.int .i64 x2)), (12, .t (.sl 3 (p0.map Packet.enc))), (13, .t (.int .i64 ((p0.length : Int)))), (14, .t (.bool (decide (x2 < ((p0.length : Int)))))), (17, .t (.sl 3 (p0.map Packet.enc))), (18, .t (.int .i64 x2)), (19, .fadr (Packet.enc y4)), (20, .agg ((Packet.enc y4).map .t)), (21, .t (.sl 3 (p1.map Packet.enc))), (22, .t (.int .i64 x2)), (23, .fadr (Packet.enc y5)), (24, .agg ((Packet.enc y5).map .t)), (25, .t (.bool r6)), (26, .t (.bool (!r6)))], [], []⟩ ?_
          refine Wp.cond2 (b := !r6) kr (fun hc => ?_) (fun hc => ?_)
          · have h := cond_t h hc
            refine Wp.srg [] [] ?_
            refine Runs.alln ?_
            refine Wp.fg ⟨[(0, .t (.sl 3 (p0.map Packet.enc))), (1, .t (.sl 3 (p1.map Packet.enc))), (4, .t (.bool false)), (5, .t (.int .i64 x2)), (11, .t (.int .i64 x2)), (12, .t (.sl 3 (p0.map Packet.enc))), (13, .t (.int .i64 ((p0.length : Int)))), (14, .t (.bool (decide (x2 < ((p0.length : Int)))))), (17, .t (.sl 3 (p0.map Packet.enc))), (18, .t (.int .i64 x2)), (19, .fadr (Packet.enc y4)), (20, .agg ((Packet.enc y4).map .t)), (21, .t (.sl 3 (p1.map Packet.enc))), (22, .t (.int .i64 x2)), (23, .fadr (Packet.enc y5)), (24, .agg ((Packet.enc y5).map .t)), (25, .t (.bool r6)), (26, .t (.bool (!r6)))], [], []⟩ ?_
            refine Wp.ret ?_
            refine blkR ?_
            refine thenR ?_
            refine thenR ?_
            refine blkR ?_
            refine thenR ?_
            have hr := Option.some.inj h
            subst hr
            exact RetK [.t (.bool false)] (.one (.t (.bool false))) [] kr kr (.refl _) .nil
          · have h := cond_f h hc
            refine Wp.skip ?_
            refine blkN ?_
            refine thenN ?_
            refine Wp.rg [] [] ?_
            refine Runs.alln ?_
            exact ⟨(p0, p1, bAdd .i64 x2 1), h, Le.of (mo := []) (mr := []) kr kr kr kr⟩
        · have h := cond_f h hc
          refine Wp.exit ?_
          refine thenE ?_
          refine thenE ?_
          refine blkE ?_
          refine thenN ?_
          exact ⟨(), h, Le.of (mo := []) (mr := []) kr kr kr kr⟩
theorem laws_eqSent_ok (u : Nat) (p0 : Sent) (p1 : Sent) (r : Bool) (h : laws_eqSent u p0 p1 = some r) : CallOK Tryz.prog 110 [.agg [.t (.int .i64 p0.fFrom), .t (.int .i64 p0.fTo), .t (.int .i64 p0.fI)], .agg [.t (.int .i64 p1.fFrom), .t (.int .i64 p1.fTo), .t (.int .i64 p1.fI)]] (.one (.t (.bool r))) [] := by
  unfold laws_eqSent at h
  refine CallOK.of_bodyK (fn := Tryz.f110) (m := false) [.agg ((Sent.enc p0).map .t), .agg ((Sent.enc p1).map .t)] kr rfl kr kr kr kr kr ?_
  refine Wp.srg [] [] ?_
  refine Runs.alln ?_
  refine Wp.fg ⟨[(2, .obj 2 0), (3, .obj 3 0), (4, .t (.bool false))], [(2, ((Sent.enc p0).map .t)), (3, ((Sent.enc p1).map .t))], []⟩ ?_
  refine Wp.seq ?_
  refine Wp.srg [] [] ?_
  refine Runs.alln ?_
  refine Wp.fg ⟨[(2, .obj 2 0), (3, .obj 3 0), (4, .t (.bool false)), (9, .t (.bool (p0.fFrom != p1.fFrom)))], [(2, ((Sent.enc p0).map .t)), (3, ((Sent.enc p1).map .t))], []⟩ ?_
  refine Wp.cond2 (b := p0.fFrom != p1.fFrom) kr (fun hc => ?_) (fun hc => ?_)
  · have h := cond_t h hc
    refine Wp.srg [] [] ?_
    refine Runs.alln ?_
    refine Wp.fg ⟨[(2, .obj 2 0), (3, .obj 3 0), (4, .t (.bool false))], [(2, ((Sent.enc p0).map .t)), (3, ((Sent.enc p1).map .t))], []⟩ ?_
    refine Wp.ret ?_
    refine thenR ?_
    have hr := Option.some.inj h
    subst hr
    exact RetK [.t (.bool false)] (.one (.t (.bool false))) [] kr kr (.refl _) .nil
  · have h := cond_f h hc
    refine Wp.skip ?_
    refine thenN ?_
    refine Wp.seq ?_
    refine Wp.srg [] [] ?_
    refine Runs.alln ?_
    refine Wp.fg ⟨[(2, .obj 2 0), (3, .obj 3 0), (4, .t (.bool false)), (14, .t (.bool (p0.fTo != p1.fTo)))], [(2, ((Sent.enc p0).map .t)), (3, ((Sent.enc p1).map .t))], []⟩ ?_
    refine Wp.cond2 (b := p0.fTo != p1.fTo) kr (fun hc => ?_) (fun hc => ?_)
    · have h := cond_t h hc
      refine Wp.srg [] [] ?_
      refine Runs.alln ?_
      refine Wp.fg ⟨[(2, .obj 2 0), (3, .obj 3 0), (4, .t (.bool false))], [(2, ((Sent.enc p0).map .t)), (3, ((Sent.enc p1).map .t))], []⟩ ?_
      refine Wp.ret ?_
      refine thenR ?_
      have hr := Option.some.inj h
      subst hr
      exact RetK [.t (.bool false)] (.one (.t (.bool false))) [] kr kr (.refl _) .nil
    · have h := cond_f h hc
      refine Wp.skip ?_
      refine thenN ?_
      refine Wp.seq ?_
      refine Wp.srg [] [] ?_
      refine Runs.alln ?_
      refine Wp.fg ⟨[(4, .t (.bool false)), (19, .t (.bool (p0.fI != p1.fI)))], [], []⟩ ?_
      refine Wp.cond2 (b := p0.fI != p1.fI) kr (fun hc => ?_) (fun hc => ?_)
      · have h := cond_t h hc
        refine Wp.srg [] [] ?_
        refine Runs.alln ?_
        refine Wp.fg ⟨[(4, .t (.bool false))], [], []⟩ ?_
        refine Wp.ret ?_
        refine thenR ?_
        have hr := Option.some.inj h
        subst hr
        exact RetK [.t (.bool false)] (.one (.t (.bool false))) [] kr kr (.refl _) .nil
      · have h := cond_f h hc
        refine Wp.skip ?_
        refine thenN ?_
        refine Wp.srg [] [] ?_
        refine Runs.alln ?_
        refine Wp.fg ⟨[(4, .t (.bool true))], [], []⟩ ?_
        refine Wp.ret ?_
        have hr := Option.some.inj h
        subst hr
        exact RetK [.t (.bool true)] (.one (.t (.bool true))) [] kr kr (.refl _) .nil
theorem laws_eqSentS_ok (u : Nat) (p0 : List Sent) (p1 : List Sent) (r : Bool) (h : laws_eqSentS u p0 p1 = some r) : CallOK Tryz.prog 59 [.one (.t (.sl 3 (p0.map Sent.enc))), .one (.t (.sl 3 (p1.map Sent.enc)))] (.one (.t (.bool r))) [] := by
  unfold laws_eqSentS at h
  refine CallOK.of_bodyK (fn := Tryz.f59) (m := false) [.t (.sl 3 (p0.map Sent.enc)), .t (.sl 3 (p1.map Sent.enc))] kr rfl kr kr kr kr kr ?_
  refine Wp.srg [] [] ?_
  refine Runs.alln ?_
  refine Wp.fg ⟨[(0, .t (.sl 3 (p0.map Sent.enc))), (1, .t (.sl 3 (p1.map Sent.enc))), (4, .t (.bool false))], [], []⟩ ?_
  refine Wp.seq ?_
  refine Wp.srg [] [] ?_
  refine Runs.batch 1 kr ?_
  refine Runs.lenT (y := .t (.sl 3 (p0.map Sent.enc))) (e := 137) Sent.enc p0 3 rfl rfl rfl kr kr kr kr kr ?_
  refine Runs.batch 1 kr ?_
  refine Runs.lenT (y := .t (.sl 3 (p1.map Sent.enc))) (e := 137) Sent.enc p1 3 rfl rfl rfl kr kr kr kr kr ?_
  refine Runs.alln ?_
  refine Wp.fg ⟨[(0, .t (.sl 3 (p0.map Sent.enc))), (1, .t (.sl 3 (p1.map Sent.enc))), (4, .t (.bool false)), (10, .t (.bool (((p0.length : Int)) != ((p1.length : Int)))))], [], []⟩ ?_
  refine Wp.cond2 (b := ((p0.length : Int)) != ((p1.length : Int))) kr (fun hc => ?_) (fun hc => ?_)
  · have h := cond_t h hc
    refine Wp.srg [] [] ?_
    refine Runs.alln ?_
    refine Wp.fg ⟨[(0, .t (.sl 3 (p0.map Sent.enc))), (1, .t (.sl 3 (p1.map Sent.enc))), (4, .t (.bool false))], [], []⟩ ?_
    refine Wp.ret ?_
    refine thenR ?_
    have hr := Option.some.inj h
    subst hr
    exact RetK [.t (.bool false)] (.one (.t (.bool false))) [] kr kr (.refl _) .nil
  · have h := cond_f h hc
    refine Wp.skip ?_
    refine thenN ?_
    refine Wp.seqJ (α := Unit) (fun a => ⟨[(4, .t (.bool false))], [], []⟩) (fun a => laws_eqSentS_j1 u = some r) ?_ ?_
    · rintro ⟨⟩ h
      change laws_eqSentS_j1 u = some r at h
      unfold laws_eqSentS_j1 at h
      refine Wp.srg [] [] ?_
      refine Runs.alln ?_
      refine Wp.fg ⟨[(4, .t (.bool true))], [], []⟩ ?_
      refine Wp.ret ?_
      have hr := Option.some.inj h
      subst hr
      exact RetK [.t (.bool true)] (.one (.t (.bool true))) [] kr kr (.refl _) .nil
    · refine Wp.srg [] [] ?_
      refine Runs.alln ?_
      refine Wp.fg ⟨[(0, .t (.sl 3 (p0.map Sent.enc))), (1, .t (.sl 3 (p1.map Sent.enc))), (4, .t (.bool false)), (5, .t (.int .i64 0))], [], []⟩ ?_
      refine Wp.block ?_
      refine Wp.loopF (α := (List Sent) × (List Sent) × Int) (fun a => ⟨[(0, .t (.sl 3 (a.1.map Sent.enc))), (1, .t (.sl 3 (a.2.1.map Sent.enc))), (4, .t (.bool false)), (5, .t (.int .i64 a.2.2))], [], []⟩) (fun k_laws_eqSentS_l2 a => laws_eqSentS_l2 u k_laws_eqSentS_l2 a.1 a.2.1 a.2.2 = some r) ?_ ?_ u (p0, p1, 0) h (Le.of (mo := []) (mr := []) kr kr kr kr)
      · intro a h; unfold laws_eqSentS_l2 at h; cases h
      · rintro k_laws_eqSentS_l2 ⟨p0, p1, x2⟩ h
        change laws_eqSentS_l2 u (k_laws_eqSentS_l2 + 1) p0 p1 x2 = some r at h
        rw [laws_eqSentS_l2] at h
        refine Wp.seq ?_
        refine Wp.srg [] [] ?_
        refine Runs.batch 2 kr ?_
        refine Runs.lenT (y := .t (.sl 3 (p0.map Sent.enc))) (e := 137) Sent.enc p0 3 rfl rfl rfl kr kr kr kr kr ?_
        refine Runs.alln ?_
        refine Wp.fg ⟨[(0, .t (.sl 3 (p0.map Sent.enc))), (1, .t (.sl 3 (p1.map Sent.enc))), (4, .t (.bool false)), (5, .t (.int .i64 x2)), (11, .t (.int .i64 x2)), (12, .t (.sl 3 (p0.map Sent.enc))), (13, .t (.int .i64 ((p0.length : Int)))), (14, .t (.bool (decide (x2 < ((p0.length : Int))))))], [], []⟩ ?_
        refine Wp.cond2 (b := decide (x2 < ((p0.length : Int)))) kr (fun hc => ?_) (fun hc => ?_)
        · have h := cond_t h hc
          refine Wp.skip ?_
          refine thenN ?_
          refine Wp.seq ?_
          refine Wp.block ?_
          refine Wp.seq ?_
          refine Wp.regionA (pOf []) (rhoOf [(0, .frz), (1, .frz), (5, .frz), (17, .frz), (18, .frz), (19, .frz), (20, .frz), (21, .frz), (22, .frz), (23, .frz), (24, .frz), (25, .frz)]) kr kr ?_
          refine Runs.batch 2 kr ?_
          obtain ⟨y4, e_y4, h⟩ := bind_some h
          refine Runs.idxT (e := 137) (kk := .i64) (sz := 3) Sent.enc p0 x2 rfl kr kr kr kr kr kr e_y4 ?_
          refine Runs.batch 3 kr ?_
          obtain ⟨y5, e_y5, h⟩ := bind_some h
          refine Runs.idxT (e := 137) (kk := .i64) (sz := 3) Sent.enc p1 x2 rfl kr kr kr kr kr kr e_y5 ?_
          refine Runs.batch 1 kr ?_
          obtain ⟨r6, e_r6, h⟩ := bind_some h
          refine Runs.callK false 25 110 [] [.agg ((Sent.enc y4).map .t), .agg ((Sent.enc y5).map .t)] [.agg ((Sent.enc y4).map .t), .agg ((Sent.enc y5).map .t)] (.one (.t (.bool r6))) [] rfl rfl kr kr kr kr kr (laws_eqSent_ok u y4 y5 r6 e_r6) kr ?_
          refine Runs.alln ?_
          refine Wp.fg ⟨[(0, .t (.sl 3 (p0.map Sent.enc))), (1, .t (.sl 3 (p1.map Sent.enc))), (4, .t (.bool false)), (5, .t (.int .i64 x2)), (11, .t (.int .i64 x2)), (12, .t (.sl 3 (p0.map Sent.enc))), (13, .t (.int .i64 ((p0.length : Int)))), (14, .t (.bool (decide (x2 < ((p0.length : Int)))))), (17, .t (.sl 3 (p0.map Sent.enc))), (18, .t (.int .i64 x2)), (19, .fadr (Sent.enc y4)), (20, .agg ((Sent.enc y4).map .t)), (21, .t (.sl 3 (p1.map Sent.enc))), (22, .t (.int .i64 x2)), (23, .fadr (Sent.enc y5)), (24, .agg ((Sent.enc y5).map .t)), (25, .t (.bool r6)), (26, .t (.bool (!r6)))], [], []⟩ ?_
          refine Wp.cond2 (b := !r6) kr (fun hc => ?_) (fun hc => ?_)
          · have h := cond_t h hc
            refine Wp.srg [] [] ?_
            refine Runs.alln ?_
            refine Wp.fg ⟨[(0, .t (.sl 3 (p0.map Sent.enc))), (1, .t (.sl 3 (p1.map Sent.enc))), (4, .t (.bool false)), (5, .t (.int .i64 x2)), (11, .t (.int .i64 x2)), (12, .t (.sl 3 (p0.map Sent.enc))), (13, .t (.int .i64 ((p0.length : Int)))), (14, .t (.bool (decide (x2 < ((p0.length : Int)))))), (17, .t (.sl 3 (p0.map Sent.enc))), (18, .t (.int .i64 x2)), (19, .fadr (Sent.enc y4)), (20, .agg ((Sent.enc y4).map .t)), (21, .t (.sl 3 (p1.map Sent.enc))), (22, .t (.int .i64 x2)), (23, .fadr (Sent.enc y5)), (24, .agg ((Sent.enc y5).map .t)), (25, .t (.bool r6)), (26, .t (.bool (!r6)))], [], []⟩ ?_
            refine Wp.ret ?_
            refine blkR ?_
            refine thenR ?_
            refine thenR ?_
            refine blkR ?_
            refine thenR ?_
            have hr := Option.some.inj h
            subst hr
            exact RetK [.t (.bool false)] (.one (.t (.bool false))) [] kr kr (.refl _) .nil
          · have h := cond_f h hc
            refine Wp.skip ?_
            refine blkN ?_
            refine thenN ?_
            refine Wp.rg [] [] ?_
            refine Runs.alln ?_
            exact ⟨(p0, p1, bAdd .i64 x2 1), h, Le.of (mo := []) (mr := []) kr kr kr kr⟩
        · have h := cond_f h hc
          refine Wp.exit ?_
          refine thenE ?_
          refine thenE ?_
          refine blkE ?_
          refine thenN ?_
          exact ⟨(), h, Le.of (mo := []) (mr := []) kr kr kr kr⟩
theorem laws_eqWorld_ok (u : Nat) (p0 : World) (p1 : World) (r : Bool) (h : laws_eqWorld u p0 p1 = some r) : CallOK Tryz.prog 16 [.agg [.t (.int .i64 p0.fC.fSize), .t (.int .i64 p0.fC.fWindow), .t (.int .i64 p0.fC.fSuspect), .t (.int .i64 p0.fC.fForget), .t (.sl 1 (p0.fT.fUp.map (eInt .i64))), .t (.sl 1 (p0.fNew.map (eInt .u8))), .t (.sl 1 (p0.fOld.map Image.enc)), .t (.sl 12 (p0.fN.map Node.enc)), .t (.sl 6 (p0.fD.map Disk.enc)), .t (.sl 3 (p0.fNet.map Packet.enc)), .t (.sl 3 (p0.fLog.map Sent.enc)), .t (.int .i64 p0.fLost)], .agg [.t (.int .i64 p1.fC.fSize), .t (.int .i64 p1.fC.fWindow), .t (.int .i64 p1.fC.fSuspect), .t (.int .i64 p1.fC.fForget), .t (.sl 1 (p1.fT.fUp.map (eInt .i64))), .t (.sl 1 (p1.fNew.map (eInt .u8))), .t (.sl 1 (p1.fOld.map Image.enc)), .t (.sl 12 (p1.fN.map Node.enc)), .t (.sl 6 (p1.fD.map Disk.enc)), .t (.sl 3 (p1.fNet.map Packet.enc)), .t (.sl 3 (p1.fLog.map Sent.enc)), .t (.int .i64 p1.fLost)]] (.one (.t (.bool r))) [] := by
  unfold laws_eqWorld at h
  refine CallOK.of_bodyK (fn := Tryz.f16) (m := false) [.agg ((World.enc p0).map .t), .agg ((World.enc p1).map .t)] kr rfl kr kr kr kr kr ?_
  refine Wp.srg [] [] ?_
  refine Runs.alln ?_
  refine Wp.fg ⟨[(2, .obj 2 0), (3, .obj 3 0), (4, .t (.bool false))], [(2, ((World.enc p0).map .t)), (3, ((World.enc p1).map .t))], []⟩ ?_
  refine Wp.seq ?_
  refine Wp.srg [] [] ?_
  refine Runs.batch 4 kr ?_
  obtain ⟨r1, e_r1, h⟩ := bind_some h
  refine Runs.callK false 9 52 [] [.agg ((Conf.enc p0.fC).map .t), .agg ((Conf.enc p1.fC).map .t)] [.agg ((Conf.enc p0.fC).map .t), .agg ((Conf.enc p1.fC).map .t)] (.one (.t (.bool r1))) [] rfl rfl kr kr kr kr kr (laws_eqConf_ok u p0.fC p1.fC r1 e_r1) kr ?_
  refine Runs.alln ?_
  refine Wp.fg ⟨[(2, .obj 2 0), (3, .obj 3 0), (4, .t (.bool false)), (10, .t (.bool (!r1)))], [(2, ((World.enc p0).map .t)), (3, ((World.enc p1).map .t))], []⟩ ?_
  refine Wp.cond2 (b := !r1) kr (fun hc => ?_) (fun hc => ?_)
  · have h := cond_t h hc
    refine Wp.srg [] [] ?_
    refine Runs.alln ?_
    refine Wp.fg ⟨[(2, .obj 2 0), (3, .obj 3 0), (4, .t (.bool false))], [(2, ((World.enc p0).map .t)), (3, ((World.enc p1).map .t))], []⟩ ?_
    refine Wp.ret ?_
    refine thenR ?_
    have hr := Option.some.inj h
    subst hr
    exact RetK [.t (.bool false)] (.one (.t (.bool false))) [] kr kr (.refl _) .nil
  · have h := cond_f h hc
    refine Wp.skip ?_
    refine thenN ?_
    refine Wp.seq ?_
    refine Wp.srg [] [] ?_
    refine Runs.batch 4 kr ?_
    obtain ⟨r2, e_r2, h⟩ := bind_some h
    refine Runs.callK false 15 53 [] [.agg [.t (.sl 1 (p0.fT.fUp.map (eInt .i64)))], .agg [.t (.sl 1 (p1.fT.fUp.map (eInt .i64)))]] [.agg [.t (.sl 1 (p0.fT.fUp.map (eInt .i64)))], .agg [.t (.sl 1 (p1.fT.fUp.map (eInt .i64)))]] (.one (.t (.bool r2))) [] rfl rfl kr kr kr kr kr (laws_eqTree_ok u p0.fT p1.fT r2 e_r2) kr ?_
    refine Runs.alln ?_
    refine Wp.fg ⟨[(2, .obj 2 0), (3, .obj 3 0), (4, .t (.bool false)), (16, .t (.bool (!r2)))], [(2, ((World.enc p0).map .t)), (3, ((World.enc p1).map .t))], []⟩ ?_
    refine Wp.cond2 (b := !r2) kr (fun hc => ?_) (fun hc => ?_)
    · have h := cond_t h hc
      refine Wp.srg [] [] ?_
      refine Runs.alln ?_
      refine Wp.fg ⟨[(2, .obj 2 0), (3, .obj 3 0), (4, .t (.bool false))], [(2, ((World.enc p0).map .t)), (3, ((World.enc p1).map .t))], []⟩ ?_
      refine Wp.ret ?_
      refine thenR ?_
      have hr := Option.some.inj h
      subst hr
      exact RetK [.t (.bool false)] (.one (.t (.bool false))) [] kr kr (.refl _) .nil
    · have h := cond_f h hc
      refine Wp.skip ?_
      refine thenN ?_
      refine Wp.seq ?_
      refine Wp.srg [] [] ?_
      refine Runs.batch 4 kr ?_
      obtain ⟨r3, e_r3, h⟩ := bind_some h
      refine Runs.callK false 21 54 [] [.t (.sl 1 (p0.fNew.map (eInt .u8))), .t (.sl 1 (p1.fNew.map (eInt .u8)))] [.one (.t (.sl 1 (p0.fNew.map (eInt .u8)))), .one (.t (.sl 1 (p1.fNew.map (eInt .u8))))] (.one (.t (.bool r3))) [] rfl rfl kr kr kr kr kr (laws_eqByteS_ok u p0.fNew p1.fNew r3 e_r3) kr ?_
      refine Runs.alln ?_
      refine Wp.fg ⟨[(2, .obj 2 0), (3, .obj 3 0), (4, .t (.bool false)), (22, .t (.bool (!r3)))], [(2, ((World.enc p0).map .t)), (3, ((World.enc p1).map .t))], []⟩ ?_
      refine Wp.cond2 (b := !r3) kr (fun hc => ?_) (fun hc => ?_)
      · have h := cond_t h hc
        refine Wp.srg [] [] ?_
        refine Runs.alln ?_
        refine Wp.fg ⟨[(2, .obj 2 0), (3, .obj 3 0), (4, .t (.bool false))], [(2, ((World.enc p0).map .t)), (3, ((World.enc p1).map .t))], []⟩ ?_
        refine Wp.ret ?_
        refine thenR ?_
        have hr := Option.some.inj h
        subst hr
        exact RetK [.t (.bool false)] (.one (.t (.bool false))) [] kr kr (.refl _) .nil
      · have h := cond_f h hc
        refine Wp.skip ?_
        refine thenN ?_
        refine Wp.seq ?_
        refine Wp.srg [] [] ?_
        refine Runs.batch 4 kr ?_
        obtain ⟨r4, e_r4, h⟩ := bind_some h
        refine Runs.callK false 27 55 [] [.t (.sl 1 (p0.fOld.map Image.enc)), .t (.sl 1 (p1.fOld.map Image.enc))] [.one (.t (.sl 1 (p0.fOld.map Image.enc))), .one (.t (.sl 1 (p1.fOld.map Image.enc)))] (.one (.t (.bool r4))) [] rfl rfl kr kr kr kr kr (laws_eqImageS_ok u p0.fOld p1.fOld r4 e_r4) kr ?_
        refine Runs.alln ?_
        refine Wp.fg ⟨[(2, .obj 2 0), (3, .obj 3 0), (4, .t (.bool false)), (28, .t (.bool (!r4)))], [(2, ((World.enc p0).map .t)), (3, ((World.enc p1).map .t))], []⟩ ?_
        refine Wp.cond2 (b := !r4) kr (fun hc => ?_) (fun hc => ?_)
        · have h := cond_t h hc
          refine Wp.srg [] [] ?_
          refine Runs.alln ?_
          refine Wp.fg ⟨[(2, .obj 2 0), (3, .obj 3 0), (4, .t (.bool false))], [(2, ((World.enc p0).map .t)), (3, ((World.enc p1).map .t))], []⟩ ?_
          refine Wp.ret ?_
          refine thenR ?_
          have hr := Option.some.inj h
          subst hr
          exact RetK [.t (.bool false)] (.one (.t (.bool false))) [] kr kr (.refl _) .nil
        · have h := cond_f h hc
          refine Wp.skip ?_
          refine thenN ?_
          refine Wp.seq ?_
          refine Wp.srg [] [] ?_
          refine Runs.batch 4 kr ?_
          obtain ⟨r5, e_r5, h⟩ := bind_some h
          refine Runs.callK false 33 56 [] [.t (.sl 12 (p0.fN.map Node.enc)), .t (.sl 12 (p1.fN.map Node.enc))] [.one (.t (.sl 12 (p0.fN.map Node.enc))), .one (.t (.sl 12 (p1.fN.map Node.enc)))] (.one (.t (.bool r5))) [] rfl rfl kr kr kr kr kr (laws_eqNodeS_ok u p0.fN p1.fN r5 e_r5) kr ?_
          refine Runs.alln ?_
          refine Wp.fg ⟨[(2, .obj 2 0), (3, .obj 3 0), (4, .t (.bool false)), (34, .t (.bool (!r5)))], [(2, ((World.enc p0).map .t)), (3, ((World.enc p1).map .t))], []⟩ ?_
          refine Wp.cond2 (b := !r5) kr (fun hc => ?_) (fun hc => ?_)
          · have h := cond_t h hc
            refine Wp.srg [] [] ?_
            refine Runs.alln ?_
            refine Wp.fg ⟨[(2, .obj 2 0), (3, .obj 3 0), (4, .t (.bool false))], [(2, ((World.enc p0).map .t)), (3, ((World.enc p1).map .t))], []⟩ ?_
            refine Wp.ret ?_
            refine thenR ?_
            have hr := Option.some.inj h
            subst hr
            exact RetK [.t (.bool false)] (.one (.t (.bool false))) [] kr kr (.refl _) .nil
          · have h := cond_f h hc
            refine Wp.skip ?_
            refine thenN ?_
            refine Wp.seq ?_
            refine Wp.srg [] [] ?_
            refine Runs.batch 4 kr ?_
            obtain ⟨r6, e_r6, h⟩ := bind_some h
            refine Runs.callK false 39 57 [] [.t (.sl 6 (p0.fD.map Disk.enc)), .t (.sl 6 (p1.fD.map Disk.enc))] [.one (.t (.sl 6 (p0.fD.map Disk.enc))), .one (.t (.sl 6 (p1.fD.map Disk.enc)))] (.one (.t (.bool r6))) [] rfl rfl kr kr kr kr kr (laws_eqDiskS_ok u p0.fD p1.fD r6 e_r6) kr ?_
            refine Runs.alln ?_
            refine Wp.fg ⟨[(2, .obj 2 0), (3, .obj 3 0), (4, .t (.bool false)), (40, .t (.bool (!r6)))], [(2, ((World.enc p0).map .t)), (3, ((World.enc p1).map .t))], []⟩ ?_
            refine Wp.cond2 (b := !r6) kr (fun hc => ?_) (fun hc => ?_)
            · have h := cond_t h hc
              refine Wp.srg [] [] ?_
              refine Runs.alln ?_
              refine Wp.fg ⟨[(2, .obj 2 0), (3, .obj 3 0), (4, .t (.bool false))], [(2, ((World.enc p0).map .t)), (3, ((World.enc p1).map .t))], []⟩ ?_
              refine Wp.ret ?_
              refine thenR ?_
              have hr := Option.some.inj h
              subst hr
              exact RetK [.t (.bool false)] (.one (.t (.bool false))) [] kr kr (.refl _) .nil
            · have h := cond_f h hc
              refine Wp.skip ?_
              refine thenN ?_
              refine Wp.seq ?_
              refine Wp.srg [] [] ?_
              refine Runs.batch 4 kr ?_
              obtain ⟨r7, e_r7, h⟩ := bind_some h
              refine Runs.callK false 45 58 [] [.t (.sl 3 (p0.fNet.map Packet.enc)), .t (.sl 3 (p1.fNet.map Packet.enc))] [.one (.t (.sl 3 (p0.fNet.map Packet.enc))), .one (.t (.sl 3 (p1.fNet.map Packet.enc)))] (.one (.t (.bool r7))) [] rfl rfl kr kr kr kr kr (laws_eqPacketS_ok u p0.fNet p1.fNet r7 e_r7) kr ?_
              refine Runs.alln ?_
              refine Wp.fg ⟨[(2, .obj 2 0), (3, .obj 3 0), (4, .t (.bool false)), (46, .t (.bool (!r7)))], [(2, ((World.enc p0).map .t)), (3, ((World.enc p1).map .t))], []⟩ ?_
              refine Wp.cond2 (b := !r7) kr (fun hc => ?_) (fun hc => ?_)
              · have h := cond_t h hc
                refine Wp.srg [] [] ?_
                refine Runs.alln ?_
                refine Wp.fg ⟨[(2, .obj 2 0), (3, .obj 3 0), (4, .t (.bool false))], [(2, ((World.enc p0).map .t)), (3, ((World.enc p1).map .t))], []⟩ ?_
                refine Wp.ret ?_
                refine thenR ?_
                have hr := Option.some.inj h
                subst hr
                exact RetK [.t (.bool false)] (.one (.t (.bool false))) [] kr kr (.refl _) .nil
              · have h := cond_f h hc
                refine Wp.skip ?_
                refine thenN ?_
                refine Wp.seq ?_
                refine Wp.srg [] [] ?_
                refine Runs.batch 4 kr ?_
                obtain ⟨r8, e_r8, h⟩ := bind_some h
                refine Runs.callK false 51 59 [] [.t (.sl 3 (p0.fLog.map Sent.enc)), .t (.sl 3 (p1.fLog.map Sent.enc))] [.one (.t (.sl 3 (p0.fLog.map Sent.enc))), .one (.t (.sl 3 (p1.fLog.map Sent.enc)))] (.one (.t (.bool r8))) [] rfl rfl kr kr kr kr kr (laws_eqSentS_ok u p0.fLog p1.fLog r8 e_r8) kr ?_
                refine Runs.alln ?_
                refine Wp.fg ⟨[(2, .obj 2 0), (3, .obj 3 0), (4, .t (.bool false)), (52, .t (.bool (!r8)))], [(2, ((World.enc p0).map .t)), (3, ((World.enc p1).map .t))], []⟩ ?_
                refine Wp.cond2 (b := !r8) kr (fun hc => ?_) (fun hc => ?_)
                · have h := cond_t h hc
                  refine Wp.srg [] [] ?_
                  refine Runs.alln ?_
                  refine Wp.fg ⟨[(2, .obj 2 0), (3, .obj 3 0), (4, .t (.bool false))], [(2, ((World.enc p0).map .t)), (3, ((World.enc p1).map .t))], []⟩ ?_
                  refine Wp.ret ?_
                  refine thenR ?_
                  have hr := Option.some.inj h
                  subst hr
                  exact RetK [.t (.bool false)] (.one (.t (.bool false))) [] kr kr (.refl _) .nil
                · have h := cond_f h hc
                  refine Wp.skip ?_
                  refine thenN ?_
                  refine Wp.seq ?_
                  refine Wp.srg [] [] ?_
                  refine Runs.alln ?_
                  refine Wp.fg ⟨[(4, .t (.bool false)), (57, .t (.bool (p0.fLost != p1.fLost)))], [], []⟩ ?_
                  refine Wp.cond2 (b := p0.fLost != p1.fLost) kr (fun hc => ?_) (fun hc => ?_)
                  · have h := cond_t h hc
                    refine Wp.srg [] [] ?_
                    refine Runs.alln ?_
                    refine Wp.fg ⟨[(4, .t (.bool false))], [], []⟩ ?_
                    refine Wp.ret ?_
                    refine thenR ?_
                    have hr := Option.some.inj h
                    subst hr
                    exact RetK [.t (.bool false)] (.one (.t (.bool false))) [] kr kr (.refl _) .nil
                  · have h := cond_f h hc
                    refine Wp.skip ?_
                    refine thenN ?_
                    refine Wp.srg [] [] ?_
                    refine Runs.alln ?_
                    refine Wp.fg ⟨[(4, .t (.bool true))], [], []⟩ ?_
                    refine Wp.ret ?_
                    have hr := Option.some.inj h
                    subst hr
                    exact RetK [.t (.bool true)] (.one (.t (.bool true))) [] kr kr (.refl _) .nil
theorem laws_FnExactComplete_ok (u : Nat) (p0 : World) (r : Bool) (h : laws_FnExactComplete u p0 = some r) : CallOK Tryz.prog 6 [.agg [.t (.int .i64 p0.fC.fSize), .t (.int .i64 p0.fC.fWindow), .t (.int .i64 p0.fC.fSuspect), .t (.int .i64 p0.fC.fForget), .t (.sl 1 (p0.fT.fUp.map (eInt .i64))), .t (.sl 1 (p0.fNew.map (eInt .u8))), .t (.sl 1 (p0.fOld.map Image.enc)), .t (.sl 12 (p0.fN.map Node.enc)), .t (.sl 6 (p0.fD.map Disk.enc)), .t (.sl 3 (p0.fNet.map Packet.enc)), .t (.sl 3 (p0.fLog.map Sent.enc)), .t (.int .i64 p0.fLost)]] (.one (.t (.bool r))) [] := by
  unfold laws_FnExactComplete at h
  refine CallOK.of_bodyK (fn := Tryz.f6) (m := false) [.agg ((World.enc p0).map .t)] kr rfl kr kr kr kr kr ?_
  refine Wp.srg [] [] ?_
  refine Runs.alln ?_
  refine Wp.fg ⟨[(1, .obj 1 0), (2, .t (.bool false))], [(1, ((World.enc p0).map .t))], []⟩ ?_
  refine Wp.srg [] [] ?_
  refine Runs.alln ?_
  refine Wp.fg ⟨[(1, .obj 1 0), (2, .t (.bool false)), (3, .t (.int .i64 1048576))], [(1, ((World.enc p0).map .t))], []⟩ ?_
  refine Wp.srg [] [] ?_
  refine Runs.batch 2 kr ?_
  obtain ⟨r1, e_r1, h⟩ := bind_some h
  refine Runs.callK false 9 12 [] [.agg ((World.enc p0).map .t), .t (.int .i64 1048576)] [.agg ((World.enc p0).map .t), .one (.t (.int .i64 1048576))] (.one (.t (.int .i64 r1))) [] rfl rfl kr kr kr kr kr (laws_szWorld_ok u p0 1048576 r1 e_r1) kr ?_
  refine Runs.alln ?_
  refine Wp.fg ⟨[(1, .obj 1 0), (2, .t (.bool false)), (3, .t (.int .i64 r1))], [(1, ((World.enc p0).map .t))], []⟩ ?_
  refine Wp.seq ?_
  refine Wp.srg [] [] ?_
  refine Runs.alln ?_
  refine Wp.fg ⟨[(1, .obj 1 0), (2, .t (.bool false)), (11, .t (.bool (decide (r1 < 0))))], [(1, ((World.enc p0).map .t))], []⟩ ?_
  refine Wp.cond2 (b := decide (r1 < 0)) kr (fun hc => ?_) (fun hc => ?_)
  · have h := cond_t h hc
    refine Wp.srg [] [] ?_
    refine Runs.alln ?_
    refine Wp.fg ⟨[(1, .obj 1 0), (2, .t (.bool true))], [(1, ((World.enc p0).map .t))], []⟩ ?_
    refine Wp.ret ?_
    refine thenR ?_
    have hr := Option.some.inj h
    subst hr
    exact RetK [.t (.bool true)] (.one (.t (.bool true))) [] kr kr (.refl _) .nil
  · have h := cond_f h hc
    refine Wp.skip ?_
    refine thenN ?_
    refine Wp.srg [] [] ?_
    refine Runs.batch 1 kr ?_
    obtain ⟨r2, e_r2, h⟩ := bind_some h
    refine Runs.callK false 13 14 [] [.agg ((World.enc p0).map .t)] [.agg ((World.enc p0).map .t)] (.agg [.t (.int .i64 r2.fC.fSize), .t (.int .i64 r2.fC.fWindow), .t (.int .i64 r2.fC.fSuspect), .t (.int .i64 r2.fC.fForget), .ow 3 1 (r2.fT.fUp.map (eInt .i64)), .ow 5 1 (r2.fNew.map (eInt .u8)), .ow 89 1 (r2.fOld.map Image.enc), .ow 97 12 (r2.fN.map Node.enc), .ow 87 6 (r2.fD.map Disk.enc), .ow 134 3 (r2.fNet.map Packet.enc), .ow 137 3 (r2.fLog.map Sent.enc), .t (.int .i64 r2.fLost)]) [] rfl rfl kr kr kr kr kr (laws_toWorld_ok u p0 r2 e_r2) kr ?_
    obtain ⟨r3, e_r3, h⟩ := bind_some h
    refine Runs.callBK 14 21 [] [.agg [.t (.int .i64 r2.fC.fSize), .t (.int .i64 r2.fC.fWindow), .t (.int .i64 r2.fC.fSuspect), .t (.int .i64 r2.fC.fForget), .own 851972, .own 851973, .own 851974, .own 851975, .own 851976, .own 851977, .own 851978, .t (.int .i64 r2.fLost)]] [.agg ((World.enc r2).map .t)] (.one (.t (.bool r3))) rfl rfl kr kr kr kr kr (spec_Complete_ok u r2 r3 e_r3) (by simp [V.plain, V.plains, C.plain, T.sc]) kr ?_
    refine Runs.alln ?_
    refine Wp.fg ⟨[(1, .obj 1 0), (2, .t (.bool false)), (4, .t (.bool r3))], [(1, ((World.enc p0).map .t))], []⟩ ?_
    refine Wp.srg [] [] ?_
    refine Runs.batch 1 kr ?_
    obtain ⟨r4, e_r4, h⟩ := bind_some h
    refine Runs.callK false 16 14 [] [.agg ((World.enc p0).map .t)] [.agg ((World.enc p0).map .t)] (.agg [.t (.int .i64 r4.fC.fSize), .t (.int .i64 r4.fC.fWindow), .t (.int .i64 r4.fC.fSuspect), .t (.int .i64 r4.fC.fForget), .ow 3 1 (r4.fT.fUp.map (eInt .i64)), .ow 5 1 (r4.fNew.map (eInt .u8)), .ow 89 1 (r4.fOld.map Image.enc), .ow 97 12 (r4.fN.map Node.enc), .ow 87 6 (r4.fD.map Disk.enc), .ow 134 3 (r4.fNet.map Packet.enc), .ow 137 3 (r4.fLog.map Sent.enc), .t (.int .i64 r4.fLost)]) [] rfl rfl kr kr kr kr kr (laws_toWorld_ok u p0 r4 e_r4) kr ?_
    refine Runs.alln ?_
    refine Wp.fg ⟨[(1, .obj 1 0), (2, .t (.bool false)), (4, .t (.bool r3)), (5, .obj 5 0)], [(1, ((World.enc p0).map .t)), (5, [.t (.int .i64 r4.fC.fSize), .t (.int .i64 r4.fC.fWindow), .t (.int .i64 r4.fC.fSuspect), .t (.int .i64 r4.fC.fForget), .own 1048580, .own 1048581, .own 1048582, .own 1048583, .own 1048584, .own 1048585, .own 1048586, .t (.int .i64 r4.fLost)])], [(1048580, .live 3 1 (r4.fT.fUp.map (eInt .i64))), (1048581, .live 5 1 (r4.fNew.map (eInt .u8))), (1048582, .live 89 1 (r4.fOld.map Image.enc)), (1048583, .live 97 12 (r4.fN.map Node.enc)), (1048584, .live 87 6 (r4.fD.map Disk.enc)), (1048585, .live 134 3 (r4.fNet.map Packet.enc)), (1048586, .live 137 3 (r4.fLog.map Sent.enc))]⟩ ?_
    refine Wp.srg [] [] ?_
    refine Runs.batch 1 kr ?_
    obtain ⟨r5, e_r5, h⟩ := bind_some h
    refine Runs.callBK 18 22 [] [.agg [.t (.int .i64 r4.fC.fSize), .t (.int .i64 r4.fC.fWindow), .t (.int .i64 r4.fC.fSuspect), .t (.int .i64 r4.fC.fForget), .own 1048580, .own 1048581, .own 1048582, .own 1048583, .own 1048584, .own 1048585, .own 1048586, .t (.int .i64 r4.fLost)]] [.agg ((World.enc r4).map .t)] (.one (.t (.bool r5))) rfl rfl kr kr kr kr kr (impl_Complete_ok u r4 r5 e_r5) (by simp [V.plain, V.plains, C.plain, T.sc]) kr ?_
    refine Runs.alln ?_
    refine Wp.fg ⟨[(1, .obj 1 0), (2, .t (.bool false)), (4, .t (.bool r3)), (5, .obj 5 0), (6, .t (.bool r5))], [(1, ((World.enc p0).map .t)), (5, [.t (.int .i64 r4.fC.fSize), .t (.int .i64 r4.fC.fWindow), .t (.int .i64 r4.fC.fSuspect), .t (.int .i64 r4.fC.fForget), .own 1048580, .own 1048581, .own 1048582, .own 1048583, .own 1048584, .own 1048585, .own 1048586, .t (.int .i64 r4.fLost)])], [(1048580, .live 3 1 (r4.fT.fUp.map (eInt .i64))), (1048581, .live 5 1 (r4.fNew.map (eInt .u8))), (1048582, .live 89 1 (r4.fOld.map Image.enc)), (1048583, .live 97 12 (r4.fN.map Node.enc)), (1048584, .live 87 6 (r4.fD.map Disk.enc)), (1048585, .live 134 3 (r4.fNet.map Packet.enc)), (1048586, .live 137 3 (r4.fLog.map Sent.enc))]⟩ ?_
    refine Wp.seq ?_
    refine Wp.srg [] [] ?_
    refine Runs.alln ?_
    refine Wp.fg ⟨[(1, .obj 1 0), (2, .t (.bool false)), (5, .obj 5 0), (21, .t (.bool (!(r5 == r3))))], [(1, ((World.enc p0).map .t)), (5, [.t (.int .i64 r4.fC.fSize), .t (.int .i64 r4.fC.fWindow), .t (.int .i64 r4.fC.fSuspect), .t (.int .i64 r4.fC.fForget), .own 1048580, .own 1048581, .own 1048582, .own 1048583, .own 1048584, .own 1048585, .own 1048586, .t (.int .i64 r4.fLost)])], [(1048580, .live 3 1 (r4.fT.fUp.map (eInt .i64))), (1048581, .live 5 1 (r4.fNew.map (eInt .u8))), (1048582, .live 89 1 (r4.fOld.map Image.enc)), (1048583, .live 97 12 (r4.fN.map Node.enc)), (1048584, .live 87 6 (r4.fD.map Disk.enc)), (1048585, .live 134 3 (r4.fNet.map Packet.enc)), (1048586, .live 137 3 (r4.fLog.map Sent.enc))]⟩ ?_
    refine Wp.cond2 (b := !(r5 == r3)) kr (fun hc => ?_) (fun hc => ?_)
    · have h := cond_t h hc
      refine Wp.srg [] [] ?_
      refine Runs.alln ?_
      refine Wp.fg ⟨[(1, .obj 1 0), (2, .t (.bool false)), (5, .obj 5 0)], [(1, ((World.enc p0).map .t)), (5, [.t (.int .i64 r4.fC.fSize), .t (.int .i64 r4.fC.fWindow), .t (.int .i64 r4.fC.fSuspect), .t (.int .i64 r4.fC.fForget), .own 1048580, .own 1048581, .own 1048582, .own 1048583, .own 1048584, .own 1048585, .own 1048586, .t (.int .i64 r4.fLost)])], [(1048580, .live 3 1 (r4.fT.fUp.map (eInt .i64))), (1048581, .live 5 1 (r4.fNew.map (eInt .u8))), (1048582, .live 89 1 (r4.fOld.map Image.enc)), (1048583, .live 97 12 (r4.fN.map Node.enc)), (1048584, .live 87 6 (r4.fD.map Disk.enc)), (1048585, .live 134 3 (r4.fNet.map Packet.enc)), (1048586, .live 137 3 (r4.fLog.map Sent.enc))]⟩ ?_
      refine Wp.ret ?_
      refine thenR ?_
      have hr := Option.some.inj h
      subst hr
      exact RetK [.t (.bool false)] (.one (.t (.bool false))) [] kr kr (.refl _) .nil
    · have h := cond_f h hc
      refine Wp.skip ?_
      refine thenN ?_
      refine Wp.seq ?_
      refine Wp.seq ?_
      refine Wp.le (Le.trans (Le.frzO 5 4 1048580 3 1 [.t (.int .i64 r4.fC.fSize), .t (.int .i64 r4.fC.fWindow), .t (.int .i64 r4.fC.fSuspect), .t (.int .i64 r4.fC.fForget), .own 1048580, .own 1048581, .own 1048582, .own 1048583, .own 1048584, .own 1048585, .own 1048586, .t (.int .i64 r4.fLost)] (r4.fT.fUp.map (eInt .i64)) kr kr kr) (Le.trans (Le.frzO 5 5 1048581 5 1 [.t (.int .i64 r4.fC.fSize), .t (.int .i64 r4.fC.fWindow), .t (.int .i64 r4.fC.fSuspect), .t (.int .i64 r4.fC.fForget), .t (.sl 1 (r4.fT.fUp.map (eInt .i64))), .own 1048581, .own 1048582, .own 1048583, .own 1048584, .own 1048585, .own 1048586, .t (.int .i64 r4.fLost)] (r4.fNew.map (eInt .u8)) kr kr kr) (Le.trans (Le.frzO 5 6 1048582 89 1 [.t (.int .i64 r4.fC.fSize), .t (.int .i64 r4.fC.fWindow), .t (.int .i64 r4.fC.fSuspect), .t (.int .i64 r4.fC.fForget), .t (.sl 1 (r4.fT.fUp.map (eInt .i64))), .t (.sl 1 (r4.fNew.map (eInt .u8))), .own 1048582, .own 1048583, .own 1048584, .own 1048585, .own 1048586, .t (.int .i64 r4.fLost)] (r4.fOld.map Image.enc) kr kr kr) (Le.trans (Le.frzO 5 7 1048583 97 12 [.t (.int .i64 r4.fC.fSize), .t (.int .i64 r4.fC.fWindow), .t (.int .i64 r4.fC.fSuspect), .t (.int .i64 r4.fC.fForget), .t (.sl 1 (r4.fT.fUp.map (eInt .i64))), .t (.sl 1 (r4.fNew.map (eInt .u8))), .t (.sl 1 (r4.fOld.map Image.enc)), .own 1048583, .own 1048584, .own 1048585, .own 1048586, .t (.int .i64 r4.fLost)] (r4.fN.map Node.enc) kr kr kr) (Le.trans (Le.frzO 5 8 1048584 87 6 [.t (.int .i64 r4.fC.fSize), .t (.int .i64 r4.fC.fWindow), .t (.int .i64 r4.fC.fSuspect), .t (.int .i64 r4.fC.fForget), .t (.sl 1 (r4.fT.fUp.map (eInt .i64))), .t (.sl 1 (r4.fNew.map (eInt .u8))), .t (.sl 1 (r4.fOld.map Image.enc)), .t (.sl 12 (r4.fN.map Node.enc)), .own 1048584, .own 1048585, .own 1048586, .t (.int .i64 r4.fLost)] (r4.fD.map Disk.enc) kr kr kr) (Le.trans (Le.frzO 5 9 1048585 134 3 [.t (.int .i64 r4.fC.fSize), .t (.int .i64 r4.fC.fWindow), .t (.int .i64 r4.fC.fSuspect), .t (.int .i64 r4.fC.fForget), .t (.sl 1 (r4.fT.fUp.map (eInt .i64))), .t (.sl 1 (r4.fNew.map (eInt .u8))), .t (.sl 1 (r4.fOld.map Image.enc)), .t (.sl 12 (r4.fN.map Node.enc)), .t (.sl 6 (r4.fD.map Disk.enc)), .own 1048585, .own 1048586, .t (.int .i64 r4.fLost)] (r4.fNet.map Packet.enc) kr kr kr) (Le.trans (Le.frzO 5 10 1048586 137 3 [.t (.int .i64 r4.fC.fSize), .t (.int .i64 r4.fC.fWindow), .t (.int .i64 r4.fC.fSuspect), .t (.int .i64 r4.fC.fForget), .t (.sl 1 (r4.fT.fUp.map (eInt .i64))), .t (.sl 1 (r4.fNew.map (eInt .u8))), .t (.sl 1 (r4.fOld.map Image.enc)), .t (.sl 12 (r4.fN.map Node.enc)), .t (.sl 6 (r4.fD.map Disk.enc)), .t (.sl 3 (r4.fNet.map Packet.enc)), .own 1048586, .t (.int .i64 r4.fLost)] (r4.fLog.map Sent.enc) kr kr kr) (Le.of (s := ⟨[(1, .obj 1 0), (2, .t (.bool false)), (5, .obj 5 0)], [(1, ((World.enc p0).map .t)), (5, ((World.enc r4).map .t))], []⟩) (mo := []) (mr := []) kr kr kr kr)))))))) ?_
      refine Wp.regionA (pOf []) (rhoOf [(1, .obj 1), (5, .obj 5), (22, .frz), (23, .frz), (25, .frz)]) kr kr ?_
      refine Runs.batch 2 kr ?_
      obtain ⟨r6, e_r6, h⟩ := bind_some h
      refine Runs.callK false 24 14 [] [.agg ((World.enc p0).map .t)] [.agg ((World.enc p0).map .t)] (.agg [.t (.int .i64 r6.fC.fSize), .t (.int .i64 r6.fC.fWindow), .t (.int .i64 r6.fC.fSuspect), .t (.int .i64 r6.fC.fForget), .ow 3 1 (r6.fT.fUp.map (eInt .i64)), .ow 5 1 (r6.fNew.map (eInt .u8)), .ow 89 1 (r6.fOld.map Image.enc), .ow 97 12 (r6.fN.map Node.enc), .ow 87 6 (r6.fD.map Disk.enc), .ow 134 3 (r6.fNet.map Packet.enc), .ow 137 3 (r6.fLog.map Sent.enc), .t (.int .i64 r6.fLost)]) [] rfl rfl kr kr kr kr kr (laws_toWorld_ok u p0 r6 e_r6) kr ?_
      obtain ⟨r7, e_r7, h⟩ := bind_some h
      refine Runs.callBK 25 16 [] [.agg ((World.enc r4).map .t), .agg [.t (.int .i64 r6.fC.fSize), .t (.int .i64 r6.fC.fWindow), .t (.int .i64 r6.fC.fSuspect), .t (.int .i64 r6.fC.fForget), .own 1572868, .own 1572869, .own 1572870, .own 1572871, .own 1572872, .own 1572873, .own 1572874, .t (.int .i64 r6.fLost)]] [.agg ((World.enc r4).map .t), .agg ((World.enc r6).map .t)] (.one (.t (.bool r7))) rfl rfl kr kr kr kr kr (laws_eqWorld_ok u r4 r6 r7 e_r7) (by simp [V.plain, V.plains, C.plain, T.sc]) kr ?_
      refine Runs.alln ?_
      refine Wp.fg ⟨[(2, .t (.bool false)), (26, .t (.bool (!r7)))], [], []⟩ ?_
      refine Wp.cond2 (b := !r7) kr (fun hc => ?_) (fun hc => ?_)
      · have h := cond_t h hc
        refine Wp.srg [] [] ?_
        refine Runs.alln ?_
        refine Wp.fg ⟨[(2, .t (.bool false))], [], []⟩ ?_
        refine Wp.ret ?_
        refine thenR ?_
        have hr := Option.some.inj h
        subst hr
        exact RetK [.t (.bool false)] (.one (.t (.bool false))) [] kr kr (.refl _) .nil
      · have h := cond_f h hc
        refine Wp.skip ?_
        refine thenN ?_
        refine Wp.srg [] [] ?_
        refine Runs.alln ?_
        refine Wp.fg ⟨[(2, .t (.bool true))], [], []⟩ ?_
        refine Wp.ret ?_
        have hr := Option.some.inj h
        subst hr
        exact RetK [.t (.bool true)] (.one (.t (.bool true))) [] kr kr (.refl _) .nil
end Go.Tm
