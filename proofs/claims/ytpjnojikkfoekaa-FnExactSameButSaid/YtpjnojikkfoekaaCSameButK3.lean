/- The functions as they are translated do what the pure functions say (printed). -/
import Derived.Test.YtpjnojikkfoekaaCSameButK2
import Derived.Test.YtpjnojikkfoekaaTm40
import Derived.Test.YtpjnojikkfoekaaProg
set_option maxRecDepth 100000
set_option linter.unusedVariables false
set_option linter.unusedSimpArgs false
namespace Go.Tm
open Go.Proofs
theorem laws_FnExactSameBut_ok (u : Nat) (p0 : World) (p1 : World) (r : Bool) (h : laws_FnExactSameBut u p0 p1 = some r) : CallOK Try.prog 12 [.agg [.t (.int .i64 p0.fC.fSize), .t (.int .i64 p0.fC.fWindow), .t (.int .i64 p0.fC.fSuspect), .t (.int .i64 p0.fC.fForget), .t (.sl 1 (p0.fT.fUp.map (eInt .i64))), .t (.sl 1 (p0.fNew.map (eInt .u8))), .t (.sl 1 (p0.fOld.map Image.enc)), .t (.sl 12 (p0.fN.map Node.enc)), .t (.sl 6 (p0.fD.map Disk.enc)), .t (.sl 3 (p0.fNet.map Packet.enc)), .t (.sl 3 (p0.fLog.map Sent.enc)), .t (.int .i64 p0.fLost)], .agg [.t (.int .i64 p1.fC.fSize), .t (.int .i64 p1.fC.fWindow), .t (.int .i64 p1.fC.fSuspect), .t (.int .i64 p1.fC.fForget), .t (.sl 1 (p1.fT.fUp.map (eInt .i64))), .t (.sl 1 (p1.fNew.map (eInt .u8))), .t (.sl 1 (p1.fOld.map Image.enc)), .t (.sl 12 (p1.fN.map Node.enc)), .t (.sl 6 (p1.fD.map Disk.enc)), .t (.sl 3 (p1.fNet.map Packet.enc)), .t (.sl 3 (p1.fLog.map Sent.enc)), .t (.int .i64 p1.fLost)]] (.one (.t (.bool r))) [] := by
  unfold laws_FnExactSameBut at h
  refine CallOK.of_bodyK (fn := Try.f12) (m := false) [.agg ((World.enc p0).map .t), .agg ((World.enc p1).map .t)] kr rfl kr kr kr kr kr ?_
  refine Wp.srg [] [] ?_
  refine Runs.alln ?_
  refine Wp.fg ⟨[(2, .obj 2 0), (3, .obj 3 0), (4, .t (.bool false))], [(2, ((World.enc p0).map .t)), (3, ((World.enc p1).map .t))], []⟩ ?_
  refine Wp.srg [] [] ?_
  refine Runs.alln ?_
  refine Wp.fg ⟨[(2, .obj 2 0), (3, .obj 3 0), (4, .t (.bool false)), (5, .t (.int .i64 1048576))], [(2, ((World.enc p0).map .t)), (3, ((World.enc p1).map .t))], []⟩ ?_
  refine Wp.srg [] [] ?_
  refine Runs.batch 2 kr ?_
  obtain ⟨r1, e_r1, h⟩ := bind_some h
  refine Runs.callK false 12 24 [] [.agg ((World.enc p0).map .t), .t (.int .i64 1048576)] [.agg ((World.enc p0).map .t), .one (.t (.int .i64 1048576))] (.one (.t (.int .i64 r1))) [] rfl rfl kr kr kr kr kr (laws_szWorld_ok u p0 1048576 r1 e_r1) kr ?_
  refine Runs.alln ?_
  refine Wp.fg ⟨[(2, .obj 2 0), (3, .obj 3 0), (4, .t (.bool false)), (5, .t (.int .i64 r1))], [(2, ((World.enc p0).map .t)), (3, ((World.enc p1).map .t))], []⟩ ?_
  refine Wp.seq ?_
  refine Wp.srg [] [] ?_
  refine Runs.alln ?_
  refine Wp.fg ⟨[(2, .obj 2 0), (3, .obj 3 0), (4, .t (.bool false)), (5, .t (.int .i64 r1)), (14, .t (.bool (decide (r1 < 0))))], [(2, ((World.enc p0).map .t)), (3, ((World.enc p1).map .t))], []⟩ ?_
  refine Wp.cond2 (b := decide (r1 < 0)) kr (fun hc => ?_) (fun hc => ?_)
  · have h := cond_t h hc
    refine Wp.srg [] [] ?_
    refine Runs.alln ?_
    refine Wp.fg ⟨[(2, .obj 2 0), (3, .obj 3 0), (4, .t (.bool true)), (5, .t (.int .i64 r1))], [(2, ((World.enc p0).map .t)), (3, ((World.enc p1).map .t))], []⟩ ?_
    refine Wp.ret ?_
    refine thenR ?_
    have hr := Option.some.inj h
    subst hr
    exact RetK [.t (.bool true)] (.one (.t (.bool true))) [] kr kr (.refl _) .nil
  · have h := cond_f h hc
    refine Wp.skip ?_
    refine thenN ?_
    refine Wp.srg [] [] ?_
    refine Runs.batch 2 kr ?_
    obtain ⟨r2, e_r2, h⟩ := bind_some h
    refine Runs.callK false 17 24 [] [.agg ((World.enc p1).map .t), .t (.int .i64 r1)] [.agg ((World.enc p1).map .t), .one (.t (.int .i64 r1))] (.one (.t (.int .i64 r2))) [] rfl rfl kr kr kr kr kr (laws_szWorld_ok u p1 r1 r2 e_r2) kr ?_
    refine Runs.alln ?_
    refine Wp.fg ⟨[(2, .obj 2 0), (3, .obj 3 0), (4, .t (.bool false)), (5, .t (.int .i64 r2))], [(2, ((World.enc p0).map .t)), (3, ((World.enc p1).map .t))], []⟩ ?_
    refine Wp.seq ?_
    refine Wp.srg [] [] ?_
    refine Runs.alln ?_
    refine Wp.fg ⟨[(2, .obj 2 0), (3, .obj 3 0), (4, .t (.bool false)), (19, .t (.bool (decide (r2 < 0))))], [(2, ((World.enc p0).map .t)), (3, ((World.enc p1).map .t))], []⟩ ?_
    refine Wp.cond2 (b := decide (r2 < 0)) kr (fun hc => ?_) (fun hc => ?_)
    · have h := cond_t h hc
      refine Wp.srg [] [] ?_
      refine Runs.alln ?_
      refine Wp.fg ⟨[(2, .obj 2 0), (3, .obj 3 0), (4, .t (.bool true))], [(2, ((World.enc p0).map .t)), (3, ((World.enc p1).map .t))], []⟩ ?_
      refine Wp.ret ?_
      refine thenR ?_
      have hr := Option.some.inj h
      subst hr
      exact RetK [.t (.bool true)] (.one (.t (.bool true))) [] kr kr (.refl _) .nil
    · have h := cond_f h hc
      refine Wp.skip ?_
      refine thenN ?_
      refine Wp.seq ?_
      refine Wp.regionA (pOf []) (rhoOf [(2, .obj 2), (3, .obj 3), (20, .frz), (22, .frz), (24, .frz)]) kr kr ?_
      refine Runs.batch 1 kr ?_
      obtain ⟨r3, e_r3, h⟩ := bind_some h
      refine Runs.callK false 21 26 [] [.agg ((World.enc p0).map .t)] [.agg ((World.enc p0).map .t)] (.agg [.t (.int .i64 r3.fC.fSize), .t (.int .i64 r3.fC.fWindow), .t (.int .i64 r3.fC.fSuspect), .t (.int .i64 r3.fC.fForget), .ow 3 1 (r3.fT.fUp.map (eInt .i64)), .ow 5 1 (r3.fNew.map (eInt .u8)), .ow 67 1 (r3.fOld.map Image.enc), .ow 114 12 (r3.fN.map Node.enc), .ow 109 6 (r3.fD.map Disk.enc), .ow 146 3 (r3.fNet.map Packet.enc), .ow 99 3 (r3.fLog.map Sent.enc), .t (.int .i64 r3.fLost)]) [] rfl rfl kr kr kr kr kr (laws_toWorld_ok u p0 r3 e_r3) kr ?_
      refine Runs.batch 1 kr ?_
      obtain ⟨r4, e_r4, h⟩ := bind_some h
      refine Runs.callK false 23 26 [] [.agg ((World.enc p1).map .t)] [.agg ((World.enc p1).map .t)] (.agg [.t (.int .i64 r4.fC.fSize), .t (.int .i64 r4.fC.fWindow), .t (.int .i64 r4.fC.fSuspect), .t (.int .i64 r4.fC.fForget), .ow 3 1 (r4.fT.fUp.map (eInt .i64)), .ow 5 1 (r4.fNew.map (eInt .u8)), .ow 67 1 (r4.fOld.map Image.enc), .ow 114 12 (r4.fN.map Node.enc), .ow 109 6 (r4.fD.map Disk.enc), .ow 146 3 (r4.fNet.map Packet.enc), .ow 99 3 (r4.fLog.map Sent.enc), .t (.int .i64 r4.fLost)]) [] rfl rfl kr kr kr kr kr (laws_toWorld_ok u p1 r4 e_r4) kr ?_
      obtain ⟨r5, e_r5, h⟩ := bind_some h
      refine Runs.callBK 24 39 [] [.agg [.t (.int .i64 r3.fC.fSize), .t (.int .i64 r3.fC.fWindow), .t (.int .i64 r3.fC.fSuspect), .t (.int .i64 r3.fC.fForget), .own 1376260, .own 1376261, .own 1376262, .own 1376263, .own 1376264, .own 1376265, .own 1376266, .t (.int .i64 r3.fLost)], .agg [.t (.int .i64 r4.fC.fSize), .t (.int .i64 r4.fC.fWindow), .t (.int .i64 r4.fC.fSuspect), .t (.int .i64 r4.fC.fForget), .own 1507332, .own 1507333, .own 1507334, .own 1507335, .own 1507336, .own 1507337, .own 1507338, .t (.int .i64 r4.fLost)]] [.agg ((World.enc r3).map .t), .agg ((World.enc r4).map .t)] (.one (.t (.bool r5))) rfl rfl kr kr kr kr kr (spec_SameBut_ok u r3 r4 r5 e_r5) (by simp [V.plain, V.plains, C.plain, T.sc]) kr ?_
      refine Runs.alln ?_
      refine Wp.fg ⟨[(2, .obj 2 0), (3, .obj 3 0), (4, .t (.bool false)), (6, .t (.bool r5))], [(2, ((World.enc p0).map .t)), (3, ((World.enc p1).map .t))], []⟩ ?_
      refine Wp.srg [] [] ?_
      refine Runs.batch 1 kr ?_
      obtain ⟨r6, e_r6, h⟩ := bind_some h
      refine Runs.callK false 26 26 [] [.agg ((World.enc p0).map .t)] [.agg ((World.enc p0).map .t)] (.agg [.t (.int .i64 r6.fC.fSize), .t (.int .i64 r6.fC.fWindow), .t (.int .i64 r6.fC.fSuspect), .t (.int .i64 r6.fC.fForget), .ow 3 1 (r6.fT.fUp.map (eInt .i64)), .ow 5 1 (r6.fNew.map (eInt .u8)), .ow 67 1 (r6.fOld.map Image.enc), .ow 114 12 (r6.fN.map Node.enc), .ow 109 6 (r6.fD.map Disk.enc), .ow 146 3 (r6.fNet.map Packet.enc), .ow 99 3 (r6.fLog.map Sent.enc), .t (.int .i64 r6.fLost)]) [] rfl rfl kr kr kr kr kr (laws_toWorld_ok u p0 r6 e_r6) kr ?_
      refine Runs.alln ?_
      refine Wp.fg ⟨[(2, .obj 2 0), (3, .obj 3 0), (4, .t (.bool false)), (6, .t (.bool r5)), (7, .obj 7 0)], [(2, ((World.enc p0).map .t)), (3, ((World.enc p1).map .t)), (7, [.t (.int .i64 r6.fC.fSize), .t (.int .i64 r6.fC.fWindow), .t (.int .i64 r6.fC.fSuspect), .t (.int .i64 r6.fC.fForget), .own 1703940, .own 1703941, .own 1703942, .own 1703943, .own 1703944, .own 1703945, .own 1703946, .t (.int .i64 r6.fLost)])], [(1703940, .live 3 1 (r6.fT.fUp.map (eInt .i64))), (1703941, .live 5 1 (r6.fNew.map (eInt .u8))), (1703942, .live 67 1 (r6.fOld.map Image.enc)), (1703943, .live 114 12 (r6.fN.map Node.enc)), (1703944, .live 109 6 (r6.fD.map Disk.enc)), (1703945, .live 146 3 (r6.fNet.map Packet.enc)), (1703946, .live 99 3 (r6.fLog.map Sent.enc))]⟩ ?_
      refine Wp.srg [] [] ?_
      refine Runs.batch 1 kr ?_
      obtain ⟨r7, e_r7, h⟩ := bind_some h
      refine Runs.callK false 28 26 [] [.agg ((World.enc p1).map .t)] [.agg ((World.enc p1).map .t)] (.agg [.t (.int .i64 r7.fC.fSize), .t (.int .i64 r7.fC.fWindow), .t (.int .i64 r7.fC.fSuspect), .t (.int .i64 r7.fC.fForget), .ow 3 1 (r7.fT.fUp.map (eInt .i64)), .ow 5 1 (r7.fNew.map (eInt .u8)), .ow 67 1 (r7.fOld.map Image.enc), .ow 114 12 (r7.fN.map Node.enc), .ow 109 6 (r7.fD.map Disk.enc), .ow 146 3 (r7.fNet.map Packet.enc), .ow 99 3 (r7.fLog.map Sent.enc), .t (.int .i64 r7.fLost)]) [] rfl rfl kr kr kr kr kr (laws_toWorld_ok u p1 r7 e_r7) kr ?_
      refine Runs.alln ?_
      refine Wp.fg ⟨[(2, .obj 2 0), (3, .obj 3 0), (4, .t (.bool false)), (6, .t (.bool r5)), (7, .obj 7 0), (8, .obj 8 0)], [(2, ((World.enc p0).map .t)), (3, ((World.enc p1).map .t)), (7, [.t (.int .i64 r6.fC.fSize), .t (.int .i64 r6.fC.fWindow), .t (.int .i64 r6.fC.fSuspect), .t (.int .i64 r6.fC.fForget), .own 1703940, .own 1703941, .own 1703942, .own 1703943, .own 1703944, .own 1703945, .own 1703946, .t (.int .i64 r6.fLost)]), (8, [.t (.int .i64 r7.fC.fSize), .t (.int .i64 r7.fC.fWindow), .t (.int .i64 r7.fC.fSuspect), .t (.int .i64 r7.fC.fForget), .own 1835012, .own 1835013, .own 1835014, .own 1835015, .own 1835016, .own 1835017, .own 1835018, .t (.int .i64 r7.fLost)])], [(1703940, .live 3 1 (r6.fT.fUp.map (eInt .i64))), (1703941, .live 5 1 (r6.fNew.map (eInt .u8))), (1703942, .live 67 1 (r6.fOld.map Image.enc)), (1703943, .live 114 12 (r6.fN.map Node.enc)), (1703944, .live 109 6 (r6.fD.map Disk.enc)), (1703945, .live 146 3 (r6.fNet.map Packet.enc)), (1703946, .live 99 3 (r6.fLog.map Sent.enc)), (1835012, .live 3 1 (r7.fT.fUp.map (eInt .i64))), (1835013, .live 5 1 (r7.fNew.map (eInt .u8))), (1835014, .live 67 1 (r7.fOld.map Image.enc)), (1835015, .live 114 12 (r7.fN.map Node.enc)), (1835016, .live 109 6 (r7.fD.map Disk.enc)), (1835017, .live 146 3 (r7.fNet.map Packet.enc)), (1835018, .live 99 3 (r7.fLog.map Sent.enc))]⟩ ?_
      refine Wp.srg [] [] ?_
      refine Runs.batch 2 kr ?_
      obtain ⟨r8, e_r8, h⟩ := bind_some h
      refine Runs.callBK 31 40 [] [.agg [.t (.int .i64 r6.fC.fSize), .t (.int .i64 r6.fC.fWindow), .t (.int .i64 r6.fC.fSuspect), .t (.int .i64 r6.fC.fForget), .own 1703940, .own 1703941, .own 1703942, .own 1703943, .own 1703944, .own 1703945, .own 1703946, .t (.int .i64 r6.fLost)], .agg [.t (.int .i64 r7.fC.fSize), .t (.int .i64 r7.fC.fWindow), .t (.int .i64 r7.fC.fSuspect), .t (.int .i64 r7.fC.fForget), .own 1835012, .own 1835013, .own 1835014, .own 1835015, .own 1835016, .own 1835017, .own 1835018, .t (.int .i64 r7.fLost)]] [.agg ((World.enc r6).map .t), .agg ((World.enc r7).map .t)] (.one (.t (.bool r8))) rfl rfl kr kr kr kr kr (impl_SameBut_ok u r6 r7 r8 e_r8) (by simp [V.plain, V.plains, C.plain, T.sc]) kr ?_
      refine Runs.alln ?_
      refine Wp.fg ⟨[(2, .obj 2 0), (3, .obj 3 0), (4, .t (.bool false)), (6, .t (.bool r5)), (7, .obj 7 0), (8, .obj 8 0), (9, .t (.bool r8))], [(2, ((World.enc p0).map .t)), (3, ((World.enc p1).map .t)), (7, [.t (.int .i64 r6.fC.fSize), .t (.int .i64 r6.fC.fWindow), .t (.int .i64 r6.fC.fSuspect), .t (.int .i64 r6.fC.fForget), .own 1703940, .own 1703941, .own 1703942, .own 1703943, .own 1703944, .own 1703945, .own 1703946, .t (.int .i64 r6.fLost)]), (8, [.t (.int .i64 r7.fC.fSize), .t (.int .i64 r7.fC.fWindow), .t (.int .i64 r7.fC.fSuspect), .t (.int .i64 r7.fC.fForget), .own 1835012, .own 1835013, .own 1835014, .own 1835015, .own 1835016, .own 1835017, .own 1835018, .t (.int .i64 r7.fLost)])], [(1703940, .live 3 1 (r6.fT.fUp.map (eInt .i64))), (1703941, .live 5 1 (r6.fNew.map (eInt .u8))), (1703942, .live 67 1 (r6.fOld.map Image.enc)), (1703943, .live 114 12 (r6.fN.map Node.enc)), (1703944, .live 109 6 (r6.fD.map Disk.enc)), (1703945, .live 146 3 (r6.fNet.map Packet.enc)), (1703946, .live 99 3 (r6.fLog.map Sent.enc)), (1835012, .live 3 1 (r7.fT.fUp.map (eInt .i64))), (1835013, .live 5 1 (r7.fNew.map (eInt .u8))), (1835014, .live 67 1 (r7.fOld.map Image.enc)), (1835015, .live 114 12 (r7.fN.map Node.enc)), (1835016, .live 109 6 (r7.fD.map Disk.enc)), (1835017, .live 146 3 (r7.fNet.map Packet.enc)), (1835018, .live 99 3 (r7.fLog.map Sent.enc))]⟩ ?_
      refine Wp.seq ?_
      refine Wp.srg [] [] ?_
      refine Runs.alln ?_
      refine Wp.fg ⟨[(2, .obj 2 0), (3, .obj 3 0), (4, .t (.bool false)), (7, .obj 7 0), (8, .obj 8 0), (34, .t (.bool (!(r8 == r5))))], [(2, ((World.enc p0).map .t)), (3, ((World.enc p1).map .t)), (7, [.t (.int .i64 r6.fC.fSize), .t (.int .i64 r6.fC.fWindow), .t (.int .i64 r6.fC.fSuspect), .t (.int .i64 r6.fC.fForget), .own 1703940, .own 1703941, .own 1703942, .own 1703943, .own 1703944, .own 1703945, .own 1703946, .t (.int .i64 r6.fLost)]), (8, [.t (.int .i64 r7.fC.fSize), .t (.int .i64 r7.fC.fWindow), .t (.int .i64 r7.fC.fSuspect), .t (.int .i64 r7.fC.fForget), .own 1835012, .own 1835013, .own 1835014, .own 1835015, .own 1835016, .own 1835017, .own 1835018, .t (.int .i64 r7.fLost)])], [(1703940, .live 3 1 (r6.fT.fUp.map (eInt .i64))), (1703941, .live 5 1 (r6.fNew.map (eInt .u8))), (1703942, .live 67 1 (r6.fOld.map Image.enc)), (1703943, .live 114 12 (r6.fN.map Node.enc)), (1703944, .live 109 6 (r6.fD.map Disk.enc)), (1703945, .live 146 3 (r6.fNet.map Packet.enc)), (1703946, .live 99 3 (r6.fLog.map Sent.enc)), (1835012, .live 3 1 (r7.fT.fUp.map (eInt .i64))), (1835013, .live 5 1 (r7.fNew.map (eInt .u8))), (1835014, .live 67 1 (r7.fOld.map Image.enc)), (1835015, .live 114 12 (r7.fN.map Node.enc)), (1835016, .live 109 6 (r7.fD.map Disk.enc)), (1835017, .live 146 3 (r7.fNet.map Packet.enc)), (1835018, .live 99 3 (r7.fLog.map Sent.enc))]⟩ ?_
      refine Wp.cond2 (b := !(r8 == r5)) kr (fun hc => ?_) (fun hc => ?_)
      · have h := cond_t h hc
        refine Wp.srg [] [] ?_
        refine Runs.alln ?_
        refine Wp.fg ⟨[(2, .obj 2 0), (3, .obj 3 0), (4, .t (.bool false)), (7, .obj 7 0), (8, .obj 8 0)], [(2, ((World.enc p0).map .t)), (3, ((World.enc p1).map .t)), (7, [.t (.int .i64 r6.fC.fSize), .t (.int .i64 r6.fC.fWindow), .t (.int .i64 r6.fC.fSuspect), .t (.int .i64 r6.fC.fForget), .own 1703940, .own 1703941, .own 1703942, .own 1703943, .own 1703944, .own 1703945, .own 1703946, .t (.int .i64 r6.fLost)]), (8, [.t (.int .i64 r7.fC.fSize), .t (.int .i64 r7.fC.fWindow), .t (.int .i64 r7.fC.fSuspect), .t (.int .i64 r7.fC.fForget), .own 1835012, .own 1835013, .own 1835014, .own 1835015, .own 1835016, .own 1835017, .own 1835018, .t (.int .i64 r7.fLost)])], [(1703940, .live 3 1 (r6.fT.fUp.map (eInt .i64))), (1703941, .live 5 1 (r6.fNew.map (eInt .u8))), (1703942, .live 67 1 (r6.fOld.map Image.enc)), (1703943, .live 114 12 (r6.fN.map Node.enc)), (1703944, .live 109 6 (r6.fD.map Disk.enc)), (1703945, .live 146 3 (r6.fNet.map Packet.enc)), (1703946, .live 99 3 (r6.fLog.map Sent.enc)), (1835012, .live 3 1 (r7.fT.fUp.map (eInt .i64))), (1835013, .live 5 1 (r7.fNew.map (eInt .u8))), (1835014, .live 67 1 (r7.fOld.map Image.enc)), (1835015, .live 114 12 (r7.fN.map Node.enc)), (1835016, .live 109 6 (r7.fD.map Disk.enc)), (1835017, .live 146 3 (r7.fNet.map Packet.enc)), (1835018, .live 99 3 (r7.fLog.map Sent.enc))]⟩ ?_
        refine Wp.ret ?_
        refine thenR ?_
        have hr := Option.some.inj h
        subst hr
        exact RetK [.t (.bool false)] (.one (.t (.bool false))) [] kr kr (.refl _) .nil
      · have h := cond_f h hc
        refine Wp.skip ?_
        refine thenN ?_
        refine Wp.seq ?_
        refine Wp.seq ?_
        refine Wp.le (Le.trans (Le.frzO 7 4 1703940 3 1 [.t (.int .i64 r6.fC.fSize), .t (.int .i64 r6.fC.fWindow), .t (.int .i64 r6.fC.fSuspect), .t (.int .i64 r6.fC.fForget), .own 1703940, .own 1703941, .own 1703942, .own 1703943, .own 1703944, .own 1703945, .own 1703946, .t (.int .i64 r6.fLost)] (r6.fT.fUp.map (eInt .i64)) kr kr kr) (Le.trans (Le.frzO 7 5 1703941 5 1 [.t (.int .i64 r6.fC.fSize), .t (.int .i64 r6.fC.fWindow), .t (.int .i64 r6.fC.fSuspect), .t (.int .i64 r6.fC.fForget), .t (.sl 1 (r6.fT.fUp.map (eInt .i64))), .own 1703941, .own 1703942, .own 1703943, .own 1703944, .own 1703945, .own 1703946, .t (.int .i64 r6.fLost)] (r6.fNew.map (eInt .u8)) kr kr kr) (Le.trans (Le.frzO 7 6 1703942 67 1 [.t (.int .i64 r6.fC.fSize), .t (.int .i64 r6.fC.fWindow), .t (.int .i64 r6.fC.fSuspect), .t (.int .i64 r6.fC.fForget), .t (.sl 1 (r6.fT.fUp.map (eInt .i64))), .t (.sl 1 (r6.fNew.map (eInt .u8))), .own 1703942, .own 1703943, .own 1703944, .own 1703945, .own 1703946, .t (.int .i64 r6.fLost)] (r6.fOld.map Image.enc) kr kr kr) (Le.trans (Le.frzO 7 7 1703943 114 12 [.t (.int .i64 r6.fC.fSize), .t (.int .i64 r6.fC.fWindow), .t (.int .i64 r6.fC.fSuspect), .t (.int .i64 r6.fC.fForget), .t (.sl 1 (r6.fT.fUp.map (eInt .i64))), .t (.sl 1 (r6.fNew.map (eInt .u8))), .t (.sl 1 (r6.fOld.map Image.enc)), .own 1703943, .own 1703944, .own 1703945, .own 1703946, .t (.int .i64 r6.fLost)] (r6.fN.map Node.enc) kr kr kr) (Le.trans (Le.frzO 7 8 1703944 109 6 [.t (.int .i64 r6.fC.fSize), .t (.int .i64 r6.fC.fWindow), .t (.int .i64 r6.fC.fSuspect), .t (.int .i64 r6.fC.fForget), .t (.sl 1 (r6.fT.fUp.map (eInt .i64))), .t (.sl 1 (r6.fNew.map (eInt .u8))), .t (.sl 1 (r6.fOld.map Image.enc)), .t (.sl 12 (r6.fN.map Node.enc)), .own 1703944, .own 1703945, .own 1703946, .t (.int .i64 r6.fLost)] (r6.fD.map Disk.enc) kr kr kr) (Le.trans (Le.frzO 7 9 1703945 146 3 [.t (.int .i64 r6.fC.fSize), .t (.int .i64 r6.fC.fWindow), .t (.int .i64 r6.fC.fSuspect), .t (.int .i64 r6.fC.fForget), .t (.sl 1 (r6.fT.fUp.map (eInt .i64))), .t (.sl 1 (r6.fNew.map (eInt .u8))), .t (.sl 1 (r6.fOld.map Image.enc)), .t (.sl 12 (r6.fN.map Node.enc)), .t (.sl 6 (r6.fD.map Disk.enc)), .own 1703945, .own 1703946, .t (.int .i64 r6.fLost)] (r6.fNet.map Packet.enc) kr kr kr) (Le.trans (Le.frzO 7 10 1703946 99 3 [.t (.int .i64 r6.fC.fSize), .t (.int .i64 r6.fC.fWindow), .t (.int .i64 r6.fC.fSuspect), .t (.int .i64 r6.fC.fForget), .t (.sl 1 (r6.fT.fUp.map (eInt .i64))), .t (.sl 1 (r6.fNew.map (eInt .u8))), .t (.sl 1 (r6.fOld.map Image.enc)), .t (.sl 12 (r6.fN.map Node.enc)), .t (.sl 6 (r6.fD.map Disk.enc)), .t (.sl 3 (r6.fNet.map Packet.enc)), .own 1703946, .t (.int .i64 r6.fLost)] (r6.fLog.map Sent.enc) kr kr kr) (Le.of (s := ⟨[(2, .obj 2 0), (3, .obj 3 0), (4, .t (.bool false)), (7, .obj 7 0), (8, .obj 8 0)], [(2, ((World.enc p0).map .t)), (3, ((World.enc p1).map .t)), (7, ((World.enc r6).map .t)), (8, [.t (.int .i64 r7.fC.fSize), .t (.int .i64 r7.fC.fWindow), .t (.int .i64 r7.fC.fSuspect), .t (.int .i64 r7.fC.fForget), .own 1835012, .own 1835013, .own 1835014, .own 1835015, .own 1835016, .own 1835017, .own 1835018, .t (.int .i64 r7.fLost)])], [(1835012, .live 3 1 (r7.fT.fUp.map (eInt .i64))), (1835013, .live 5 1 (r7.fNew.map (eInt .u8))), (1835014, .live 67 1 (r7.fOld.map Image.enc)), (1835015, .live 114 12 (r7.fN.map Node.enc)), (1835016, .live 109 6 (r7.fD.map Disk.enc)), (1835017, .live 146 3 (r7.fNet.map Packet.enc)), (1835018, .live 99 3 (r7.fLog.map Sent.enc))]⟩) (mo := []) (mr := []) kr kr kr kr)))))))) ?_
        refine Wp.regionA (pOf []) (rhoOf [(2, .obj 2), (7, .obj 7), (35, .frz), (36, .frz), (38, .frz)]) kr kr ?_
        refine Runs.batch 2 kr ?_
        obtain ⟨r9, e_r9, h⟩ := bind_some h
        refine Runs.callK false 37 26 [] [.agg ((World.enc p0).map .t)] [.agg ((World.enc p0).map .t)] (.agg [.t (.int .i64 r9.fC.fSize), .t (.int .i64 r9.fC.fWindow), .t (.int .i64 r9.fC.fSuspect), .t (.int .i64 r9.fC.fForget), .ow 3 1 (r9.fT.fUp.map (eInt .i64)), .ow 5 1 (r9.fNew.map (eInt .u8)), .ow 67 1 (r9.fOld.map Image.enc), .ow 114 12 (r9.fN.map Node.enc), .ow 109 6 (r9.fD.map Disk.enc), .ow 146 3 (r9.fNet.map Packet.enc), .ow 99 3 (r9.fLog.map Sent.enc), .t (.int .i64 r9.fLost)]) [] rfl rfl kr kr kr kr kr (laws_toWorld_ok u p0 r9 e_r9) kr ?_
        obtain ⟨r10, e_r10, h⟩ := bind_some h
        refine Runs.callBK 38 28 [] [.agg ((World.enc r6).map .t), .agg [.t (.int .i64 r9.fC.fSize), .t (.int .i64 r9.fC.fWindow), .t (.int .i64 r9.fC.fSuspect), .t (.int .i64 r9.fC.fForget), .own 2424836, .own 2424837, .own 2424838, .own 2424839, .own 2424840, .own 2424841, .own 2424842, .t (.int .i64 r9.fLost)]] [.agg ((World.enc r6).map .t), .agg ((World.enc r9).map .t)] (.one (.t (.bool r10))) rfl rfl kr kr kr kr kr (laws_eqWorld_ok u r6 r9 r10 e_r10) (by simp [V.plain, V.plains, C.plain, T.sc]) kr ?_
        refine Runs.alln ?_
        refine Wp.fg ⟨[(3, .obj 3 0), (4, .t (.bool false)), (8, .obj 8 0), (39, .t (.bool (!r10)))], [(3, ((World.enc p1).map .t)), (8, [.t (.int .i64 r7.fC.fSize), .t (.int .i64 r7.fC.fWindow), .t (.int .i64 r7.fC.fSuspect), .t (.int .i64 r7.fC.fForget), .own 1835012, .own 1835013, .own 1835014, .own 1835015, .own 1835016, .own 1835017, .own 1835018, .t (.int .i64 r7.fLost)])], [(1835012, .live 3 1 (r7.fT.fUp.map (eInt .i64))), (1835013, .live 5 1 (r7.fNew.map (eInt .u8))), (1835014, .live 67 1 (r7.fOld.map Image.enc)), (1835015, .live 114 12 (r7.fN.map Node.enc)), (1835016, .live 109 6 (r7.fD.map Disk.enc)), (1835017, .live 146 3 (r7.fNet.map Packet.enc)), (1835018, .live 99 3 (r7.fLog.map Sent.enc))]⟩ ?_
        refine Wp.cond2 (b := !r10) kr (fun hc => ?_) (fun hc => ?_)
        · have h := cond_t h hc
          refine Wp.srg [] [] ?_
          refine Runs.alln ?_
          refine Wp.fg ⟨[(3, .obj 3 0), (4, .t (.bool false)), (8, .obj 8 0)], [(3, ((World.enc p1).map .t)), (8, [.t (.int .i64 r7.fC.fSize), .t (.int .i64 r7.fC.fWindow), .t (.int .i64 r7.fC.fSuspect), .t (.int .i64 r7.fC.fForget), .own 1835012, .own 1835013, .own 1835014, .own 1835015, .own 1835016, .own 1835017, .own 1835018, .t (.int .i64 r7.fLost)])], [(1835012, .live 3 1 (r7.fT.fUp.map (eInt .i64))), (1835013, .live 5 1 (r7.fNew.map (eInt .u8))), (1835014, .live 67 1 (r7.fOld.map Image.enc)), (1835015, .live 114 12 (r7.fN.map Node.enc)), (1835016, .live 109 6 (r7.fD.map Disk.enc)), (1835017, .live 146 3 (r7.fNet.map Packet.enc)), (1835018, .live 99 3 (r7.fLog.map Sent.enc))]⟩ ?_
          refine Wp.ret ?_
          refine thenR ?_
          have hr := Option.some.inj h
          subst hr
          exact RetK [.t (.bool false)] (.one (.t (.bool false))) [] kr kr (.refl _) .nil
        · have h := cond_f h hc
          refine Wp.skip ?_
          refine thenN ?_
          refine Wp.seq ?_
          refine Wp.seq ?_
          refine Wp.le (Le.trans (Le.frzO 8 4 1835012 3 1 [.t (.int .i64 r7.fC.fSize), .t (.int .i64 r7.fC.fWindow), .t (.int .i64 r7.fC.fSuspect), .t (.int .i64 r7.fC.fForget), .own 1835012, .own 1835013, .own 1835014, .own 1835015, .own 1835016, .own 1835017, .own 1835018, .t (.int .i64 r7.fLost)] (r7.fT.fUp.map (eInt .i64)) kr kr kr) (Le.trans (Le.frzO 8 5 1835013 5 1 [.t (.int .i64 r7.fC.fSize), .t (.int .i64 r7.fC.fWindow), .t (.int .i64 r7.fC.fSuspect), .t (.int .i64 r7.fC.fForget), .t (.sl 1 (r7.fT.fUp.map (eInt .i64))), .own 1835013, .own 1835014, .own 1835015, .own 1835016, .own 1835017, .own 1835018, .t (.int .i64 r7.fLost)] (r7.fNew.map (eInt .u8)) kr kr kr) (Le.trans (Le.frzO 8 6 1835014 67 1 [.t (.int .i64 r7.fC.fSize), .t (.int .i64 r7.fC.fWindow), .t (.int .i64 r7.fC.fSuspect), .t (.int .i64 r7.fC.fForget), .t (.sl 1 (r7.fT.fUp.map (eInt .i64))), .t (.sl 1 (r7.fNew.map (eInt .u8))), .own 1835014, .own 1835015, .own 1835016, .own 1835017, .own 1835018, .t (.int .i64 r7.fLost)] (r7.fOld.map Image.enc) kr kr kr) (Le.trans (Le.frzO 8 7 1835015 114 12 [.t (.int .i64 r7.fC.fSize), .t (.int .i64 r7.fC.fWindow), .t (.int .i64 r7.fC.fSuspect), .t (.int .i64 r7.fC.fForget), .t (.sl 1 (r7.fT.fUp.map (eInt .i64))), .t (.sl 1 (r7.fNew.map (eInt .u8))), .t (.sl 1 (r7.fOld.map Image.enc)), .own 1835015, .own 1835016, .own 1835017, .own 1835018, .t (.int .i64 r7.fLost)] (r7.fN.map Node.enc) kr kr kr) (Le.trans (Le.frzO 8 8 1835016 109 6 [.t (.int .i64 r7.fC.fSize), .t (.int .i64 r7.fC.fWindow), .t (.int .i64 r7.fC.fSuspect), .t (.int .i64 r7.fC.fForget), .t (.sl 1 (r7.fT.fUp.map (eInt .i64))), .t (.sl 1 (r7.fNew.map (eInt .u8))), .t (.sl 1 (r7.fOld.map Image.enc)), .t (.sl 12 (r7.fN.map Node.enc)), .own 1835016, .own 1835017, .own 1835018, .t (.int .i64 r7.fLost)] (r7.fD.map Disk.enc) kr kr kr) (Le.trans (Le.frzO 8 9 1835017 146 3 [.t (.int .i64 r7.fC.fSize), .t (.int .i64 r7.fC.fWindow), .t (.int .i64 r7.fC.fSuspect), .t (.int .i64 r7.fC.fForget), .t (.sl 1 (r7.fT.fUp.map (eInt .i64))), .t (.sl 1 (r7.fNew.map (eInt .u8))), .t (.sl 1 (r7.fOld.map Image.enc)), .t (.sl 12 (r7.fN.map Node.enc)), .t (.sl 6 (r7.fD.map Disk.enc)), .own 1835017, .own 1835018, .t (.int .i64 r7.fLost)] (r7.fNet.map Packet.enc) kr kr kr) (Le.trans (Le.frzO 8 10 1835018 99 3 [.t (.int .i64 r7.fC.fSize), .t (.int .i64 r7.fC.fWindow), .t (.int .i64 r7.fC.fSuspect), .t (.int .i64 r7.fC.fForget), .t (.sl 1 (r7.fT.fUp.map (eInt .i64))), .t (.sl 1 (r7.fNew.map (eInt .u8))), .t (.sl 1 (r7.fOld.map Image.enc)), .t (.sl 12 (r7.fN.map Node.enc)), .t (.sl 6 (r7.fD.map Disk.enc)), .t (.sl 3 (r7.fNet.map Packet.enc)), .own 1835018, .t (.int .i64 r7.fLost)] (r7.fLog.map Sent.enc) kr kr kr) (Le.of (s := ⟨[(3, .obj 3 0), (4, .t (.bool false)), (8, .obj 8 0)], [(3, ((World.enc p1).map .t)), (8, ((World.enc r7).map .t))], []⟩) (mo := []) (mr := []) kr kr kr kr)))))))) ?_
          refine Wp.regionA (pOf []) (rhoOf [(3, .obj 3), (8, .obj 8), (40, .frz), (41, .frz), (43, .frz)]) kr kr ?_
          refine Runs.batch 2 kr ?_
          obtain ⟨r11, e_r11, h⟩ := bind_some h
          refine Runs.callK false 42 26 [] [.agg ((World.enc p1).map .t)] [.agg ((World.enc p1).map .t)] (.agg [.t (.int .i64 r11.fC.fSize), .t (.int .i64 r11.fC.fWindow), .t (.int .i64 r11.fC.fSuspect), .t (.int .i64 r11.fC.fForget), .ow 3 1 (r11.fT.fUp.map (eInt .i64)), .ow 5 1 (r11.fNew.map (eInt .u8)), .ow 67 1 (r11.fOld.map Image.enc), .ow 114 12 (r11.fN.map Node.enc), .ow 109 6 (r11.fD.map Disk.enc), .ow 146 3 (r11.fNet.map Packet.enc), .ow 99 3 (r11.fLog.map Sent.enc), .t (.int .i64 r11.fLost)]) [] rfl rfl kr kr kr kr kr (laws_toWorld_ok u p1 r11 e_r11) kr ?_
          obtain ⟨r12, e_r12, h⟩ := bind_some h
          refine Runs.callBK 43 28 [] [.agg ((World.enc r7).map .t), .agg [.t (.int .i64 r11.fC.fSize), .t (.int .i64 r11.fC.fWindow), .t (.int .i64 r11.fC.fSuspect), .t (.int .i64 r11.fC.fForget), .own 2752516, .own 2752517, .own 2752518, .own 2752519, .own 2752520, .own 2752521, .own 2752522, .t (.int .i64 r11.fLost)]] [.agg ((World.enc r7).map .t), .agg ((World.enc r11).map .t)] (.one (.t (.bool r12))) rfl rfl kr kr kr kr kr (laws_eqWorld_ok u r7 r11 r12 e_r12) (by simp [V.plain, V.plains, C.plain, T.sc]) kr ?_
          refine Runs.alln ?_
          refine Wp.fg ⟨[(4, .t (.bool false)), (44, .t (.bool (!r12)))], [], []⟩ ?_
          refine Wp.cond2 (b := !r12) kr (fun hc => ?_) (fun hc => ?_)
          · have h := cond_t h hc
            refine Wp.srg [] [] ?_
            refine Runs.alln ?_
            refine Wp.fg ⟨[(4, .t (.bool false))], [], []⟩ ?_
            refine Wp.ret ?_
            refine thenR ?_
            have hr := Option.some.inj h
            subst hr
            exact RetK [.t (.bool false)] (.one (.t (.bool false))) [] kr kr (.refl _) .nil
          · have h := cond_f h hc
            refine Wp.skip ?_
            refine thenN ?_
            refine Wp.srg [] [] ?_
            refine Runs.alln ?_
            refine Wp.fg ⟨[(4, .t (.bool true))], [], []⟩ ?_
            refine Wp.ret ?_
            have hr := Option.some.inj h
            subst hr
            exact RetK [.t (.bool true)] (.one (.t (.bool true))) [] kr kr (.refl _) .nil
end Go.Tm
