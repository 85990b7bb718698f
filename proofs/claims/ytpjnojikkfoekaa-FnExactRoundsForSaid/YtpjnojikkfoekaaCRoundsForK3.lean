/- The functions as they are translated do what the pure functions say (printed). -/
import Derived.Test.YtpjnojikkfoekaaCRoundsForK2
import Derived.Test.YtpjnojikkfoekaaTm38
import Derived.Test.YtpjnojikkfoekaaProg
set_option maxRecDepth 100000
set_option linter.unusedVariables false
set_option linter.unusedSimpArgs false
namespace Go.Tm
open Go.Proofs
theorem laws_eqWorld_ok (u : Nat) (p0 : World) (p1 : World) (r : Bool) (h : laws_eqWorld u p0 p1 = some r) : CallOK Try.prog 28 [.agg [.t (.int .i64 p0.fC.fSize), .t (.int .i64 p0.fC.fWindow), .t (.int .i64 p0.fC.fSuspect), .t (.int .i64 p0.fC.fForget), .t (.sl 1 (p0.fT.fUp.map (eInt .i64))), .t (.sl 1 (p0.fNew.map (eInt .u8))), .t (.sl 1 (p0.fOld.map Image.enc)), .t (.sl 12 (p0.fN.map Node.enc)), .t (.sl 6 (p0.fD.map Disk.enc)), .t (.sl 3 (p0.fNet.map Packet.enc)), .t (.sl 3 (p0.fLog.map Sent.enc)), .t (.int .i64 p0.fLost)], .agg [.t (.int .i64 p1.fC.fSize), .t (.int .i64 p1.fC.fWindow), .t (.int .i64 p1.fC.fSuspect), .t (.int .i64 p1.fC.fForget), .t (.sl 1 (p1.fT.fUp.map (eInt .i64))), .t (.sl 1 (p1.fNew.map (eInt .u8))), .t (.sl 1 (p1.fOld.map Image.enc)), .t (.sl 12 (p1.fN.map Node.enc)), .t (.sl 6 (p1.fD.map Disk.enc)), .t (.sl 3 (p1.fNet.map Packet.enc)), .t (.sl 3 (p1.fLog.map Sent.enc)), .t (.int .i64 p1.fLost)]] (.one (.t (.bool r))) [] := by
  unfold laws_eqWorld at h
  refine CallOK.of_bodyK (fn := Try.f28) (m := false) [.agg [.t (.int .i64 p0.fC.fSize), .t (.int .i64 p0.fC.fWindow), .t (.int .i64 p0.fC.fSuspect), .t (.int .i64 p0.fC.fForget), .t (.sl 1 (p0.fT.fUp.map (eInt .i64))), .t (.sl 1 (p0.fNew.map (eInt .u8))), .t (.sl 1 (p0.fOld.map Image.enc)), .t (.sl 12 (p0.fN.map Node.enc)), .t (.sl 6 (p0.fD.map Disk.enc)), .t (.sl 3 (p0.fNet.map Packet.enc)), .t (.sl 3 (p0.fLog.map Sent.enc)), .t (.int .i64 p0.fLost)], .agg [.t (.int .i64 p1.fC.fSize), .t (.int .i64 p1.fC.fWindow), .t (.int .i64 p1.fC.fSuspect), .t (.int .i64 p1.fC.fForget), .t (.sl 1 (p1.fT.fUp.map (eInt .i64))), .t (.sl 1 (p1.fNew.map (eInt .u8))), .t (.sl 1 (p1.fOld.map Image.enc)), .t (.sl 12 (p1.fN.map Node.enc)), .t (.sl 6 (p1.fD.map Disk.enc)), .t (.sl 3 (p1.fNet.map Packet.enc)), .t (.sl 3 (p1.fLog.map Sent.enc)), .t (.int .i64 p1.fLost)]] (by kernel_rfl) rfl (by kernel_rfl) (by kernel_rfl) (by kernel_rfl) (by kernel_rfl) (by kernel_rfl) ?_
  refine Wp.seq ?_
  refine Wp.regionS (pOf []) (rhoOf []) (by kernel_rfl) ?_
  refine Runs.all (by kernel_rfl) ?_
  refine thenN ?_
  refine Wp.le (Le.of (s := ⟨[(2, .obj 2 0), (3, .obj 3 0), (4, .t (.bool false))], [(2, [.t (.int .i64 p0.fC.fSize), .t (.int .i64 p0.fC.fWindow), .t (.int .i64 p0.fC.fSuspect), .t (.int .i64 p0.fC.fForget), .t (.sl 1 (p0.fT.fUp.map (eInt .i64))), .t (.sl 1 (p0.fNew.map (eInt .u8))), .t (.sl 1 (p0.fOld.map Image.enc)), .t (.sl 12 (p0.fN.map Node.enc)), .t (.sl 6 (p0.fD.map Disk.enc)), .t (.sl 3 (p0.fNet.map Packet.enc)), .t (.sl 3 (p0.fLog.map Sent.enc)), .t (.int .i64 p0.fLost)]), (3, [.t (.int .i64 p1.fC.fSize), .t (.int .i64 p1.fC.fWindow), .t (.int .i64 p1.fC.fSuspect), .t (.int .i64 p1.fC.fForget), .t (.sl 1 (p1.fT.fUp.map (eInt .i64))), .t (.sl 1 (p1.fNew.map (eInt .u8))), .t (.sl 1 (p1.fOld.map Image.enc)), .t (.sl 12 (p1.fN.map Node.enc)), .t (.sl 6 (p1.fD.map Disk.enc)), .t (.sl 3 (p1.fNet.map Packet.enc)), .t (.sl 3 (p1.fLog.map Sent.enc)), .t (.int .i64 p1.fLost)])], []⟩) (mo := []) (mr := []) (by kernel_rfl) (by kernel_rfl) (by kernel_rfl) (by kernel_rfl)) ?_
  refine Wp.seq ?_
  refine Wp.seq ?_
  refine Wp.regionS (pOf []) (rhoOf []) (by kernel_rfl) ?_
  refine Runs.batch 4 (by kernel_rfl) ?_
  obtain ⟨r1, e_r1, h⟩ := bind_some h
  refine Runs.callK false 9 65 [] [.agg [.t (.int .i64 p0.fC.fSize), .t (.int .i64 p0.fC.fWindow), .t (.int .i64 p0.fC.fSuspect), .t (.int .i64 p0.fC.fForget)], .agg [.t (.int .i64 p1.fC.fSize), .t (.int .i64 p1.fC.fWindow), .t (.int .i64 p1.fC.fSuspect), .t (.int .i64 p1.fC.fForget)]] [.agg [.t (.int .i64 p0.fC.fSize), .t (.int .i64 p0.fC.fWindow), .t (.int .i64 p0.fC.fSuspect), .t (.int .i64 p0.fC.fForget)], .agg [.t (.int .i64 p1.fC.fSize), .t (.int .i64 p1.fC.fWindow), .t (.int .i64 p1.fC.fSuspect), .t (.int .i64 p1.fC.fForget)]] (.one (.t (.bool r1))) [] rfl rfl (by kernel_rfl) (by kernel_rfl) (by kernel_rfl) (by kernel_rfl) (by kernel_rfl) (laws_eqConf_ok u p0.fC p1.fC r1 e_r1) (by kernel_rfl) ?_
  refine Runs.all (by kernel_rfl) ?_
  refine thenN ?_
  refine Wp.le (Le.of (s := ⟨[(2, .obj 2 0), (3, .obj 3 0), (4, .t (.bool false)), (10, .t (.bool (!r1)))], [(2, [.t (.int .i64 p0.fC.fSize), .t (.int .i64 p0.fC.fWindow), .t (.int .i64 p0.fC.fSuspect), .t (.int .i64 p0.fC.fForget), .t (.sl 1 (p0.fT.fUp.map (eInt .i64))), .t (.sl 1 (p0.fNew.map (eInt .u8))), .t (.sl 1 (p0.fOld.map Image.enc)), .t (.sl 12 (p0.fN.map Node.enc)), .t (.sl 6 (p0.fD.map Disk.enc)), .t (.sl 3 (p0.fNet.map Packet.enc)), .t (.sl 3 (p0.fLog.map Sent.enc)), .t (.int .i64 p0.fLost)]), (3, [.t (.int .i64 p1.fC.fSize), .t (.int .i64 p1.fC.fWindow), .t (.int .i64 p1.fC.fSuspect), .t (.int .i64 p1.fC.fForget), .t (.sl 1 (p1.fT.fUp.map (eInt .i64))), .t (.sl 1 (p1.fNew.map (eInt .u8))), .t (.sl 1 (p1.fOld.map Image.enc)), .t (.sl 12 (p1.fN.map Node.enc)), .t (.sl 6 (p1.fD.map Disk.enc)), .t (.sl 3 (p1.fNet.map Packet.enc)), .t (.sl 3 (p1.fLog.map Sent.enc)), .t (.int .i64 p1.fLost)])], []⟩) (mo := []) (mr := []) (by kernel_rfl) (by kernel_rfl) (by kernel_rfl) (by kernel_rfl)) ?_
  refine Wp.cond2 (b := !r1) (by kernel_rfl) (fun hc => ?_) (fun hc => ?_)
  · have h := cond_t h hc
    refine Wp.seq ?_
    refine Wp.regionS (pOf []) (rhoOf []) (by kernel_rfl) ?_
    refine Runs.all (by kernel_rfl) ?_
    refine thenN ?_
    refine Wp.le (Le.of (s := ⟨[(2, .obj 2 0), (3, .obj 3 0), (4, .t (.bool false))], [(2, [.t (.int .i64 p0.fC.fSize), .t (.int .i64 p0.fC.fWindow), .t (.int .i64 p0.fC.fSuspect), .t (.int .i64 p0.fC.fForget), .t (.sl 1 (p0.fT.fUp.map (eInt .i64))), .t (.sl 1 (p0.fNew.map (eInt .u8))), .t (.sl 1 (p0.fOld.map Image.enc)), .t (.sl 12 (p0.fN.map Node.enc)), .t (.sl 6 (p0.fD.map Disk.enc)), .t (.sl 3 (p0.fNet.map Packet.enc)), .t (.sl 3 (p0.fLog.map Sent.enc)), .t (.int .i64 p0.fLost)]), (3, [.t (.int .i64 p1.fC.fSize), .t (.int .i64 p1.fC.fWindow), .t (.int .i64 p1.fC.fSuspect), .t (.int .i64 p1.fC.fForget), .t (.sl 1 (p1.fT.fUp.map (eInt .i64))), .t (.sl 1 (p1.fNew.map (eInt .u8))), .t (.sl 1 (p1.fOld.map Image.enc)), .t (.sl 12 (p1.fN.map Node.enc)), .t (.sl 6 (p1.fD.map Disk.enc)), .t (.sl 3 (p1.fNet.map Packet.enc)), .t (.sl 3 (p1.fLog.map Sent.enc)), .t (.int .i64 p1.fLost)])], []⟩) (mo := []) (mr := []) (by kernel_rfl) (by kernel_rfl) (by kernel_rfl) (by kernel_rfl)) ?_
    refine Wp.ret ?_
    refine thenR ?_
    have hr := Option.some.inj h
    subst hr
    exact RetK [.t (.bool false)] (.one (.t (.bool false))) [] (by kernel_rfl) (by kernel_rfl) (.refl _) .nil
  · have h := cond_f h hc
    refine Wp.skip ?_
    refine thenN ?_
    refine Wp.seq ?_
    refine Wp.seq ?_
    refine Wp.regionS (pOf []) (rhoOf []) (by kernel_rfl) ?_
    refine Runs.batch 4 (by kernel_rfl) ?_
    obtain ⟨r2, e_r2, h⟩ := bind_some h
    refine Runs.callK false 15 66 [] [.agg [.t (.sl 1 (p0.fT.fUp.map (eInt .i64)))], .agg [.t (.sl 1 (p1.fT.fUp.map (eInt .i64)))]] [.agg [.t (.sl 1 (p0.fT.fUp.map (eInt .i64)))], .agg [.t (.sl 1 (p1.fT.fUp.map (eInt .i64)))]] (.one (.t (.bool r2))) [] rfl rfl (by kernel_rfl) (by kernel_rfl) (by kernel_rfl) (by kernel_rfl) (by kernel_rfl) (laws_eqTree_ok u p0.fT p1.fT r2 e_r2) (by kernel_rfl) ?_
    refine Runs.all (by kernel_rfl) ?_
    refine thenN ?_
    refine Wp.le (Le.of (s := ⟨[(2, .obj 2 0), (3, .obj 3 0), (4, .t (.bool false)), (16, .t (.bool (!r2)))], [(2, [.t (.int .i64 p0.fC.fSize), .t (.int .i64 p0.fC.fWindow), .t (.int .i64 p0.fC.fSuspect), .t (.int .i64 p0.fC.fForget), .t (.sl 1 (p0.fT.fUp.map (eInt .i64))), .t (.sl 1 (p0.fNew.map (eInt .u8))), .t (.sl 1 (p0.fOld.map Image.enc)), .t (.sl 12 (p0.fN.map Node.enc)), .t (.sl 6 (p0.fD.map Disk.enc)), .t (.sl 3 (p0.fNet.map Packet.enc)), .t (.sl 3 (p0.fLog.map Sent.enc)), .t (.int .i64 p0.fLost)]), (3, [.t (.int .i64 p1.fC.fSize), .t (.int .i64 p1.fC.fWindow), .t (.int .i64 p1.fC.fSuspect), .t (.int .i64 p1.fC.fForget), .t (.sl 1 (p1.fT.fUp.map (eInt .i64))), .t (.sl 1 (p1.fNew.map (eInt .u8))), .t (.sl 1 (p1.fOld.map Image.enc)), .t (.sl 12 (p1.fN.map Node.enc)), .t (.sl 6 (p1.fD.map Disk.enc)), .t (.sl 3 (p1.fNet.map Packet.enc)), .t (.sl 3 (p1.fLog.map Sent.enc)), .t (.int .i64 p1.fLost)])], []⟩) (mo := []) (mr := []) (by kernel_rfl) (by kernel_rfl) (by kernel_rfl) (by kernel_rfl)) ?_
    refine Wp.cond2 (b := !r2) (by kernel_rfl) (fun hc => ?_) (fun hc => ?_)
    · have h := cond_t h hc
      refine Wp.seq ?_
      refine Wp.regionS (pOf []) (rhoOf []) (by kernel_rfl) ?_
      refine Runs.all (by kernel_rfl) ?_
      refine thenN ?_
      refine Wp.le (Le.of (s := ⟨[(2, .obj 2 0), (3, .obj 3 0), (4, .t (.bool false))], [(2, [.t (.int .i64 p0.fC.fSize), .t (.int .i64 p0.fC.fWindow), .t (.int .i64 p0.fC.fSuspect), .t (.int .i64 p0.fC.fForget), .t (.sl 1 (p0.fT.fUp.map (eInt .i64))), .t (.sl 1 (p0.fNew.map (eInt .u8))), .t (.sl 1 (p0.fOld.map Image.enc)), .t (.sl 12 (p0.fN.map Node.enc)), .t (.sl 6 (p0.fD.map Disk.enc)), .t (.sl 3 (p0.fNet.map Packet.enc)), .t (.sl 3 (p0.fLog.map Sent.enc)), .t (.int .i64 p0.fLost)]), (3, [.t (.int .i64 p1.fC.fSize), .t (.int .i64 p1.fC.fWindow), .t (.int .i64 p1.fC.fSuspect), .t (.int .i64 p1.fC.fForget), .t (.sl 1 (p1.fT.fUp.map (eInt .i64))), .t (.sl 1 (p1.fNew.map (eInt .u8))), .t (.sl 1 (p1.fOld.map Image.enc)), .t (.sl 12 (p1.fN.map Node.enc)), .t (.sl 6 (p1.fD.map Disk.enc)), .t (.sl 3 (p1.fNet.map Packet.enc)), .t (.sl 3 (p1.fLog.map Sent.enc)), .t (.int .i64 p1.fLost)])], []⟩) (mo := []) (mr := []) (by kernel_rfl) (by kernel_rfl) (by kernel_rfl) (by kernel_rfl)) ?_
      refine Wp.ret ?_
      refine thenR ?_
      have hr := Option.some.inj h
      subst hr
      exact RetK [.t (.bool false)] (.one (.t (.bool false))) [] (by kernel_rfl) (by kernel_rfl) (.refl _) .nil
    · have h := cond_f h hc
      refine Wp.skip ?_
      refine thenN ?_
      refine Wp.seq ?_
      refine Wp.seq ?_
      refine Wp.regionS (pOf []) (rhoOf []) (by kernel_rfl) ?_
      refine Runs.batch 4 (by kernel_rfl) ?_
      obtain ⟨r3, e_r3, h⟩ := bind_some h
      refine Runs.callK false 21 16 [] [.t (.sl 1 (p0.fNew.map (eInt .u8))), .t (.sl 1 (p1.fNew.map (eInt .u8)))] [.one (.t (.sl 1 (p0.fNew.map (eInt .u8)))), .one (.t (.sl 1 (p1.fNew.map (eInt .u8))))] (.one (.t (.bool r3))) [] rfl rfl (by kernel_rfl) (by kernel_rfl) (by kernel_rfl) (by kernel_rfl) (by kernel_rfl) (laws_eqByteS_ok u p0.fNew p1.fNew r3 e_r3) (by kernel_rfl) ?_
      refine Runs.all (by kernel_rfl) ?_
      refine thenN ?_
      refine Wp.le (Le.of (s := ⟨[(2, .obj 2 0), (3, .obj 3 0), (4, .t (.bool false)), (22, .t (.bool (!r3)))], [(2, [.t (.int .i64 p0.fC.fSize), .t (.int .i64 p0.fC.fWindow), .t (.int .i64 p0.fC.fSuspect), .t (.int .i64 p0.fC.fForget), .t (.sl 1 (p0.fT.fUp.map (eInt .i64))), .t (.sl 1 (p0.fNew.map (eInt .u8))), .t (.sl 1 (p0.fOld.map Image.enc)), .t (.sl 12 (p0.fN.map Node.enc)), .t (.sl 6 (p0.fD.map Disk.enc)), .t (.sl 3 (p0.fNet.map Packet.enc)), .t (.sl 3 (p0.fLog.map Sent.enc)), .t (.int .i64 p0.fLost)]), (3, [.t (.int .i64 p1.fC.fSize), .t (.int .i64 p1.fC.fWindow), .t (.int .i64 p1.fC.fSuspect), .t (.int .i64 p1.fC.fForget), .t (.sl 1 (p1.fT.fUp.map (eInt .i64))), .t (.sl 1 (p1.fNew.map (eInt .u8))), .t (.sl 1 (p1.fOld.map Image.enc)), .t (.sl 12 (p1.fN.map Node.enc)), .t (.sl 6 (p1.fD.map Disk.enc)), .t (.sl 3 (p1.fNet.map Packet.enc)), .t (.sl 3 (p1.fLog.map Sent.enc)), .t (.int .i64 p1.fLost)])], []⟩) (mo := []) (mr := []) (by kernel_rfl) (by kernel_rfl) (by kernel_rfl) (by kernel_rfl)) ?_
      refine Wp.cond2 (b := !r3) (by kernel_rfl) (fun hc => ?_) (fun hc => ?_)
      · have h := cond_t h hc
        refine Wp.seq ?_
        refine Wp.regionS (pOf []) (rhoOf []) (by kernel_rfl) ?_
        refine Runs.all (by kernel_rfl) ?_
        refine thenN ?_
        refine Wp.le (Le.of (s := ⟨[(2, .obj 2 0), (3, .obj 3 0), (4, .t (.bool false))], [(2, [.t (.int .i64 p0.fC.fSize), .t (.int .i64 p0.fC.fWindow), .t (.int .i64 p0.fC.fSuspect), .t (.int .i64 p0.fC.fForget), .t (.sl 1 (p0.fT.fUp.map (eInt .i64))), .t (.sl 1 (p0.fNew.map (eInt .u8))), .t (.sl 1 (p0.fOld.map Image.enc)), .t (.sl 12 (p0.fN.map Node.enc)), .t (.sl 6 (p0.fD.map Disk.enc)), .t (.sl 3 (p0.fNet.map Packet.enc)), .t (.sl 3 (p0.fLog.map Sent.enc)), .t (.int .i64 p0.fLost)]), (3, [.t (.int .i64 p1.fC.fSize), .t (.int .i64 p1.fC.fWindow), .t (.int .i64 p1.fC.fSuspect), .t (.int .i64 p1.fC.fForget), .t (.sl 1 (p1.fT.fUp.map (eInt .i64))), .t (.sl 1 (p1.fNew.map (eInt .u8))), .t (.sl 1 (p1.fOld.map Image.enc)), .t (.sl 12 (p1.fN.map Node.enc)), .t (.sl 6 (p1.fD.map Disk.enc)), .t (.sl 3 (p1.fNet.map Packet.enc)), .t (.sl 3 (p1.fLog.map Sent.enc)), .t (.int .i64 p1.fLost)])], []⟩) (mo := []) (mr := []) (by kernel_rfl) (by kernel_rfl) (by kernel_rfl) (by kernel_rfl)) ?_
        refine Wp.ret ?_
        refine thenR ?_
        have hr := Option.some.inj h
        subst hr
        exact RetK [.t (.bool false)] (.one (.t (.bool false))) [] (by kernel_rfl) (by kernel_rfl) (.refl _) .nil
      · have h := cond_f h hc
        refine Wp.skip ?_
        refine thenN ?_
        refine Wp.seq ?_
        refine Wp.seq ?_
        refine Wp.regionS (pOf []) (rhoOf []) (by kernel_rfl) ?_
        refine Runs.batch 4 (by kernel_rfl) ?_
        obtain ⟨r4, e_r4, h⟩ := bind_some h
        refine Runs.callK false 27 21 [] [.t (.sl 1 (p0.fOld.map Image.enc)), .t (.sl 1 (p1.fOld.map Image.enc))] [.one (.t (.sl 1 (p0.fOld.map Image.enc))), .one (.t (.sl 1 (p1.fOld.map Image.enc)))] (.one (.t (.bool r4))) [] rfl rfl (by kernel_rfl) (by kernel_rfl) (by kernel_rfl) (by kernel_rfl) (by kernel_rfl) (laws_eqImageS_ok u p0.fOld p1.fOld r4 e_r4) (by kernel_rfl) ?_
        refine Runs.all (by kernel_rfl) ?_
        refine thenN ?_
        refine Wp.le (Le.of (s := ⟨[(2, .obj 2 0), (3, .obj 3 0), (4, .t (.bool false)), (28, .t (.bool (!r4)))], [(2, [.t (.int .i64 p0.fC.fSize), .t (.int .i64 p0.fC.fWindow), .t (.int .i64 p0.fC.fSuspect), .t (.int .i64 p0.fC.fForget), .t (.sl 1 (p0.fT.fUp.map (eInt .i64))), .t (.sl 1 (p0.fNew.map (eInt .u8))), .t (.sl 1 (p0.fOld.map Image.enc)), .t (.sl 12 (p0.fN.map Node.enc)), .t (.sl 6 (p0.fD.map Disk.enc)), .t (.sl 3 (p0.fNet.map Packet.enc)), .t (.sl 3 (p0.fLog.map Sent.enc)), .t (.int .i64 p0.fLost)]), (3, [.t (.int .i64 p1.fC.fSize), .t (.int .i64 p1.fC.fWindow), .t (.int .i64 p1.fC.fSuspect), .t (.int .i64 p1.fC.fForget), .t (.sl 1 (p1.fT.fUp.map (eInt .i64))), .t (.sl 1 (p1.fNew.map (eInt .u8))), .t (.sl 1 (p1.fOld.map Image.enc)), .t (.sl 12 (p1.fN.map Node.enc)), .t (.sl 6 (p1.fD.map Disk.enc)), .t (.sl 3 (p1.fNet.map Packet.enc)), .t (.sl 3 (p1.fLog.map Sent.enc)), .t (.int .i64 p1.fLost)])], []⟩) (mo := []) (mr := []) (by kernel_rfl) (by kernel_rfl) (by kernel_rfl) (by kernel_rfl)) ?_
        refine Wp.cond2 (b := !r4) (by kernel_rfl) (fun hc => ?_) (fun hc => ?_)
        · have h := cond_t h hc
          refine Wp.seq ?_
          refine Wp.regionS (pOf []) (rhoOf []) (by kernel_rfl) ?_
          refine Runs.all (by kernel_rfl) ?_
          refine thenN ?_
          refine Wp.le (Le.of (s := ⟨[(2, .obj 2 0), (3, .obj 3 0), (4, .t (.bool false))], [(2, [.t (.int .i64 p0.fC.fSize), .t (.int .i64 p0.fC.fWindow), .t (.int .i64 p0.fC.fSuspect), .t (.int .i64 p0.fC.fForget), .t (.sl 1 (p0.fT.fUp.map (eInt .i64))), .t (.sl 1 (p0.fNew.map (eInt .u8))), .t (.sl 1 (p0.fOld.map Image.enc)), .t (.sl 12 (p0.fN.map Node.enc)), .t (.sl 6 (p0.fD.map Disk.enc)), .t (.sl 3 (p0.fNet.map Packet.enc)), .t (.sl 3 (p0.fLog.map Sent.enc)), .t (.int .i64 p0.fLost)]), (3, [.t (.int .i64 p1.fC.fSize), .t (.int .i64 p1.fC.fWindow), .t (.int .i64 p1.fC.fSuspect), .t (.int .i64 p1.fC.fForget), .t (.sl 1 (p1.fT.fUp.map (eInt .i64))), .t (.sl 1 (p1.fNew.map (eInt .u8))), .t (.sl 1 (p1.fOld.map Image.enc)), .t (.sl 12 (p1.fN.map Node.enc)), .t (.sl 6 (p1.fD.map Disk.enc)), .t (.sl 3 (p1.fNet.map Packet.enc)), .t (.sl 3 (p1.fLog.map Sent.enc)), .t (.int .i64 p1.fLost)])], []⟩) (mo := []) (mr := []) (by kernel_rfl) (by kernel_rfl) (by kernel_rfl) (by kernel_rfl)) ?_
          refine Wp.ret ?_
          refine thenR ?_
          have hr := Option.some.inj h
          subst hr
          exact RetK [.t (.bool false)] (.one (.t (.bool false))) [] (by kernel_rfl) (by kernel_rfl) (.refl _) .nil
        · have h := cond_f h hc
          refine Wp.skip ?_
          refine thenN ?_
          refine Wp.seq ?_
          refine Wp.seq ?_
          refine Wp.regionS (pOf []) (rhoOf []) (by kernel_rfl) ?_
          refine Runs.batch 4 (by kernel_rfl) ?_
          obtain ⟨r5, e_r5, h⟩ := bind_some h
          refine Runs.callK false 33 67 [] [.t (.sl 12 (p0.fN.map Node.enc)), .t (.sl 12 (p1.fN.map Node.enc))] [.one (.t (.sl 12 (p0.fN.map Node.enc))), .one (.t (.sl 12 (p1.fN.map Node.enc)))] (.one (.t (.bool r5))) [] rfl rfl (by kernel_rfl) (by kernel_rfl) (by kernel_rfl) (by kernel_rfl) (by kernel_rfl) (laws_eqNodeS_ok u p0.fN p1.fN r5 e_r5) (by kernel_rfl) ?_
          refine Runs.all (by kernel_rfl) ?_
          refine thenN ?_
          refine Wp.le (Le.of (s := ⟨[(2, .obj 2 0), (3, .obj 3 0), (4, .t (.bool false)), (34, .t (.bool (!r5)))], [(2, [.t (.int .i64 p0.fC.fSize), .t (.int .i64 p0.fC.fWindow), .t (.int .i64 p0.fC.fSuspect), .t (.int .i64 p0.fC.fForget), .t (.sl 1 (p0.fT.fUp.map (eInt .i64))), .t (.sl 1 (p0.fNew.map (eInt .u8))), .t (.sl 1 (p0.fOld.map Image.enc)), .t (.sl 12 (p0.fN.map Node.enc)), .t (.sl 6 (p0.fD.map Disk.enc)), .t (.sl 3 (p0.fNet.map Packet.enc)), .t (.sl 3 (p0.fLog.map Sent.enc)), .t (.int .i64 p0.fLost)]), (3, [.t (.int .i64 p1.fC.fSize), .t (.int .i64 p1.fC.fWindow), .t (.int .i64 p1.fC.fSuspect), .t (.int .i64 p1.fC.fForget), .t (.sl 1 (p1.fT.fUp.map (eInt .i64))), .t (.sl 1 (p1.fNew.map (eInt .u8))), .t (.sl 1 (p1.fOld.map Image.enc)), .t (.sl 12 (p1.fN.map Node.enc)), .t (.sl 6 (p1.fD.map Disk.enc)), .t (.sl 3 (p1.fNet.map Packet.enc)), .t (.sl 3 (p1.fLog.map Sent.enc)), .t (.int .i64 p1.fLost)])], []⟩) (mo := []) (mr := []) (by kernel_rfl) (by kernel_rfl) (by kernel_rfl) (by kernel_rfl)) ?_
          refine Wp.cond2 (b := !r5) (by kernel_rfl) (fun hc => ?_) (fun hc => ?_)
          · have h := cond_t h hc
            refine Wp.seq ?_
            refine Wp.regionS (pOf []) (rhoOf []) (by kernel_rfl) ?_
            refine Runs.all (by kernel_rfl) ?_
            refine thenN ?_
            refine Wp.le (Le.of (s := ⟨[(2, .obj 2 0), (3, .obj 3 0), (4, .t (.bool false))], [(2, [.t (.int .i64 p0.fC.fSize), .t (.int .i64 p0.fC.fWindow), .t (.int .i64 p0.fC.fSuspect), .t (.int .i64 p0.fC.fForget), .t (.sl 1 (p0.fT.fUp.map (eInt .i64))), .t (.sl 1 (p0.fNew.map (eInt .u8))), .t (.sl 1 (p0.fOld.map Image.enc)), .t (.sl 12 (p0.fN.map Node.enc)), .t (.sl 6 (p0.fD.map Disk.enc)), .t (.sl 3 (p0.fNet.map Packet.enc)), .t (.sl 3 (p0.fLog.map Sent.enc)), .t (.int .i64 p0.fLost)]), (3, [.t (.int .i64 p1.fC.fSize), .t (.int .i64 p1.fC.fWindow), .t (.int .i64 p1.fC.fSuspect), .t (.int .i64 p1.fC.fForget), .t (.sl 1 (p1.fT.fUp.map (eInt .i64))), .t (.sl 1 (p1.fNew.map (eInt .u8))), .t (.sl 1 (p1.fOld.map Image.enc)), .t (.sl 12 (p1.fN.map Node.enc)), .t (.sl 6 (p1.fD.map Disk.enc)), .t (.sl 3 (p1.fNet.map Packet.enc)), .t (.sl 3 (p1.fLog.map Sent.enc)), .t (.int .i64 p1.fLost)])], []⟩) (mo := []) (mr := []) (by kernel_rfl) (by kernel_rfl) (by kernel_rfl) (by kernel_rfl)) ?_
            refine Wp.ret ?_
            refine thenR ?_
            have hr := Option.some.inj h
            subst hr
            exact RetK [.t (.bool false)] (.one (.t (.bool false))) [] (by kernel_rfl) (by kernel_rfl) (.refl _) .nil
          · have h := cond_f h hc
            refine Wp.skip ?_
            refine thenN ?_
            refine Wp.seq ?_
            refine Wp.seq ?_
            refine Wp.regionS (pOf []) (rhoOf []) (by kernel_rfl) ?_
            refine Runs.batch 4 (by kernel_rfl) ?_
            obtain ⟨r6, e_r6, h⟩ := bind_some h
            refine Runs.callK false 39 68 [] [.t (.sl 6 (p0.fD.map Disk.enc)), .t (.sl 6 (p1.fD.map Disk.enc))] [.one (.t (.sl 6 (p0.fD.map Disk.enc))), .one (.t (.sl 6 (p1.fD.map Disk.enc)))] (.one (.t (.bool r6))) [] rfl rfl (by kernel_rfl) (by kernel_rfl) (by kernel_rfl) (by kernel_rfl) (by kernel_rfl) (laws_eqDiskS_ok u p0.fD p1.fD r6 e_r6) (by kernel_rfl) ?_
            refine Runs.all (by kernel_rfl) ?_
            refine thenN ?_
            refine Wp.le (Le.of (s := ⟨[(2, .obj 2 0), (3, .obj 3 0), (4, .t (.bool false)), (40, .t (.bool (!r6)))], [(2, [.t (.int .i64 p0.fC.fSize), .t (.int .i64 p0.fC.fWindow), .t (.int .i64 p0.fC.fSuspect), .t (.int .i64 p0.fC.fForget), .t (.sl 1 (p0.fT.fUp.map (eInt .i64))), .t (.sl 1 (p0.fNew.map (eInt .u8))), .t (.sl 1 (p0.fOld.map Image.enc)), .t (.sl 12 (p0.fN.map Node.enc)), .t (.sl 6 (p0.fD.map Disk.enc)), .t (.sl 3 (p0.fNet.map Packet.enc)), .t (.sl 3 (p0.fLog.map Sent.enc)), .t (.int .i64 p0.fLost)]), (3, [.t (.int .i64 p1.fC.fSize), .t (.int .i64 p1.fC.fWindow), .t (.int .i64 p1.fC.fSuspect), .t (.int .i64 p1.fC.fForget), .t (.sl 1 (p1.fT.fUp.map (eInt .i64))), .t (.sl 1 (p1.fNew.map (eInt .u8))), .t (.sl 1 (p1.fOld.map Image.enc)), .t (.sl 12 (p1.fN.map Node.enc)), .t (.sl 6 (p1.fD.map Disk.enc)), .t (.sl 3 (p1.fNet.map Packet.enc)), .t (.sl 3 (p1.fLog.map Sent.enc)), .t (.int .i64 p1.fLost)])], []⟩) (mo := []) (mr := []) (by kernel_rfl) (by kernel_rfl) (by kernel_rfl) (by kernel_rfl)) ?_
            refine Wp.cond2 (b := !r6) (by kernel_rfl) (fun hc => ?_) (fun hc => ?_)
            · have h := cond_t h hc
              refine Wp.seq ?_
              refine Wp.regionS (pOf []) (rhoOf []) (by kernel_rfl) ?_
              refine Runs.all (by kernel_rfl) ?_
              refine thenN ?_
              refine Wp.le (Le.of (s := ⟨[(2, .obj 2 0), (3, .obj 3 0), (4, .t (.bool false))], [(2, [.t (.int .i64 p0.fC.fSize), .t (.int .i64 p0.fC.fWindow), .t (.int .i64 p0.fC.fSuspect), .t (.int .i64 p0.fC.fForget), .t (.sl 1 (p0.fT.fUp.map (eInt .i64))), .t (.sl 1 (p0.fNew.map (eInt .u8))), .t (.sl 1 (p0.fOld.map Image.enc)), .t (.sl 12 (p0.fN.map Node.enc)), .t (.sl 6 (p0.fD.map Disk.enc)), .t (.sl 3 (p0.fNet.map Packet.enc)), .t (.sl 3 (p0.fLog.map Sent.enc)), .t (.int .i64 p0.fLost)]), (3, [.t (.int .i64 p1.fC.fSize), .t (.int .i64 p1.fC.fWindow), .t (.int .i64 p1.fC.fSuspect), .t (.int .i64 p1.fC.fForget), .t (.sl 1 (p1.fT.fUp.map (eInt .i64))), .t (.sl 1 (p1.fNew.map (eInt .u8))), .t (.sl 1 (p1.fOld.map Image.enc)), .t (.sl 12 (p1.fN.map Node.enc)), .t (.sl 6 (p1.fD.map Disk.enc)), .t (.sl 3 (p1.fNet.map Packet.enc)), .t (.sl 3 (p1.fLog.map Sent.enc)), .t (.int .i64 p1.fLost)])], []⟩) (mo := []) (mr := []) (by kernel_rfl) (by kernel_rfl) (by kernel_rfl) (by kernel_rfl)) ?_
              refine Wp.ret ?_
              refine thenR ?_
              have hr := Option.some.inj h
              subst hr
              exact RetK [.t (.bool false)] (.one (.t (.bool false))) [] (by kernel_rfl) (by kernel_rfl) (.refl _) .nil
            · have h := cond_f h hc
              refine Wp.skip ?_
              refine thenN ?_
              refine Wp.seq ?_
              refine Wp.seq ?_
              refine Wp.regionS (pOf []) (rhoOf []) (by kernel_rfl) ?_
              refine Runs.batch 4 (by kernel_rfl) ?_
              obtain ⟨r7, e_r7, h⟩ := bind_some h
              refine Runs.callK false 45 69 [] [.t (.sl 3 (p0.fNet.map Packet.enc)), .t (.sl 3 (p1.fNet.map Packet.enc))] [.one (.t (.sl 3 (p0.fNet.map Packet.enc))), .one (.t (.sl 3 (p1.fNet.map Packet.enc)))] (.one (.t (.bool r7))) [] rfl rfl (by kernel_rfl) (by kernel_rfl) (by kernel_rfl) (by kernel_rfl) (by kernel_rfl) (laws_eqPacketS_ok u p0.fNet p1.fNet r7 e_r7) (by kernel_rfl) ?_
              refine Runs.all (by kernel_rfl) ?_
              refine thenN ?_
              refine Wp.le (Le.of (s := ⟨[(2, .obj 2 0), (3, .obj 3 0), (4, .t (.bool false)), (46, .t (.bool (!r7)))], [(2, [.t (.int .i64 p0.fC.fSize), .t (.int .i64 p0.fC.fWindow), .t (.int .i64 p0.fC.fSuspect), .t (.int .i64 p0.fC.fForget), .t (.sl 1 (p0.fT.fUp.map (eInt .i64))), .t (.sl 1 (p0.fNew.map (eInt .u8))), .t (.sl 1 (p0.fOld.map Image.enc)), .t (.sl 12 (p0.fN.map Node.enc)), .t (.sl 6 (p0.fD.map Disk.enc)), .t (.sl 3 (p0.fNet.map Packet.enc)), .t (.sl 3 (p0.fLog.map Sent.enc)), .t (.int .i64 p0.fLost)]), (3, [.t (.int .i64 p1.fC.fSize), .t (.int .i64 p1.fC.fWindow), .t (.int .i64 p1.fC.fSuspect), .t (.int .i64 p1.fC.fForget), .t (.sl 1 (p1.fT.fUp.map (eInt .i64))), .t (.sl 1 (p1.fNew.map (eInt .u8))), .t (.sl 1 (p1.fOld.map Image.enc)), .t (.sl 12 (p1.fN.map Node.enc)), .t (.sl 6 (p1.fD.map Disk.enc)), .t (.sl 3 (p1.fNet.map Packet.enc)), .t (.sl 3 (p1.fLog.map Sent.enc)), .t (.int .i64 p1.fLost)])], []⟩) (mo := []) (mr := []) (by kernel_rfl) (by kernel_rfl) (by kernel_rfl) (by kernel_rfl)) ?_
              refine Wp.cond2 (b := !r7) (by kernel_rfl) (fun hc => ?_) (fun hc => ?_)
              · have h := cond_t h hc
                refine Wp.seq ?_
                refine Wp.regionS (pOf []) (rhoOf []) (by kernel_rfl) ?_
                refine Runs.all (by kernel_rfl) ?_
                refine thenN ?_
                refine Wp.le (Le.of (s := ⟨[(2, .obj 2 0), (3, .obj 3 0), (4, .t (.bool false))], [(2, [.t (.int .i64 p0.fC.fSize), .t (.int .i64 p0.fC.fWindow), .t (.int .i64 p0.fC.fSuspect), .t (.int .i64 p0.fC.fForget), .t (.sl 1 (p0.fT.fUp.map (eInt .i64))), .t (.sl 1 (p0.fNew.map (eInt .u8))), .t (.sl 1 (p0.fOld.map Image.enc)), .t (.sl 12 (p0.fN.map Node.enc)), .t (.sl 6 (p0.fD.map Disk.enc)), .t (.sl 3 (p0.fNet.map Packet.enc)), .t (.sl 3 (p0.fLog.map Sent.enc)), .t (.int .i64 p0.fLost)]), (3, [.t (.int .i64 p1.fC.fSize), .t (.int .i64 p1.fC.fWindow), .t (.int .i64 p1.fC.fSuspect), .t (.int .i64 p1.fC.fForget), .t (.sl 1 (p1.fT.fUp.map (eInt .i64))), .t (.sl 1 (p1.fNew.map (eInt .u8))), .t (.sl 1 (p1.fOld.map Image.enc)), .t (.sl 12 (p1.fN.map Node.enc)), .t (.sl 6 (p1.fD.map Disk.enc)), .t (.sl 3 (p1.fNet.map Packet.enc)), .t (.sl 3 (p1.fLog.map Sent.enc)), .t (.int .i64 p1.fLost)])], []⟩) (mo := []) (mr := []) (by kernel_rfl) (by kernel_rfl) (by kernel_rfl) (by kernel_rfl)) ?_
                refine Wp.ret ?_
                refine thenR ?_
                have hr := Option.some.inj h
                subst hr
                exact RetK [.t (.bool false)] (.one (.t (.bool false))) [] (by kernel_rfl) (by kernel_rfl) (.refl _) .nil
              · have h := cond_f h hc
                refine Wp.skip ?_
                refine thenN ?_
                refine Wp.seq ?_
                refine Wp.seq ?_
                refine Wp.regionS (pOf []) (rhoOf []) (by kernel_rfl) ?_
                refine Runs.batch 4 (by kernel_rfl) ?_
                obtain ⟨r8, e_r8, h⟩ := bind_some h
                refine Runs.callK false 51 70 [] [.t (.sl 3 (p0.fLog.map Sent.enc)), .t (.sl 3 (p1.fLog.map Sent.enc))] [.one (.t (.sl 3 (p0.fLog.map Sent.enc))), .one (.t (.sl 3 (p1.fLog.map Sent.enc)))] (.one (.t (.bool r8))) [] rfl rfl (by kernel_rfl) (by kernel_rfl) (by kernel_rfl) (by kernel_rfl) (by kernel_rfl) (laws_eqSentS_ok u p0.fLog p1.fLog r8 e_r8) (by kernel_rfl) ?_
                refine Runs.all (by kernel_rfl) ?_
                refine thenN ?_
                refine Wp.le (Le.of (s := ⟨[(2, .obj 2 0), (3, .obj 3 0), (4, .t (.bool false)), (52, .t (.bool (!r8)))], [(2, [.t (.int .i64 p0.fC.fSize), .t (.int .i64 p0.fC.fWindow), .t (.int .i64 p0.fC.fSuspect), .t (.int .i64 p0.fC.fForget), .t (.sl 1 (p0.fT.fUp.map (eInt .i64))), .t (.sl 1 (p0.fNew.map (eInt .u8))), .t (.sl 1 (p0.fOld.map Image.enc)), .t (.sl 12 (p0.fN.map Node.enc)), .t (.sl 6 (p0.fD.map Disk.enc)), .t (.sl 3 (p0.fNet.map Packet.enc)), .t (.sl 3 (p0.fLog.map Sent.enc)), .t (.int .i64 p0.fLost)]), (3, [.t (.int .i64 p1.fC.fSize), .t (.int .i64 p1.fC.fWindow), .t (.int .i64 p1.fC.fSuspect), .t (.int .i64 p1.fC.fForget), .t (.sl 1 (p1.fT.fUp.map (eInt .i64))), .t (.sl 1 (p1.fNew.map (eInt .u8))), .t (.sl 1 (p1.fOld.map Image.enc)), .t (.sl 12 (p1.fN.map Node.enc)), .t (.sl 6 (p1.fD.map Disk.enc)), .t (.sl 3 (p1.fNet.map Packet.enc)), .t (.sl 3 (p1.fLog.map Sent.enc)), .t (.int .i64 p1.fLost)])], []⟩) (mo := []) (mr := []) (by kernel_rfl) (by kernel_rfl) (by kernel_rfl) (by kernel_rfl)) ?_
                refine Wp.cond2 (b := !r8) (by kernel_rfl) (fun hc => ?_) (fun hc => ?_)
                · have h := cond_t h hc
                  refine Wp.seq ?_
                  refine Wp.regionS (pOf []) (rhoOf []) (by kernel_rfl) ?_
                  refine Runs.all (by kernel_rfl) ?_
                  refine thenN ?_
                  refine Wp.le (Le.of (s := ⟨[(2, .obj 2 0), (3, .obj 3 0), (4, .t (.bool false))], [(2, [.t (.int .i64 p0.fC.fSize), .t (.int .i64 p0.fC.fWindow), .t (.int .i64 p0.fC.fSuspect), .t (.int .i64 p0.fC.fForget), .t (.sl 1 (p0.fT.fUp.map (eInt .i64))), .t (.sl 1 (p0.fNew.map (eInt .u8))), .t (.sl 1 (p0.fOld.map Image.enc)), .t (.sl 12 (p0.fN.map Node.enc)), .t (.sl 6 (p0.fD.map Disk.enc)), .t (.sl 3 (p0.fNet.map Packet.enc)), .t (.sl 3 (p0.fLog.map Sent.enc)), .t (.int .i64 p0.fLost)]), (3, [.t (.int .i64 p1.fC.fSize), .t (.int .i64 p1.fC.fWindow), .t (.int .i64 p1.fC.fSuspect), .t (.int .i64 p1.fC.fForget), .t (.sl 1 (p1.fT.fUp.map (eInt .i64))), .t (.sl 1 (p1.fNew.map (eInt .u8))), .t (.sl 1 (p1.fOld.map Image.enc)), .t (.sl 12 (p1.fN.map Node.enc)), .t (.sl 6 (p1.fD.map Disk.enc)), .t (.sl 3 (p1.fNet.map Packet.enc)), .t (.sl 3 (p1.fLog.map Sent.enc)), .t (.int .i64 p1.fLost)])], []⟩) (mo := []) (mr := []) (by kernel_rfl) (by kernel_rfl) (by kernel_rfl) (by kernel_rfl)) ?_
                  refine Wp.ret ?_
                  refine thenR ?_
                  have hr := Option.some.inj h
                  subst hr
                  exact RetK [.t (.bool false)] (.one (.t (.bool false))) [] (by kernel_rfl) (by kernel_rfl) (.refl _) .nil
                · have h := cond_f h hc
                  refine Wp.skip ?_
                  refine thenN ?_
                  refine Wp.seq ?_
                  refine Wp.seq ?_
                  refine Wp.regionS (pOf []) (rhoOf []) (by kernel_rfl) ?_
                  refine Runs.all (by kernel_rfl) ?_
                  refine thenN ?_
                  refine Wp.le (Le.of (s := ⟨[(4, .t (.bool false)), (57, .t (.bool (p0.fLost != p1.fLost)))], [], []⟩) (mo := []) (mr := []) (by kernel_rfl) (by kernel_rfl) (by kernel_rfl) (by kernel_rfl)) ?_
                  refine Wp.cond2 (b := p0.fLost != p1.fLost) (by kernel_rfl) (fun hc => ?_) (fun hc => ?_)
                  · have h := cond_t h hc
                    refine Wp.seq ?_
                    refine Wp.regionS (pOf []) (rhoOf []) (by kernel_rfl) ?_
                    refine Runs.all (by kernel_rfl) ?_
                    refine thenN ?_
                    refine Wp.le (Le.of (s := ⟨[(4, .t (.bool false))], [], []⟩) (mo := []) (mr := []) (by kernel_rfl) (by kernel_rfl) (by kernel_rfl) (by kernel_rfl)) ?_
                    refine Wp.ret ?_
                    refine thenR ?_
                    have hr := Option.some.inj h
                    subst hr
                    exact RetK [.t (.bool false)] (.one (.t (.bool false))) [] (by kernel_rfl) (by kernel_rfl) (.refl _) .nil
                  · have h := cond_f h hc
                    refine Wp.skip ?_
                    refine thenN ?_
                    refine Wp.seq ?_
                    refine Wp.regionS (pOf []) (rhoOf []) (by kernel_rfl) ?_
                    refine Runs.all (by kernel_rfl) ?_
                    refine thenN ?_
                    refine Wp.le (Le.of (s := ⟨[(4, .t (.bool true))], [], []⟩) (mo := []) (mr := []) (by kernel_rfl) (by kernel_rfl) (by kernel_rfl) (by kernel_rfl)) ?_
                    refine Wp.ret ?_
                    have hr := Option.some.inj h
                    subst hr
                    exact RetK [.t (.bool true)] (.one (.t (.bool true))) [] (by kernel_rfl) (by kernel_rfl) (.refl _) .nil
theorem laws_FnExactRoundsFor_ok (u : Nat) (p0 : World) (r : Bool) (h : laws_FnExactRoundsFor u p0 = some r) : CallOK Try.prog 8 [.agg [.t (.int .i64 p0.fC.fSize), .t (.int .i64 p0.fC.fWindow), .t (.int .i64 p0.fC.fSuspect), .t (.int .i64 p0.fC.fForget), .t (.sl 1 (p0.fT.fUp.map (eInt .i64))), .t (.sl 1 (p0.fNew.map (eInt .u8))), .t (.sl 1 (p0.fOld.map Image.enc)), .t (.sl 12 (p0.fN.map Node.enc)), .t (.sl 6 (p0.fD.map Disk.enc)), .t (.sl 3 (p0.fNet.map Packet.enc)), .t (.sl 3 (p0.fLog.map Sent.enc)), .t (.int .i64 p0.fLost)]] (.one (.t (.bool r))) [] := by
  unfold laws_FnExactRoundsFor at h
  refine CallOK.of_bodyK (fn := Try.f8) (m := false) [.agg [.t (.int .i64 p0.fC.fSize), .t (.int .i64 p0.fC.fWindow), .t (.int .i64 p0.fC.fSuspect), .t (.int .i64 p0.fC.fForget), .t (.sl 1 (p0.fT.fUp.map (eInt .i64))), .t (.sl 1 (p0.fNew.map (eInt .u8))), .t (.sl 1 (p0.fOld.map Image.enc)), .t (.sl 12 (p0.fN.map Node.enc)), .t (.sl 6 (p0.fD.map Disk.enc)), .t (.sl 3 (p0.fNet.map Packet.enc)), .t (.sl 3 (p0.fLog.map Sent.enc)), .t (.int .i64 p0.fLost)]] (by kernel_rfl) rfl (by kernel_rfl) (by kernel_rfl) (by kernel_rfl) (by kernel_rfl) (by kernel_rfl) ?_
  refine Wp.seq ?_
  refine Wp.regionS (pOf []) (rhoOf []) (by kernel_rfl) ?_
  refine Runs.all (by kernel_rfl) ?_
  refine thenN ?_
  refine Wp.le (Le.of (s := ⟨[(1, .obj 1 0), (2, .t (.bool false))], [(1, [.t (.int .i64 p0.fC.fSize), .t (.int .i64 p0.fC.fWindow), .t (.int .i64 p0.fC.fSuspect), .t (.int .i64 p0.fC.fForget), .t (.sl 1 (p0.fT.fUp.map (eInt .i64))), .t (.sl 1 (p0.fNew.map (eInt .u8))), .t (.sl 1 (p0.fOld.map Image.enc)), .t (.sl 12 (p0.fN.map Node.enc)), .t (.sl 6 (p0.fD.map Disk.enc)), .t (.sl 3 (p0.fNet.map Packet.enc)), .t (.sl 3 (p0.fLog.map Sent.enc)), .t (.int .i64 p0.fLost)])], []⟩) (mo := []) (mr := []) (by kernel_rfl) (by kernel_rfl) (by kernel_rfl) (by kernel_rfl)) ?_
  refine Wp.seq ?_
  refine Wp.regionS (pOf []) (rhoOf []) (by kernel_rfl) ?_
  refine Runs.all (by kernel_rfl) ?_
  refine thenN ?_
  refine Wp.le (Le.of (s := ⟨[(1, .obj 1 0), (2, .t (.bool false)), (3, .t (.int .i64 1048576))], [(1, [.t (.int .i64 p0.fC.fSize), .t (.int .i64 p0.fC.fWindow), .t (.int .i64 p0.fC.fSuspect), .t (.int .i64 p0.fC.fForget), .t (.sl 1 (p0.fT.fUp.map (eInt .i64))), .t (.sl 1 (p0.fNew.map (eInt .u8))), .t (.sl 1 (p0.fOld.map Image.enc)), .t (.sl 12 (p0.fN.map Node.enc)), .t (.sl 6 (p0.fD.map Disk.enc)), .t (.sl 3 (p0.fNet.map Packet.enc)), .t (.sl 3 (p0.fLog.map Sent.enc)), .t (.int .i64 p0.fLost)])], []⟩) (mo := []) (mr := []) (by kernel_rfl) (by kernel_rfl) (by kernel_rfl) (by kernel_rfl)) ?_
  refine Wp.seq ?_
  refine Wp.regionS (pOf []) (rhoOf []) (by kernel_rfl) ?_
  refine Runs.batch 2 (by kernel_rfl) ?_
  obtain ⟨r1, e_r1, h⟩ := bind_some h
  refine Runs.callK false 9 24 [] [.agg [.t (.int .i64 p0.fC.fSize), .t (.int .i64 p0.fC.fWindow), .t (.int .i64 p0.fC.fSuspect), .t (.int .i64 p0.fC.fForget), .t (.sl 1 (p0.fT.fUp.map (eInt .i64))), .t (.sl 1 (p0.fNew.map (eInt .u8))), .t (.sl 1 (p0.fOld.map Image.enc)), .t (.sl 12 (p0.fN.map Node.enc)), .t (.sl 6 (p0.fD.map Disk.enc)), .t (.sl 3 (p0.fNet.map Packet.enc)), .t (.sl 3 (p0.fLog.map Sent.enc)), .t (.int .i64 p0.fLost)], .t (.int .i64 1048576)] [.agg [.t (.int .i64 p0.fC.fSize), .t (.int .i64 p0.fC.fWindow), .t (.int .i64 p0.fC.fSuspect), .t (.int .i64 p0.fC.fForget), .t (.sl 1 (p0.fT.fUp.map (eInt .i64))), .t (.sl 1 (p0.fNew.map (eInt .u8))), .t (.sl 1 (p0.fOld.map Image.enc)), .t (.sl 12 (p0.fN.map Node.enc)), .t (.sl 6 (p0.fD.map Disk.enc)), .t (.sl 3 (p0.fNet.map Packet.enc)), .t (.sl 3 (p0.fLog.map Sent.enc)), .t (.int .i64 p0.fLost)], .one (.t (.int .i64 1048576))] (.one (.t (.int .i64 r1))) [] rfl rfl (by kernel_rfl) (by kernel_rfl) (by kernel_rfl) (by kernel_rfl) (by kernel_rfl) (laws_szWorld_ok u p0 1048576 r1 e_r1) (by kernel_rfl) ?_
  refine Runs.all (by kernel_rfl) ?_
  refine thenN ?_
  refine Wp.le (Le.of (s := ⟨[(1, .obj 1 0), (2, .t (.bool false)), (3, .t (.int .i64 r1))], [(1, [.t (.int .i64 p0.fC.fSize), .t (.int .i64 p0.fC.fWindow), .t (.int .i64 p0.fC.fSuspect), .t (.int .i64 p0.fC.fForget), .t (.sl 1 (p0.fT.fUp.map (eInt .i64))), .t (.sl 1 (p0.fNew.map (eInt .u8))), .t (.sl 1 (p0.fOld.map Image.enc)), .t (.sl 12 (p0.fN.map Node.enc)), .t (.sl 6 (p0.fD.map Disk.enc)), .t (.sl 3 (p0.fNet.map Packet.enc)), .t (.sl 3 (p0.fLog.map Sent.enc)), .t (.int .i64 p0.fLost)])], []⟩) (mo := []) (mr := []) (by kernel_rfl) (by kernel_rfl) (by kernel_rfl) (by kernel_rfl)) ?_
  refine Wp.seq ?_
  refine Wp.seq ?_
  refine Wp.regionS (pOf []) (rhoOf []) (by kernel_rfl) ?_
  refine Runs.all (by kernel_rfl) ?_
  refine thenN ?_
  refine Wp.le (Le.of (s := ⟨[(1, .obj 1 0), (2, .t (.bool false)), (11, .t (.bool (decide (r1 < 0))))], [(1, [.t (.int .i64 p0.fC.fSize), .t (.int .i64 p0.fC.fWindow), .t (.int .i64 p0.fC.fSuspect), .t (.int .i64 p0.fC.fForget), .t (.sl 1 (p0.fT.fUp.map (eInt .i64))), .t (.sl 1 (p0.fNew.map (eInt .u8))), .t (.sl 1 (p0.fOld.map Image.enc)), .t (.sl 12 (p0.fN.map Node.enc)), .t (.sl 6 (p0.fD.map Disk.enc)), .t (.sl 3 (p0.fNet.map Packet.enc)), .t (.sl 3 (p0.fLog.map Sent.enc)), .t (.int .i64 p0.fLost)])], []⟩) (mo := []) (mr := []) (by kernel_rfl) (by kernel_rfl) (by kernel_rfl) (by kernel_rfl)) ?_
  refine Wp.cond2 (b := decide (r1 < 0)) (by kernel_rfl) (fun hc => ?_) (fun hc => ?_)
  · have h := cond_t h hc
    refine Wp.seq ?_
    refine Wp.regionS (pOf []) (rhoOf []) (by kernel_rfl) ?_
    refine Runs.all (by kernel_rfl) ?_
    refine thenN ?_
    refine Wp.le (Le.of (s := ⟨[(1, .obj 1 0), (2, .t (.bool true))], [(1, [.t (.int .i64 p0.fC.fSize), .t (.int .i64 p0.fC.fWindow), .t (.int .i64 p0.fC.fSuspect), .t (.int .i64 p0.fC.fForget), .t (.sl 1 (p0.fT.fUp.map (eInt .i64))), .t (.sl 1 (p0.fNew.map (eInt .u8))), .t (.sl 1 (p0.fOld.map Image.enc)), .t (.sl 12 (p0.fN.map Node.enc)), .t (.sl 6 (p0.fD.map Disk.enc)), .t (.sl 3 (p0.fNet.map Packet.enc)), .t (.sl 3 (p0.fLog.map Sent.enc)), .t (.int .i64 p0.fLost)])], []⟩) (mo := []) (mr := []) (by kernel_rfl) (by kernel_rfl) (by kernel_rfl) (by kernel_rfl)) ?_
    refine Wp.ret ?_
    refine thenR ?_
    have hr := Option.some.inj h
    subst hr
    exact RetK [.t (.bool true)] (.one (.t (.bool true))) [] (by kernel_rfl) (by kernel_rfl) (.refl _) .nil
  · have h := cond_f h hc
    refine Wp.skip ?_
    refine thenN ?_
    refine Wp.seq ?_
    refine Wp.regionS (pOf []) (rhoOf []) (by kernel_rfl) ?_
    refine Runs.batch 1 (by kernel_rfl) ?_
    obtain ⟨r2, e_r2, h⟩ := bind_some h
    refine Runs.callK false 13 26 [] [.agg [.t (.int .i64 p0.fC.fSize), .t (.int .i64 p0.fC.fWindow), .t (.int .i64 p0.fC.fSuspect), .t (.int .i64 p0.fC.fForget), .t (.sl 1 (p0.fT.fUp.map (eInt .i64))), .t (.sl 1 (p0.fNew.map (eInt .u8))), .t (.sl 1 (p0.fOld.map Image.enc)), .t (.sl 12 (p0.fN.map Node.enc)), .t (.sl 6 (p0.fD.map Disk.enc)), .t (.sl 3 (p0.fNet.map Packet.enc)), .t (.sl 3 (p0.fLog.map Sent.enc)), .t (.int .i64 p0.fLost)]] [.agg [.t (.int .i64 p0.fC.fSize), .t (.int .i64 p0.fC.fWindow), .t (.int .i64 p0.fC.fSuspect), .t (.int .i64 p0.fC.fForget), .t (.sl 1 (p0.fT.fUp.map (eInt .i64))), .t (.sl 1 (p0.fNew.map (eInt .u8))), .t (.sl 1 (p0.fOld.map Image.enc)), .t (.sl 12 (p0.fN.map Node.enc)), .t (.sl 6 (p0.fD.map Disk.enc)), .t (.sl 3 (p0.fNet.map Packet.enc)), .t (.sl 3 (p0.fLog.map Sent.enc)), .t (.int .i64 p0.fLost)]] (.agg [.t (.int .i64 r2.fC.fSize), .t (.int .i64 r2.fC.fWindow), .t (.int .i64 r2.fC.fSuspect), .t (.int .i64 r2.fC.fForget), .ow 3 1 (r2.fT.fUp.map (eInt .i64)), .ow 5 1 (r2.fNew.map (eInt .u8)), .ow 67 1 (r2.fOld.map Image.enc), .ow 114 12 (r2.fN.map Node.enc), .ow 109 6 (r2.fD.map Disk.enc), .ow 146 3 (r2.fNet.map Packet.enc), .ow 99 3 (r2.fLog.map Sent.enc), .t (.int .i64 r2.fLost)]) [] rfl rfl (by kernel_rfl) (by kernel_rfl) (by kernel_rfl) (by kernel_rfl) (by kernel_rfl) (laws_toWorld_ok u p0 r2 e_r2) (by kernel_rfl) ?_
    obtain ⟨r3, e_r3, h⟩ := bind_some h
    refine Runs.callBK 14 31 [] [.agg [.t (.int .i64 r2.fC.fSize), .t (.int .i64 r2.fC.fWindow), .t (.int .i64 r2.fC.fSuspect), .t (.int .i64 r2.fC.fForget), .own 851972, .own 851973, .own 851974, .own 851975, .own 851976, .own 851977, .own 851978, .t (.int .i64 r2.fLost)]] [.agg [.t (.int .i64 r2.fC.fSize), .t (.int .i64 r2.fC.fWindow), .t (.int .i64 r2.fC.fSuspect), .t (.int .i64 r2.fC.fForget), .t (.sl 1 (r2.fT.fUp.map (eInt .i64))), .t (.sl 1 (r2.fNew.map (eInt .u8))), .t (.sl 1 (r2.fOld.map Image.enc)), .t (.sl 12 (r2.fN.map Node.enc)), .t (.sl 6 (r2.fD.map Disk.enc)), .t (.sl 3 (r2.fNet.map Packet.enc)), .t (.sl 3 (r2.fLog.map Sent.enc)), .t (.int .i64 r2.fLost)]] (.one (.t (.int .i64 r3))) rfl rfl (by kernel_rfl) (by kernel_rfl) (by kernel_rfl) (by kernel_rfl) (by kernel_rfl) (spec_RoundsFor_ok u r2 r3 e_r3) (by simp [V.plain, V.plains, C.plain, T.sc]) (by kernel_rfl) ?_
    refine Runs.all (by kernel_rfl) ?_
    refine thenN ?_
    refine Wp.le (Le.of (s := ⟨[(1, .obj 1 0), (2, .t (.bool false)), (4, .t (.int .i64 r3))], [(1, [.t (.int .i64 p0.fC.fSize), .t (.int .i64 p0.fC.fWindow), .t (.int .i64 p0.fC.fSuspect), .t (.int .i64 p0.fC.fForget), .t (.sl 1 (p0.fT.fUp.map (eInt .i64))), .t (.sl 1 (p0.fNew.map (eInt .u8))), .t (.sl 1 (p0.fOld.map Image.enc)), .t (.sl 12 (p0.fN.map Node.enc)), .t (.sl 6 (p0.fD.map Disk.enc)), .t (.sl 3 (p0.fNet.map Packet.enc)), .t (.sl 3 (p0.fLog.map Sent.enc)), .t (.int .i64 p0.fLost)])], []⟩) (mo := []) (mr := []) (by kernel_rfl) (by kernel_rfl) (by kernel_rfl) (by kernel_rfl)) ?_
    refine Wp.seq ?_
    refine Wp.regionS (pOf []) (rhoOf []) (by kernel_rfl) ?_
    refine Runs.batch 1 (by kernel_rfl) ?_
    obtain ⟨r4, e_r4, h⟩ := bind_some h
    refine Runs.callK false 16 26 [] [.agg [.t (.int .i64 p0.fC.fSize), .t (.int .i64 p0.fC.fWindow), .t (.int .i64 p0.fC.fSuspect), .t (.int .i64 p0.fC.fForget), .t (.sl 1 (p0.fT.fUp.map (eInt .i64))), .t (.sl 1 (p0.fNew.map (eInt .u8))), .t (.sl 1 (p0.fOld.map Image.enc)), .t (.sl 12 (p0.fN.map Node.enc)), .t (.sl 6 (p0.fD.map Disk.enc)), .t (.sl 3 (p0.fNet.map Packet.enc)), .t (.sl 3 (p0.fLog.map Sent.enc)), .t (.int .i64 p0.fLost)]] [.agg [.t (.int .i64 p0.fC.fSize), .t (.int .i64 p0.fC.fWindow), .t (.int .i64 p0.fC.fSuspect), .t (.int .i64 p0.fC.fForget), .t (.sl 1 (p0.fT.fUp.map (eInt .i64))), .t (.sl 1 (p0.fNew.map (eInt .u8))), .t (.sl 1 (p0.fOld.map Image.enc)), .t (.sl 12 (p0.fN.map Node.enc)), .t (.sl 6 (p0.fD.map Disk.enc)), .t (.sl 3 (p0.fNet.map Packet.enc)), .t (.sl 3 (p0.fLog.map Sent.enc)), .t (.int .i64 p0.fLost)]] (.agg [.t (.int .i64 r4.fC.fSize), .t (.int .i64 r4.fC.fWindow), .t (.int .i64 r4.fC.fSuspect), .t (.int .i64 r4.fC.fForget), .ow 3 1 (r4.fT.fUp.map (eInt .i64)), .ow 5 1 (r4.fNew.map (eInt .u8)), .ow 67 1 (r4.fOld.map Image.enc), .ow 114 12 (r4.fN.map Node.enc), .ow 109 6 (r4.fD.map Disk.enc), .ow 146 3 (r4.fNet.map Packet.enc), .ow 99 3 (r4.fLog.map Sent.enc), .t (.int .i64 r4.fLost)]) [] rfl rfl (by kernel_rfl) (by kernel_rfl) (by kernel_rfl) (by kernel_rfl) (by kernel_rfl) (laws_toWorld_ok u p0 r4 e_r4) (by kernel_rfl) ?_
    refine Runs.all (by kernel_rfl) ?_
    refine thenN ?_
    refine Wp.le (Le.of (s := ⟨[(1, .obj 1 0), (2, .t (.bool false)), (4, .t (.int .i64 r3)), (5, .obj 5 0)], [(1, [.t (.int .i64 p0.fC.fSize), .t (.int .i64 p0.fC.fWindow), .t (.int .i64 p0.fC.fSuspect), .t (.int .i64 p0.fC.fForget), .t (.sl 1 (p0.fT.fUp.map (eInt .i64))), .t (.sl 1 (p0.fNew.map (eInt .u8))), .t (.sl 1 (p0.fOld.map Image.enc)), .t (.sl 12 (p0.fN.map Node.enc)), .t (.sl 6 (p0.fD.map Disk.enc)), .t (.sl 3 (p0.fNet.map Packet.enc)), .t (.sl 3 (p0.fLog.map Sent.enc)), .t (.int .i64 p0.fLost)]), (5, [.t (.int .i64 r4.fC.fSize), .t (.int .i64 r4.fC.fWindow), .t (.int .i64 r4.fC.fSuspect), .t (.int .i64 r4.fC.fForget), .own 1048580, .own 1048581, .own 1048582, .own 1048583, .own 1048584, .own 1048585, .own 1048586, .t (.int .i64 r4.fLost)])], [(1048580, .live 3 1 (r4.fT.fUp.map (eInt .i64))), (1048581, .live 5 1 (r4.fNew.map (eInt .u8))), (1048582, .live 67 1 (r4.fOld.map Image.enc)), (1048583, .live 114 12 (r4.fN.map Node.enc)), (1048584, .live 109 6 (r4.fD.map Disk.enc)), (1048585, .live 146 3 (r4.fNet.map Packet.enc)), (1048586, .live 99 3 (r4.fLog.map Sent.enc))]⟩) (mo := []) (mr := []) (by kernel_rfl) (by kernel_rfl) (by kernel_rfl) (by kernel_rfl)) ?_
    refine Wp.seq ?_
    refine Wp.regionS (pOf []) (rhoOf []) (by kernel_rfl) ?_
    refine Runs.batch 1 (by kernel_rfl) ?_
    obtain ⟨r5, e_r5, h⟩ := bind_some h
    refine Runs.callBK 18 32 [] [.agg [.t (.int .i64 r4.fC.fSize), .t (.int .i64 r4.fC.fWindow), .t (.int .i64 r4.fC.fSuspect), .t (.int .i64 r4.fC.fForget), .own 1048580, .own 1048581, .own 1048582, .own 1048583, .own 1048584, .own 1048585, .own 1048586, .t (.int .i64 r4.fLost)]] [.agg [.t (.int .i64 r4.fC.fSize), .t (.int .i64 r4.fC.fWindow), .t (.int .i64 r4.fC.fSuspect), .t (.int .i64 r4.fC.fForget), .t (.sl 1 (r4.fT.fUp.map (eInt .i64))), .t (.sl 1 (r4.fNew.map (eInt .u8))), .t (.sl 1 (r4.fOld.map Image.enc)), .t (.sl 12 (r4.fN.map Node.enc)), .t (.sl 6 (r4.fD.map Disk.enc)), .t (.sl 3 (r4.fNet.map Packet.enc)), .t (.sl 3 (r4.fLog.map Sent.enc)), .t (.int .i64 r4.fLost)]] (.one (.t (.int .i64 r5))) rfl rfl (by kernel_rfl) (by kernel_rfl) (by kernel_rfl) (by kernel_rfl) (by kernel_rfl) (impl_RoundsFor_ok u r4 r5 e_r5) (by simp [V.plain, V.plains, C.plain, T.sc]) (by kernel_rfl) ?_
    refine Runs.all (by kernel_rfl) ?_
    refine thenN ?_
    refine Wp.le (Le.of (s := ⟨[(1, .obj 1 0), (2, .t (.bool false)), (4, .t (.int .i64 r3)), (5, .obj 5 0), (6, .t (.int .i64 r5))], [(1, [.t (.int .i64 p0.fC.fSize), .t (.int .i64 p0.fC.fWindow), .t (.int .i64 p0.fC.fSuspect), .t (.int .i64 p0.fC.fForget), .t (.sl 1 (p0.fT.fUp.map (eInt .i64))), .t (.sl 1 (p0.fNew.map (eInt .u8))), .t (.sl 1 (p0.fOld.map Image.enc)), .t (.sl 12 (p0.fN.map Node.enc)), .t (.sl 6 (p0.fD.map Disk.enc)), .t (.sl 3 (p0.fNet.map Packet.enc)), .t (.sl 3 (p0.fLog.map Sent.enc)), .t (.int .i64 p0.fLost)]), (5, [.t (.int .i64 r4.fC.fSize), .t (.int .i64 r4.fC.fWindow), .t (.int .i64 r4.fC.fSuspect), .t (.int .i64 r4.fC.fForget), .own 1048580, .own 1048581, .own 1048582, .own 1048583, .own 1048584, .own 1048585, .own 1048586, .t (.int .i64 r4.fLost)])], [(1048580, .live 3 1 (r4.fT.fUp.map (eInt .i64))), (1048581, .live 5 1 (r4.fNew.map (eInt .u8))), (1048582, .live 67 1 (r4.fOld.map Image.enc)), (1048583, .live 114 12 (r4.fN.map Node.enc)), (1048584, .live 109 6 (r4.fD.map Disk.enc)), (1048585, .live 146 3 (r4.fNet.map Packet.enc)), (1048586, .live 99 3 (r4.fLog.map Sent.enc))]⟩) (mo := []) (mr := []) (by kernel_rfl) (by kernel_rfl) (by kernel_rfl) (by kernel_rfl)) ?_
    refine Wp.seq ?_
    refine Wp.seq ?_
    refine Wp.regionS (pOf []) (rhoOf []) (by kernel_rfl) ?_
    refine Runs.all (by kernel_rfl) ?_
    refine thenN ?_
    refine Wp.le (Le.of (s := ⟨[(1, .obj 1 0), (2, .t (.bool false)), (5, .obj 5 0), (21, .t (.bool (r5 != r3)))], [(1, [.t (.int .i64 p0.fC.fSize), .t (.int .i64 p0.fC.fWindow), .t (.int .i64 p0.fC.fSuspect), .t (.int .i64 p0.fC.fForget), .t (.sl 1 (p0.fT.fUp.map (eInt .i64))), .t (.sl 1 (p0.fNew.map (eInt .u8))), .t (.sl 1 (p0.fOld.map Image.enc)), .t (.sl 12 (p0.fN.map Node.enc)), .t (.sl 6 (p0.fD.map Disk.enc)), .t (.sl 3 (p0.fNet.map Packet.enc)), .t (.sl 3 (p0.fLog.map Sent.enc)), .t (.int .i64 p0.fLost)]), (5, [.t (.int .i64 r4.fC.fSize), .t (.int .i64 r4.fC.fWindow), .t (.int .i64 r4.fC.fSuspect), .t (.int .i64 r4.fC.fForget), .own 1048580, .own 1048581, .own 1048582, .own 1048583, .own 1048584, .own 1048585, .own 1048586, .t (.int .i64 r4.fLost)])], [(1048580, .live 3 1 (r4.fT.fUp.map (eInt .i64))), (1048581, .live 5 1 (r4.fNew.map (eInt .u8))), (1048582, .live 67 1 (r4.fOld.map Image.enc)), (1048583, .live 114 12 (r4.fN.map Node.enc)), (1048584, .live 109 6 (r4.fD.map Disk.enc)), (1048585, .live 146 3 (r4.fNet.map Packet.enc)), (1048586, .live 99 3 (r4.fLog.map Sent.enc))]⟩) (mo := []) (mr := []) (by kernel_rfl) (by kernel_rfl) (by kernel_rfl) (by kernel_rfl)) ?_
    refine Wp.cond2 (b := r5 != r3) (by kernel_rfl) (fun hc => ?_) (fun hc => ?_)
    · have h := cond_t h hc
      refine Wp.seq ?_
      refine Wp.regionS (pOf []) (rhoOf []) (by kernel_rfl) ?_
      refine Runs.all (by kernel_rfl) ?_
      refine thenN ?_
      refine Wp.le (Le.of (s := ⟨[(1, .obj 1 0), (2, .t (.bool false)), (5, .obj 5 0)], [(1, [.t (.int .i64 p0.fC.fSize), .t (.int .i64 p0.fC.fWindow), .t (.int .i64 p0.fC.fSuspect), .t (.int .i64 p0.fC.fForget), .t (.sl 1 (p0.fT.fUp.map (eInt .i64))), .t (.sl 1 (p0.fNew.map (eInt .u8))), .t (.sl 1 (p0.fOld.map Image.enc)), .t (.sl 12 (p0.fN.map Node.enc)), .t (.sl 6 (p0.fD.map Disk.enc)), .t (.sl 3 (p0.fNet.map Packet.enc)), .t (.sl 3 (p0.fLog.map Sent.enc)), .t (.int .i64 p0.fLost)]), (5, [.t (.int .i64 r4.fC.fSize), .t (.int .i64 r4.fC.fWindow), .t (.int .i64 r4.fC.fSuspect), .t (.int .i64 r4.fC.fForget), .own 1048580, .own 1048581, .own 1048582, .own 1048583, .own 1048584, .own 1048585, .own 1048586, .t (.int .i64 r4.fLost)])], [(1048580, .live 3 1 (r4.fT.fUp.map (eInt .i64))), (1048581, .live 5 1 (r4.fNew.map (eInt .u8))), (1048582, .live 67 1 (r4.fOld.map Image.enc)), (1048583, .live 114 12 (r4.fN.map Node.enc)), (1048584, .live 109 6 (r4.fD.map Disk.enc)), (1048585, .live 146 3 (r4.fNet.map Packet.enc)), (1048586, .live 99 3 (r4.fLog.map Sent.enc))]⟩) (mo := []) (mr := []) (by kernel_rfl) (by kernel_rfl) (by kernel_rfl) (by kernel_rfl)) ?_
      refine Wp.ret ?_
      refine thenR ?_
      have hr := Option.some.inj h
      subst hr
      exact RetK [.t (.bool false)] (.one (.t (.bool false))) [] (by kernel_rfl) (by kernel_rfl) (.refl _) .nil
    · have h := cond_f h hc
      refine Wp.skip ?_
      refine thenN ?_
      refine Wp.seq ?_
      refine Wp.seq ?_
      refine Wp.le (Le.trans (Le.frzO 5 4 1048580 3 1 [.t (.int .i64 r4.fC.fSize), .t (.int .i64 r4.fC.fWindow), .t (.int .i64 r4.fC.fSuspect), .t (.int .i64 r4.fC.fForget), .own 1048580, .own 1048581, .own 1048582, .own 1048583, .own 1048584, .own 1048585, .own 1048586, .t (.int .i64 r4.fLost)] (r4.fT.fUp.map (eInt .i64)) (by kernel_rfl) (by kernel_rfl) (by kernel_rfl)) (Le.trans (Le.frzO 5 5 1048581 5 1 [.t (.int .i64 r4.fC.fSize), .t (.int .i64 r4.fC.fWindow), .t (.int .i64 r4.fC.fSuspect), .t (.int .i64 r4.fC.fForget), .t (.sl 1 (r4.fT.fUp.map (eInt .i64))), .own 1048581, .own 1048582, .own 1048583, .own 1048584, .own 1048585, .own 1048586, .t (.int .i64 r4.fLost)] (r4.fNew.map (eInt .u8)) (by kernel_rfl) (by kernel_rfl) (by kernel_rfl)) (Le.trans (Le.frzO 5 6 1048582 67 1 [.t (.int .i64 r4.fC.fSize), .t (.int .i64 r4.fC.fWindow), .t (.int .i64 r4.fC.fSuspect), .t (.int .i64 r4.fC.fForget), .t (.sl 1 (r4.fT.fUp.map (eInt .i64))), .t (.sl 1 (r4.fNew.map (eInt .u8))), .own 1048582, .own 1048583, .own 1048584, .own 1048585, .own 1048586, .t (.int .i64 r4.fLost)] (r4.fOld.map Image.enc) (by kernel_rfl) (by kernel_rfl) (by kernel_rfl)) (Le.trans (Le.frzO 5 7 1048583 114 12 [.t (.int .i64 r4.fC.fSize), .t (.int .i64 r4.fC.fWindow), .t (.int .i64 r4.fC.fSuspect), .t (.int .i64 r4.fC.fForget), .t (.sl 1 (r4.fT.fUp.map (eInt .i64))), .t (.sl 1 (r4.fNew.map (eInt .u8))), .t (.sl 1 (r4.fOld.map Image.enc)), .own 1048583, .own 1048584, .own 1048585, .own 1048586, .t (.int .i64 r4.fLost)] (r4.fN.map Node.enc) (by kernel_rfl) (by kernel_rfl) (by kernel_rfl)) (Le.trans (Le.frzO 5 8 1048584 109 6 [.t (.int .i64 r4.fC.fSize), .t (.int .i64 r4.fC.fWindow), .t (.int .i64 r4.fC.fSuspect), .t (.int .i64 r4.fC.fForget), .t (.sl 1 (r4.fT.fUp.map (eInt .i64))), .t (.sl 1 (r4.fNew.map (eInt .u8))), .t (.sl 1 (r4.fOld.map Image.enc)), .t (.sl 12 (r4.fN.map Node.enc)), .own 1048584, .own 1048585, .own 1048586, .t (.int .i64 r4.fLost)] (r4.fD.map Disk.enc) (by kernel_rfl) (by kernel_rfl) (by kernel_rfl)) (Le.trans (Le.frzO 5 9 1048585 146 3 [.t (.int .i64 r4.fC.fSize), .t (.int .i64 r4.fC.fWindow), .t (.int .i64 r4.fC.fSuspect), .t (.int .i64 r4.fC.fForget), .t (.sl 1 (r4.fT.fUp.map (eInt .i64))), .t (.sl 1 (r4.fNew.map (eInt .u8))), .t (.sl 1 (r4.fOld.map Image.enc)), .t (.sl 12 (r4.fN.map Node.enc)), .t (.sl 6 (r4.fD.map Disk.enc)), .own 1048585, .own 1048586, .t (.int .i64 r4.fLost)] (r4.fNet.map Packet.enc) (by kernel_rfl) (by kernel_rfl) (by kernel_rfl)) (Le.trans (Le.frzO 5 10 1048586 99 3 [.t (.int .i64 r4.fC.fSize), .t (.int .i64 r4.fC.fWindow), .t (.int .i64 r4.fC.fSuspect), .t (.int .i64 r4.fC.fForget), .t (.sl 1 (r4.fT.fUp.map (eInt .i64))), .t (.sl 1 (r4.fNew.map (eInt .u8))), .t (.sl 1 (r4.fOld.map Image.enc)), .t (.sl 12 (r4.fN.map Node.enc)), .t (.sl 6 (r4.fD.map Disk.enc)), .t (.sl 3 (r4.fNet.map Packet.enc)), .own 1048586, .t (.int .i64 r4.fLost)] (r4.fLog.map Sent.enc) (by kernel_rfl) (by kernel_rfl) (by kernel_rfl)) (Le.of (s := ⟨[(1, .obj 1 0), (2, .t (.bool false)), (5, .obj 5 0)], [(1, [.t (.int .i64 p0.fC.fSize), .t (.int .i64 p0.fC.fWindow), .t (.int .i64 p0.fC.fSuspect), .t (.int .i64 p0.fC.fForget), .t (.sl 1 (p0.fT.fUp.map (eInt .i64))), .t (.sl 1 (p0.fNew.map (eInt .u8))), .t (.sl 1 (p0.fOld.map Image.enc)), .t (.sl 12 (p0.fN.map Node.enc)), .t (.sl 6 (p0.fD.map Disk.enc)), .t (.sl 3 (p0.fNet.map Packet.enc)), .t (.sl 3 (p0.fLog.map Sent.enc)), .t (.int .i64 p0.fLost)]), (5, [.t (.int .i64 r4.fC.fSize), .t (.int .i64 r4.fC.fWindow), .t (.int .i64 r4.fC.fSuspect), .t (.int .i64 r4.fC.fForget), .t (.sl 1 (r4.fT.fUp.map (eInt .i64))), .t (.sl 1 (r4.fNew.map (eInt .u8))), .t (.sl 1 (r4.fOld.map Image.enc)), .t (.sl 12 (r4.fN.map Node.enc)), .t (.sl 6 (r4.fD.map Disk.enc)), .t (.sl 3 (r4.fNet.map Packet.enc)), .t (.sl 3 (r4.fLog.map Sent.enc)), .t (.int .i64 r4.fLost)])], []⟩) (mo := []) (mr := []) (by kernel_rfl) (by kernel_rfl) (by kernel_rfl) (by kernel_rfl))))))))) ?_
      refine Wp.regionA (pOf []) (rhoOf [(1, .obj 1), (5, .obj 5), (22, .frz), (23, .frz), (25, .frz)]) (by kernel_rfl) (by kernel_rfl) ?_
      refine Runs.batch 2 (by kernel_rfl) ?_
      obtain ⟨r6, e_r6, h⟩ := bind_some h
      refine Runs.callK false 24 26 [] [.agg [.t (.int .i64 p0.fC.fSize), .t (.int .i64 p0.fC.fWindow), .t (.int .i64 p0.fC.fSuspect), .t (.int .i64 p0.fC.fForget), .t (.sl 1 (p0.fT.fUp.map (eInt .i64))), .t (.sl 1 (p0.fNew.map (eInt .u8))), .t (.sl 1 (p0.fOld.map Image.enc)), .t (.sl 12 (p0.fN.map Node.enc)), .t (.sl 6 (p0.fD.map Disk.enc)), .t (.sl 3 (p0.fNet.map Packet.enc)), .t (.sl 3 (p0.fLog.map Sent.enc)), .t (.int .i64 p0.fLost)]] [.agg [.t (.int .i64 p0.fC.fSize), .t (.int .i64 p0.fC.fWindow), .t (.int .i64 p0.fC.fSuspect), .t (.int .i64 p0.fC.fForget), .t (.sl 1 (p0.fT.fUp.map (eInt .i64))), .t (.sl 1 (p0.fNew.map (eInt .u8))), .t (.sl 1 (p0.fOld.map Image.enc)), .t (.sl 12 (p0.fN.map Node.enc)), .t (.sl 6 (p0.fD.map Disk.enc)), .t (.sl 3 (p0.fNet.map Packet.enc)), .t (.sl 3 (p0.fLog.map Sent.enc)), .t (.int .i64 p0.fLost)]] (.agg [.t (.int .i64 r6.fC.fSize), .t (.int .i64 r6.fC.fWindow), .t (.int .i64 r6.fC.fSuspect), .t (.int .i64 r6.fC.fForget), .ow 3 1 (r6.fT.fUp.map (eInt .i64)), .ow 5 1 (r6.fNew.map (eInt .u8)), .ow 67 1 (r6.fOld.map Image.enc), .ow 114 12 (r6.fN.map Node.enc), .ow 109 6 (r6.fD.map Disk.enc), .ow 146 3 (r6.fNet.map Packet.enc), .ow 99 3 (r6.fLog.map Sent.enc), .t (.int .i64 r6.fLost)]) [] rfl rfl (by kernel_rfl) (by kernel_rfl) (by kernel_rfl) (by kernel_rfl) (by kernel_rfl) (laws_toWorld_ok u p0 r6 e_r6) (by kernel_rfl) ?_
      obtain ⟨r7, e_r7, h⟩ := bind_some h
      refine Runs.callBK 25 28 [] [.agg [.t (.int .i64 r4.fC.fSize), .t (.int .i64 r4.fC.fWindow), .t (.int .i64 r4.fC.fSuspect), .t (.int .i64 r4.fC.fForget), .t (.sl 1 (r4.fT.fUp.map (eInt .i64))), .t (.sl 1 (r4.fNew.map (eInt .u8))), .t (.sl 1 (r4.fOld.map Image.enc)), .t (.sl 12 (r4.fN.map Node.enc)), .t (.sl 6 (r4.fD.map Disk.enc)), .t (.sl 3 (r4.fNet.map Packet.enc)), .t (.sl 3 (r4.fLog.map Sent.enc)), .t (.int .i64 r4.fLost)], .agg [.t (.int .i64 r6.fC.fSize), .t (.int .i64 r6.fC.fWindow), .t (.int .i64 r6.fC.fSuspect), .t (.int .i64 r6.fC.fForget), .own 1572868, .own 1572869, .own 1572870, .own 1572871, .own 1572872, .own 1572873, .own 1572874, .t (.int .i64 r6.fLost)]] [.agg [.t (.int .i64 r4.fC.fSize), .t (.int .i64 r4.fC.fWindow), .t (.int .i64 r4.fC.fSuspect), .t (.int .i64 r4.fC.fForget), .t (.sl 1 (r4.fT.fUp.map (eInt .i64))), .t (.sl 1 (r4.fNew.map (eInt .u8))), .t (.sl 1 (r4.fOld.map Image.enc)), .t (.sl 12 (r4.fN.map Node.enc)), .t (.sl 6 (r4.fD.map Disk.enc)), .t (.sl 3 (r4.fNet.map Packet.enc)), .t (.sl 3 (r4.fLog.map Sent.enc)), .t (.int .i64 r4.fLost)], .agg [.t (.int .i64 r6.fC.fSize), .t (.int .i64 r6.fC.fWindow), .t (.int .i64 r6.fC.fSuspect), .t (.int .i64 r6.fC.fForget), .t (.sl 1 (r6.fT.fUp.map (eInt .i64))), .t (.sl 1 (r6.fNew.map (eInt .u8))), .t (.sl 1 (r6.fOld.map Image.enc)), .t (.sl 12 (r6.fN.map Node.enc)), .t (.sl 6 (r6.fD.map Disk.enc)), .t (.sl 3 (r6.fNet.map Packet.enc)), .t (.sl 3 (r6.fLog.map Sent.enc)), .t (.int .i64 r6.fLost)]] (.one (.t (.bool r7))) rfl rfl (by kernel_rfl) (by kernel_rfl) (by kernel_rfl) (by kernel_rfl) (by kernel_rfl) (laws_eqWorld_ok u r4 r6 r7 e_r7) (by simp [V.plain, V.plains, C.plain, T.sc]) (by kernel_rfl) ?_
      refine Runs.all (by kernel_rfl) ?_
      refine thenN ?_
      refine Wp.le (Le.of (s := ⟨[(2, .t (.bool false)), (26, .t (.bool (!r7)))], [], []⟩) (mo := []) (mr := []) (by kernel_rfl) (by kernel_rfl) (by kernel_rfl) (by kernel_rfl)) ?_
      refine Wp.cond2 (b := !r7) (by kernel_rfl) (fun hc => ?_) (fun hc => ?_)
      · have h := cond_t h hc
        refine Wp.seq ?_
        refine Wp.regionS (pOf []) (rhoOf []) (by kernel_rfl) ?_
        refine Runs.all (by kernel_rfl) ?_
        refine thenN ?_
        refine Wp.le (Le.of (s := ⟨[(2, .t (.bool false))], [], []⟩) (mo := []) (mr := []) (by kernel_rfl) (by kernel_rfl) (by kernel_rfl) (by kernel_rfl)) ?_
        refine Wp.ret ?_
        refine thenR ?_
        have hr := Option.some.inj h
        subst hr
        exact RetK [.t (.bool false)] (.one (.t (.bool false))) [] (by kernel_rfl) (by kernel_rfl) (.refl _) .nil
      · have h := cond_f h hc
        refine Wp.skip ?_
        refine thenN ?_
        refine Wp.seq ?_
        refine Wp.regionS (pOf []) (rhoOf []) (by kernel_rfl) ?_
        refine Runs.all (by kernel_rfl) ?_
        refine thenN ?_
        refine Wp.le (Le.of (s := ⟨[(2, .t (.bool true))], [], []⟩) (mo := []) (mr := []) (by kernel_rfl) (by kernel_rfl) (by kernel_rfl) (by kernel_rfl)) ?_
        refine Wp.ret ?_
        have hr := Option.some.inj h
        subst hr
        exact RetK [.t (.bool true)] (.one (.t (.bool true))) [] (by kernel_rfl) (by kernel_rfl) (.refl _) .nil
end Go.Tm
