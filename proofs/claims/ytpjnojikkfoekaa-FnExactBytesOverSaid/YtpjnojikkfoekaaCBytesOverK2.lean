/- The functions as they are translated do what the pure functions say (printed). -/
import Derived.Test.YtpjnojikkfoekaaCBytesOverK1
import Derived.Test.YtpjnojikkfoekaaTm38
import Derived.Test.YtpjnojikkfoekaaProg
set_option maxRecDepth 100000
set_option linter.unusedVariables false
set_option linter.unusedSimpArgs false
namespace Go.Tm
open Go.Proofs
theorem laws_toSentS_ok (u : Nat) (p0 : List Sent) (r : (List Sent)) (h : laws_toSentS u p0 = some r) : CallOK Try.prog 64 [.one (.t (.sl 3 (p0.map Sent.enc)))] (.one (.ow 99 3 (r.map Sent.enc))) [] := by
  unfold laws_toSentS at h
  refine CallOK.of_bodyK (fn := Try.f64) (m := true) [.t (.sl 3 (p0.map Sent.enc))] (by kernel_rfl) rfl (by kernel_rfl) (by kernel_rfl) (by kernel_rfl) (by kernel_rfl) (by kernel_rfl) ?_
  refine Wp.seq ?_
  refine Wp.regionS (pOf []) (rhoOf []) (by kernel_rfl) ?_
  refine Runs.all (by kernel_rfl) ?_
  refine thenN ?_
  refine Wp.le (Le.of (s := ⟨[(0, .t (.sl 3 (p0.map Sent.enc))), (2, .nil)], [], []⟩) (mo := []) (mr := []) (by kernel_rfl) (by kernel_rfl) (by kernel_rfl) (by kernel_rfl)) ?_
  refine Wp.seq ?_
  refine Wp.regionS (pOf []) (rhoOf []) (by kernel_rfl) ?_
  refine Runs.batch 1 (by kernel_rfl) ?_
  refine Runs.lenT (y := .t (.sl 3 (p0.map Sent.enc))) (e := 149) Sent.enc p0 3 rfl rfl rfl (by kernel_rfl) (by kernel_rfl) (by kernel_rfl) (by kernel_rfl) (by kernel_rfl) ?_
  obtain ⟨_, e_1, h⟩ := bind_some h
  obtain ⟨_, e_2, h⟩ := bind_some h
  refine Runs.mkS Sent.enc ((Sent.mk 0 0 0) : Sent) 7 99 3 24 ((p0.length : Int)) ((p0.length : Int)) rfl rfl (by kernel_rfl) (by kernel_rfl) (by kernel_rfl) (by kernel_rfl) (by kernel_rfl) (by kernel_rfl) (chk_some e_1) (of_decide_eq_true (chk_some e_2)) (by kernel_rfl) ?_
  refine Runs.all (by kernel_rfl) ?_
  refine thenN ?_
  refine Wp.le (Le.of (s := ⟨[(0, .t (.sl 3 (p0.map Sent.enc))), (2, .nil), (3, .own 458752)], [], [(458752, .live 99 3 ((List.replicate (Int.toNat ((p0.length : Int))) ((Sent.mk 0 0 0) : Sent)).map Sent.enc))]⟩) (mo := []) (mr := []) (by kernel_rfl) (by kernel_rfl) (by kernel_rfl) (by kernel_rfl)) ?_
  refine Wp.seqJ (α := (List Sent)) (fun a => ⟨[(2, .nil), (3, .own 196609)], [], [(196609, .live 99 3 (a.map Sent.enc))]⟩) (fun a => laws_toSentS_j1 u a = some r) ?_ ?_
  · rintro x12 h
    change laws_toSentS_j1 u x12 = some r at h
    unfold laws_toSentS_j1 at h
    refine Wp.seq ?_
    refine Wp.regionS (pOf []) (rhoOf []) (by kernel_rfl) ?_
    refine Runs.all (by kernel_rfl) ?_
    refine thenN ?_
    refine Wp.le (Le.of (s := ⟨[(2, .own 196609)], [], [(196609, .live 99 3 (x12.map Sent.enc))]⟩) (mo := []) (mr := []) (by kernel_rfl) (by kernel_rfl) (by kernel_rfl) (by kernel_rfl)) ?_
    refine Wp.ret ?_
    have hr := Option.some.inj h
    subst hr
    exact RetK [.own 196609] (.one (.ow 99 3 (x12.map Sent.enc))) [] (by kernel_rfl) (by kernel_rfl) (.refl _) .nil
  · refine Wp.seq ?_
    refine Wp.regionS (pOf []) (rhoOf []) (by kernel_rfl) ?_
    refine Runs.all (by kernel_rfl) ?_
    refine thenN ?_
    refine Wp.le (Le.of (s := ⟨[(0, .t (.sl 3 (p0.map Sent.enc))), (2, .nil), (3, .own 458752), (4, .t (.int .i64 0))], [], [(458752, .live 99 3 ((List.replicate (Int.toNat ((p0.length : Int))) ((Sent.mk 0 0 0) : Sent)).map Sent.enc))]⟩) (mo := []) (mr := []) (by kernel_rfl) (by kernel_rfl) (by kernel_rfl) (by kernel_rfl)) ?_
    refine Wp.block ?_
    refine Wp.loopF (α := (List Sent) × (List Sent) × Int) (fun a => ⟨[(0, .t (.sl 3 (a.1.map Sent.enc))), (2, .nil), (3, .own 196609), (4, .t (.int .i64 a.2.2))], [], [(196609, .live 99 3 (a.2.1.map Sent.enc))]⟩) (fun k_laws_toSentS_l2 a => laws_toSentS_l2 u k_laws_toSentS_l2 a.1 a.2.1 a.2.2 = some r) ?_ ?_ u (p0, List.replicate (Int.toNat ((p0.length : Int))) ((Sent.mk 0 0 0) : Sent), 0) h (Le.of (mo := []) (mr := [(196609, 458752)]) (by kernel_rfl) (by kernel_rfl) (by kernel_rfl) (by kernel_rfl))
    · intro a h; unfold laws_toSentS_l2 at h; cases h
    · rintro k_laws_toSentS_l2 ⟨p0, x5, x6⟩ h
      change laws_toSentS_l2 u (k_laws_toSentS_l2 + 1) p0 x5 x6 = some r at h
      rw [laws_toSentS_l2] at h
      refine Wp.seq ?_
      refine Wp.seq ?_
      refine Wp.regionS (pOf []) (rhoOf []) (by kernel_rfl) ?_
      refine Runs.batch 2 (by kernel_rfl) ?_
      refine Runs.lenT (y := .t (.sl 3 (p0.map Sent.enc))) (e := 149) Sent.enc p0 3 rfl rfl rfl (by kernel_rfl) (by kernel_rfl) (by kernel_rfl) (by kernel_rfl) (by kernel_rfl) ?_
      refine Runs.all (by kernel_rfl) ?_
      refine thenN ?_
      refine Wp.le (Le.of (s := ⟨[(0, .t (.sl 3 (p0.map Sent.enc))), (2, .nil), (3, .own 196609), (4, .t (.int .i64 x6)), (8, .t (.int .i64 x6)), (9, .t (.sl 3 (p0.map Sent.enc))), (10, .t (.int .i64 ((p0.length : Int)))), (11, .t (.bool (decide (x6 < ((p0.length : Int))))))], [], [(196609, .live 99 3 (x5.map Sent.enc))]⟩) (mo := []) (mr := []) (by kernel_rfl) (by kernel_rfl) (by kernel_rfl) (by kernel_rfl)) ?_
      refine Wp.cond2 (b := decide (x6 < ((p0.length : Int)))) (by kernel_rfl) (fun hc => ?_) (fun hc => ?_)
      · have h := cond_t h hc
        refine Wp.skip ?_
        refine thenN ?_
        refine Wp.seq ?_
        refine Wp.block ?_
        refine Wp.regionS (pOf []) (rhoOf []) (by kernel_rfl) ?_
        refine Runs.batch 4 (by kernel_rfl) ?_
        obtain ⟨y9, e_y9, h⟩ := bind_some h
        refine Runs.idxT (e := 149) (kk := .i64) (sz := 3) Sent.enc p0 x6 rfl (by kernel_rfl) (by kernel_rfl) (by kernel_rfl) (by kernel_rfl) (by kernel_rfl) (by kernel_rfl) e_y9 ?_
        refine Runs.batch 1 (by kernel_rfl) ?_
        obtain ⟨r10, e_r10, h⟩ := bind_some h
        refine Runs.callK false 20 115 [] [.agg [.t (.int .i64 y9.fFrom), .t (.int .i64 y9.fTo), .t (.int .i64 y9.fI)]] [.agg [.t (.int .i64 y9.fFrom), .t (.int .i64 y9.fTo), .t (.int .i64 y9.fI)]] (.agg [.t (.int .i64 r10.fFrom), .t (.int .i64 r10.fTo), .t (.int .i64 r10.fI)]) [] rfl rfl (by kernel_rfl) (by kernel_rfl) (by kernel_rfl) (by kernel_rfl) (by kernel_rfl) (laws_toSent_ok u y9 r10 e_r10) (by kernel_rfl) ?_
        obtain ⟨y11, e_y11, h⟩ := bind_some h
        refine Runs.idxO (e := 99) (e' := 99) (kk := .i64) (sz := 3) Sent.enc x5 x6 196609 rfl (by kernel_rfl) (by kernel_rfl) (by kernel_rfl) (by kernel_rfl) (by kernel_rfl) (by kernel_rfl) (by kernel_rfl) e_y11 ?_
        refine Runs.storeT (e := 99) (sz := 3) (m := 3) Sent.enc x5 196609 (Int.toNat x6) 0 r10 (.agg [.t (.int .i64 r10.fFrom), .t (.int .i64 r10.fTo), .t (.int .i64 r10.fI)]) [.int .i64 r10.fFrom, .int .i64 r10.fTo, .int .i64 r10.fI] rfl (by kernel_rfl) (by kernel_rfl) (by kernel_rfl) (by kernel_rfl) (by kernel_rfl) (by kernel_rfl) (by kernel_rfl) (by kernel_rfl) (idx_some e_y11).2 (by kernel_rfl) (by kernel_rfl) ?_
        refine Runs.done ?_
        refine blkN ?_
        refine thenN ?_
        refine Wp.regionS (pOf []) (rhoOf []) (by kernel_rfl) ?_
        refine Runs.all (by kernel_rfl) ?_
        refine thenN ?_
        exact ⟨(p0, x5.set (Int.toNat x6) r10, bAdd .i64 x6 1), h, Le.of (mo := []) (mr := []) (by kernel_rfl) (by kernel_rfl) (by kernel_rfl) (by kernel_rfl)⟩
      · have h := cond_f h hc
        refine Wp.exit ?_
        refine thenE ?_
        refine thenE ?_
        refine blkE ?_
        refine thenN ?_
        exact ⟨x5, h, Le.of (mo := []) (mr := []) (by kernel_rfl) (by kernel_rfl) (by kernel_rfl) (by kernel_rfl)⟩
theorem laws_toWorld_ok (u : Nat) (p0 : World) (r : World) (h : laws_toWorld u p0 = some r) : CallOK Try.prog 26 [.agg [.t (.int .i64 p0.fC.fSize), .t (.int .i64 p0.fC.fWindow), .t (.int .i64 p0.fC.fSuspect), .t (.int .i64 p0.fC.fForget), .t (.sl 1 (p0.fT.fUp.map (eInt .i64))), .t (.sl 1 (p0.fNew.map (eInt .u8))), .t (.sl 1 (p0.fOld.map Image.enc)), .t (.sl 12 (p0.fN.map Node.enc)), .t (.sl 6 (p0.fD.map Disk.enc)), .t (.sl 3 (p0.fNet.map Packet.enc)), .t (.sl 3 (p0.fLog.map Sent.enc)), .t (.int .i64 p0.fLost)]] (.agg [.t (.int .i64 r.fC.fSize), .t (.int .i64 r.fC.fWindow), .t (.int .i64 r.fC.fSuspect), .t (.int .i64 r.fC.fForget), .ow 3 1 (r.fT.fUp.map (eInt .i64)), .ow 5 1 (r.fNew.map (eInt .u8)), .ow 67 1 (r.fOld.map Image.enc), .ow 114 12 (r.fN.map Node.enc), .ow 109 6 (r.fD.map Disk.enc), .ow 146 3 (r.fNet.map Packet.enc), .ow 99 3 (r.fLog.map Sent.enc), .t (.int .i64 r.fLost)]) [] := by
  unfold laws_toWorld at h
  refine CallOK.of_bodyK (fn := Try.f26) (m := true) [.agg [.t (.int .i64 p0.fC.fSize), .t (.int .i64 p0.fC.fWindow), .t (.int .i64 p0.fC.fSuspect), .t (.int .i64 p0.fC.fForget), .t (.sl 1 (p0.fT.fUp.map (eInt .i64))), .t (.sl 1 (p0.fNew.map (eInt .u8))), .t (.sl 1 (p0.fOld.map Image.enc)), .t (.sl 12 (p0.fN.map Node.enc)), .t (.sl 6 (p0.fD.map Disk.enc)), .t (.sl 3 (p0.fNet.map Packet.enc)), .t (.sl 3 (p0.fLog.map Sent.enc)), .t (.int .i64 p0.fLost)]] (by kernel_rfl) rfl (by kernel_rfl) (by kernel_rfl) (by kernel_rfl) (by kernel_rfl) (by kernel_rfl) ?_
  refine Wp.seq ?_
  refine Wp.regionS (pOf []) (rhoOf []) (by kernel_rfl) ?_
  refine Runs.all (by kernel_rfl) ?_
  refine thenN ?_
  refine Wp.le (Le.of (s := ⟨[(1, .obj 1 0), (2, .obj 2 0)], [(1, [.t (.int .i64 p0.fC.fSize), .t (.int .i64 p0.fC.fWindow), .t (.int .i64 p0.fC.fSuspect), .t (.int .i64 p0.fC.fForget), .t (.sl 1 (p0.fT.fUp.map (eInt .i64))), .t (.sl 1 (p0.fNew.map (eInt .u8))), .t (.sl 1 (p0.fOld.map Image.enc)), .t (.sl 12 (p0.fN.map Node.enc)), .t (.sl 6 (p0.fD.map Disk.enc)), .t (.sl 3 (p0.fNet.map Packet.enc)), .t (.sl 3 (p0.fLog.map Sent.enc)), .t (.int .i64 p0.fLost)]), (2, [.t (.int .i64 0), .t (.int .i64 0), .t (.int .i64 0), .t (.int .i64 0), .nil, .nil, .nil, .nil, .nil, .nil, .nil, .t (.int .i64 0)])], []⟩) (mo := []) (mr := []) (by kernel_rfl) (by kernel_rfl) (by kernel_rfl) (by kernel_rfl)) ?_
  refine Wp.seq ?_
  refine Wp.regionS (pOf []) (rhoOf []) (by kernel_rfl) ?_
  refine Runs.all (by kernel_rfl) ?_
  refine thenN ?_
  refine Wp.le (Le.of (s := ⟨[(1, .obj 1 0), (2, .obj 2 0), (3, .obj 3 0)], [(1, [.t (.int .i64 p0.fC.fSize), .t (.int .i64 p0.fC.fWindow), .t (.int .i64 p0.fC.fSuspect), .t (.int .i64 p0.fC.fForget), .t (.sl 1 (p0.fT.fUp.map (eInt .i64))), .t (.sl 1 (p0.fNew.map (eInt .u8))), .t (.sl 1 (p0.fOld.map Image.enc)), .t (.sl 12 (p0.fN.map Node.enc)), .t (.sl 6 (p0.fD.map Disk.enc)), .t (.sl 3 (p0.fNet.map Packet.enc)), .t (.sl 3 (p0.fLog.map Sent.enc)), .t (.int .i64 p0.fLost)]), (2, [.t (.int .i64 0), .t (.int .i64 0), .t (.int .i64 0), .t (.int .i64 0), .nil, .nil, .nil, .nil, .nil, .nil, .nil, .t (.int .i64 0)]), (3, [.t (.int .i64 0), .t (.int .i64 0), .t (.int .i64 0), .t (.int .i64 0), .nil, .nil, .nil, .nil, .nil, .nil, .nil, .t (.int .i64 0)])], []⟩) (mo := []) (mr := []) (by kernel_rfl) (by kernel_rfl) (by kernel_rfl) (by kernel_rfl)) ?_
  refine Wp.seq ?_
  refine Wp.regionS (pOf []) (rhoOf []) (by kernel_rfl) ?_
  refine Runs.batch 2 (by kernel_rfl) ?_
  obtain ⟨r1, e_r1, h⟩ := bind_some h
  refine Runs.callK false 6 59 [] [.agg [.t (.int .i64 p0.fC.fSize), .t (.int .i64 p0.fC.fWindow), .t (.int .i64 p0.fC.fSuspect), .t (.int .i64 p0.fC.fForget)]] [.agg [.t (.int .i64 p0.fC.fSize), .t (.int .i64 p0.fC.fWindow), .t (.int .i64 p0.fC.fSuspect), .t (.int .i64 p0.fC.fForget)]] (.agg [.t (.int .i64 r1.fSize), .t (.int .i64 r1.fWindow), .t (.int .i64 r1.fSuspect), .t (.int .i64 r1.fForget)]) [] rfl rfl (by kernel_rfl) (by kernel_rfl) (by kernel_rfl) (by kernel_rfl) (by kernel_rfl) (laws_toConf_ok u p0.fC r1 e_r1) (by kernel_rfl) ?_
  refine Runs.all (by kernel_rfl) ?_
  refine thenN ?_
  refine Wp.le (Le.of (s := ⟨[(1, .obj 1 0), (2, .obj 2 0), (3, .obj 3 0)], [(1, [.t (.int .i64 p0.fC.fSize), .t (.int .i64 p0.fC.fWindow), .t (.int .i64 p0.fC.fSuspect), .t (.int .i64 p0.fC.fForget), .t (.sl 1 (p0.fT.fUp.map (eInt .i64))), .t (.sl 1 (p0.fNew.map (eInt .u8))), .t (.sl 1 (p0.fOld.map Image.enc)), .t (.sl 12 (p0.fN.map Node.enc)), .t (.sl 6 (p0.fD.map Disk.enc)), .t (.sl 3 (p0.fNet.map Packet.enc)), .t (.sl 3 (p0.fLog.map Sent.enc)), .t (.int .i64 p0.fLost)]), (2, [.t (.int .i64 0), .t (.int .i64 0), .t (.int .i64 0), .t (.int .i64 0), .nil, .nil, .nil, .nil, .nil, .nil, .nil, .t (.int .i64 0)]), (3, [.t (.int .i64 r1.fSize), .t (.int .i64 r1.fWindow), .t (.int .i64 r1.fSuspect), .t (.int .i64 r1.fForget), .nil, .nil, .nil, .nil, .nil, .nil, .nil, .t (.int .i64 0)])], []⟩) (mo := []) (mr := []) (by kernel_rfl) (by kernel_rfl) (by kernel_rfl) (by kernel_rfl)) ?_
  refine Wp.seq ?_
  refine Wp.regionS (pOf []) (rhoOf []) (by kernel_rfl) ?_
  refine Runs.batch 2 (by kernel_rfl) ?_
  obtain ⟨r2, e_r2, h⟩ := bind_some h
  refine Runs.callK false 10 60 [] [.agg [.t (.sl 1 (p0.fT.fUp.map (eInt .i64)))]] [.agg [.t (.sl 1 (p0.fT.fUp.map (eInt .i64)))]] (.agg [.ow 3 1 (r2.fUp.map (eInt .i64))]) [] rfl rfl (by kernel_rfl) (by kernel_rfl) (by kernel_rfl) (by kernel_rfl) (by kernel_rfl) (laws_toTree_ok u p0.fT r2 e_r2) (by kernel_rfl) ?_
  refine Runs.all (by kernel_rfl) ?_
  refine thenN ?_
  refine Wp.le (Le.of (s := ⟨[(1, .obj 1 0), (2, .obj 2 0), (3, .obj 3 0)], [(1, [.t (.int .i64 p0.fC.fSize), .t (.int .i64 p0.fC.fWindow), .t (.int .i64 p0.fC.fSuspect), .t (.int .i64 p0.fC.fForget), .t (.sl 1 (p0.fT.fUp.map (eInt .i64))), .t (.sl 1 (p0.fNew.map (eInt .u8))), .t (.sl 1 (p0.fOld.map Image.enc)), .t (.sl 12 (p0.fN.map Node.enc)), .t (.sl 6 (p0.fD.map Disk.enc)), .t (.sl 3 (p0.fNet.map Packet.enc)), .t (.sl 3 (p0.fLog.map Sent.enc)), .t (.int .i64 p0.fLost)]), (2, [.t (.int .i64 0), .t (.int .i64 0), .t (.int .i64 0), .t (.int .i64 0), .nil, .nil, .nil, .nil, .nil, .nil, .nil, .t (.int .i64 0)]), (3, [.t (.int .i64 r1.fSize), .t (.int .i64 r1.fWindow), .t (.int .i64 r1.fSuspect), .t (.int .i64 r1.fForget), .own 655360, .nil, .nil, .nil, .nil, .nil, .nil, .t (.int .i64 0)])], [(655360, .live 3 1 (r2.fUp.map (eInt .i64)))]⟩) (mo := []) (mr := []) (by kernel_rfl) (by kernel_rfl) (by kernel_rfl) (by kernel_rfl)) ?_
  refine Wp.seq ?_
  refine Wp.regionS (pOf []) (rhoOf []) (by kernel_rfl) ?_
  refine Runs.batch 2 (by kernel_rfl) ?_
  obtain ⟨r3, e_r3, h⟩ := bind_some h
  refine Runs.callK false 14 14 [] [.t (.sl 1 (p0.fNew.map (eInt .u8)))] [.one (.t (.sl 1 (p0.fNew.map (eInt .u8))))] (.one (.ow 5 1 (r3.map (eInt .u8)))) [] rfl rfl (by kernel_rfl) (by kernel_rfl) (by kernel_rfl) (by kernel_rfl) (by kernel_rfl) (laws_toByteS_ok u p0.fNew r3 e_r3) (by kernel_rfl) ?_
  refine Runs.all (by kernel_rfl) ?_
  refine thenN ?_
  refine Wp.le (Le.of (s := ⟨[(1, .obj 1 0), (2, .obj 2 0), (3, .obj 3 0)], [(1, [.t (.int .i64 p0.fC.fSize), .t (.int .i64 p0.fC.fWindow), .t (.int .i64 p0.fC.fSuspect), .t (.int .i64 p0.fC.fForget), .t (.sl 1 (p0.fT.fUp.map (eInt .i64))), .t (.sl 1 (p0.fNew.map (eInt .u8))), .t (.sl 1 (p0.fOld.map Image.enc)), .t (.sl 12 (p0.fN.map Node.enc)), .t (.sl 6 (p0.fD.map Disk.enc)), .t (.sl 3 (p0.fNet.map Packet.enc)), .t (.sl 3 (p0.fLog.map Sent.enc)), .t (.int .i64 p0.fLost)]), (2, [.t (.int .i64 0), .t (.int .i64 0), .t (.int .i64 0), .t (.int .i64 0), .nil, .nil, .nil, .nil, .nil, .nil, .nil, .t (.int .i64 0)]), (3, [.t (.int .i64 r1.fSize), .t (.int .i64 r1.fWindow), .t (.int .i64 r1.fSuspect), .t (.int .i64 r1.fForget), .own 655360, .own 917504, .nil, .nil, .nil, .nil, .nil, .t (.int .i64 0)])], [(655360, .live 3 1 (r2.fUp.map (eInt .i64))), (917504, .live 5 1 (r3.map (eInt .u8)))]⟩) (mo := []) (mr := []) (by kernel_rfl) (by kernel_rfl) (by kernel_rfl) (by kernel_rfl)) ?_
  refine Wp.seq ?_
  refine Wp.regionS (pOf []) (rhoOf []) (by kernel_rfl) ?_
  refine Runs.batch 2 (by kernel_rfl) ?_
  obtain ⟨r4, e_r4, h⟩ := bind_some h
  refine Runs.callK false 18 19 [] [.t (.sl 1 (p0.fOld.map Image.enc))] [.one (.t (.sl 1 (p0.fOld.map Image.enc)))] (.one (.ow 67 1 (r4.map Image.enc))) [] rfl rfl (by kernel_rfl) (by kernel_rfl) (by kernel_rfl) (by kernel_rfl) (by kernel_rfl) (laws_toImageS_ok u p0.fOld r4 e_r4) (by kernel_rfl) ?_
  refine Runs.all (by kernel_rfl) ?_
  refine thenN ?_
  refine Wp.le (Le.of (s := ⟨[(1, .obj 1 0), (2, .obj 2 0), (3, .obj 3 0)], [(1, [.t (.int .i64 p0.fC.fSize), .t (.int .i64 p0.fC.fWindow), .t (.int .i64 p0.fC.fSuspect), .t (.int .i64 p0.fC.fForget), .t (.sl 1 (p0.fT.fUp.map (eInt .i64))), .t (.sl 1 (p0.fNew.map (eInt .u8))), .t (.sl 1 (p0.fOld.map Image.enc)), .t (.sl 12 (p0.fN.map Node.enc)), .t (.sl 6 (p0.fD.map Disk.enc)), .t (.sl 3 (p0.fNet.map Packet.enc)), .t (.sl 3 (p0.fLog.map Sent.enc)), .t (.int .i64 p0.fLost)]), (2, [.t (.int .i64 0), .t (.int .i64 0), .t (.int .i64 0), .t (.int .i64 0), .nil, .nil, .nil, .nil, .nil, .nil, .nil, .t (.int .i64 0)]), (3, [.t (.int .i64 r1.fSize), .t (.int .i64 r1.fWindow), .t (.int .i64 r1.fSuspect), .t (.int .i64 r1.fForget), .own 655360, .own 917504, .own 1179648, .nil, .nil, .nil, .nil, .t (.int .i64 0)])], [(655360, .live 3 1 (r2.fUp.map (eInt .i64))), (917504, .live 5 1 (r3.map (eInt .u8))), (1179648, .live 67 1 (r4.map Image.enc))]⟩) (mo := []) (mr := []) (by kernel_rfl) (by kernel_rfl) (by kernel_rfl) (by kernel_rfl)) ?_
  refine Wp.seq ?_
  refine Wp.regionS (pOf []) (rhoOf []) (by kernel_rfl) ?_
  refine Runs.batch 2 (by kernel_rfl) ?_
  obtain ⟨r5, e_r5, h⟩ := bind_some h
  refine Runs.callK false 22 61 [] [.t (.sl 12 (p0.fN.map Node.enc))] [.one (.t (.sl 12 (p0.fN.map Node.enc)))] (.one (.ow 114 12 (r5.map Node.enc))) [] rfl rfl (by kernel_rfl) (by kernel_rfl) (by kernel_rfl) (by kernel_rfl) (by kernel_rfl) (laws_toNodeS_ok u p0.fN r5 e_r5) (by kernel_rfl) ?_
  refine Runs.all (by kernel_rfl) ?_
  refine thenN ?_
  refine Wp.le (Le.of (s := ⟨[(1, .obj 1 0), (2, .obj 2 0), (3, .obj 3 0)], [(1, [.t (.int .i64 p0.fC.fSize), .t (.int .i64 p0.fC.fWindow), .t (.int .i64 p0.fC.fSuspect), .t (.int .i64 p0.fC.fForget), .t (.sl 1 (p0.fT.fUp.map (eInt .i64))), .t (.sl 1 (p0.fNew.map (eInt .u8))), .t (.sl 1 (p0.fOld.map Image.enc)), .t (.sl 12 (p0.fN.map Node.enc)), .t (.sl 6 (p0.fD.map Disk.enc)), .t (.sl 3 (p0.fNet.map Packet.enc)), .t (.sl 3 (p0.fLog.map Sent.enc)), .t (.int .i64 p0.fLost)]), (2, [.t (.int .i64 0), .t (.int .i64 0), .t (.int .i64 0), .t (.int .i64 0), .nil, .nil, .nil, .nil, .nil, .nil, .nil, .t (.int .i64 0)]), (3, [.t (.int .i64 r1.fSize), .t (.int .i64 r1.fWindow), .t (.int .i64 r1.fSuspect), .t (.int .i64 r1.fForget), .own 655360, .own 917504, .own 1179648, .own 1441792, .nil, .nil, .nil, .t (.int .i64 0)])], [(655360, .live 3 1 (r2.fUp.map (eInt .i64))), (917504, .live 5 1 (r3.map (eInt .u8))), (1179648, .live 67 1 (r4.map Image.enc)), (1441792, .live 114 12 (r5.map Node.enc))]⟩) (mo := []) (mr := []) (by kernel_rfl) (by kernel_rfl) (by kernel_rfl) (by kernel_rfl)) ?_
  refine Wp.seq ?_
  refine Wp.regionS (pOf []) (rhoOf []) (by kernel_rfl) ?_
  refine Runs.batch 2 (by kernel_rfl) ?_
  obtain ⟨r6, e_r6, h⟩ := bind_some h
  refine Runs.callK false 26 62 [] [.t (.sl 6 (p0.fD.map Disk.enc))] [.one (.t (.sl 6 (p0.fD.map Disk.enc)))] (.one (.ow 109 6 (r6.map Disk.enc))) [] rfl rfl (by kernel_rfl) (by kernel_rfl) (by kernel_rfl) (by kernel_rfl) (by kernel_rfl) (laws_toDiskS_ok u p0.fD r6 e_r6) (by kernel_rfl) ?_
  refine Runs.all (by kernel_rfl) ?_
  refine thenN ?_
  refine Wp.le (Le.of (s := ⟨[(1, .obj 1 0), (2, .obj 2 0), (3, .obj 3 0)], [(1, [.t (.int .i64 p0.fC.fSize), .t (.int .i64 p0.fC.fWindow), .t (.int .i64 p0.fC.fSuspect), .t (.int .i64 p0.fC.fForget), .t (.sl 1 (p0.fT.fUp.map (eInt .i64))), .t (.sl 1 (p0.fNew.map (eInt .u8))), .t (.sl 1 (p0.fOld.map Image.enc)), .t (.sl 12 (p0.fN.map Node.enc)), .t (.sl 6 (p0.fD.map Disk.enc)), .t (.sl 3 (p0.fNet.map Packet.enc)), .t (.sl 3 (p0.fLog.map Sent.enc)), .t (.int .i64 p0.fLost)]), (2, [.t (.int .i64 0), .t (.int .i64 0), .t (.int .i64 0), .t (.int .i64 0), .nil, .nil, .nil, .nil, .nil, .nil, .nil, .t (.int .i64 0)]), (3, [.t (.int .i64 r1.fSize), .t (.int .i64 r1.fWindow), .t (.int .i64 r1.fSuspect), .t (.int .i64 r1.fForget), .own 655360, .own 917504, .own 1179648, .own 1441792, .own 1703936, .nil, .nil, .t (.int .i64 0)])], [(655360, .live 3 1 (r2.fUp.map (eInt .i64))), (917504, .live 5 1 (r3.map (eInt .u8))), (1179648, .live 67 1 (r4.map Image.enc)), (1441792, .live 114 12 (r5.map Node.enc)), (1703936, .live 109 6 (r6.map Disk.enc))]⟩) (mo := []) (mr := []) (by kernel_rfl) (by kernel_rfl) (by kernel_rfl) (by kernel_rfl)) ?_
  refine Wp.seq ?_
  refine Wp.regionS (pOf []) (rhoOf []) (by kernel_rfl) ?_
  refine Runs.batch 2 (by kernel_rfl) ?_
  obtain ⟨r7, e_r7, h⟩ := bind_some h
  refine Runs.callK false 30 63 [] [.t (.sl 3 (p0.fNet.map Packet.enc))] [.one (.t (.sl 3 (p0.fNet.map Packet.enc)))] (.one (.ow 146 3 (r7.map Packet.enc))) [] rfl rfl (by kernel_rfl) (by kernel_rfl) (by kernel_rfl) (by kernel_rfl) (by kernel_rfl) (laws_toPacketS_ok u p0.fNet r7 e_r7) (by kernel_rfl) ?_
  refine Runs.all (by kernel_rfl) ?_
  refine thenN ?_
  refine Wp.le (Le.of (s := ⟨[(1, .obj 1 0), (2, .obj 2 0), (3, .obj 3 0)], [(1, [.t (.int .i64 p0.fC.fSize), .t (.int .i64 p0.fC.fWindow), .t (.int .i64 p0.fC.fSuspect), .t (.int .i64 p0.fC.fForget), .t (.sl 1 (p0.fT.fUp.map (eInt .i64))), .t (.sl 1 (p0.fNew.map (eInt .u8))), .t (.sl 1 (p0.fOld.map Image.enc)), .t (.sl 12 (p0.fN.map Node.enc)), .t (.sl 6 (p0.fD.map Disk.enc)), .t (.sl 3 (p0.fNet.map Packet.enc)), .t (.sl 3 (p0.fLog.map Sent.enc)), .t (.int .i64 p0.fLost)]), (2, [.t (.int .i64 0), .t (.int .i64 0), .t (.int .i64 0), .t (.int .i64 0), .nil, .nil, .nil, .nil, .nil, .nil, .nil, .t (.int .i64 0)]), (3, [.t (.int .i64 r1.fSize), .t (.int .i64 r1.fWindow), .t (.int .i64 r1.fSuspect), .t (.int .i64 r1.fForget), .own 655360, .own 917504, .own 1179648, .own 1441792, .own 1703936, .own 1966080, .nil, .t (.int .i64 0)])], [(655360, .live 3 1 (r2.fUp.map (eInt .i64))), (917504, .live 5 1 (r3.map (eInt .u8))), (1179648, .live 67 1 (r4.map Image.enc)), (1441792, .live 114 12 (r5.map Node.enc)), (1703936, .live 109 6 (r6.map Disk.enc)), (1966080, .live 146 3 (r7.map Packet.enc))]⟩) (mo := []) (mr := []) (by kernel_rfl) (by kernel_rfl) (by kernel_rfl) (by kernel_rfl)) ?_
  refine Wp.seq ?_
  refine Wp.regionS (pOf []) (rhoOf []) (by kernel_rfl) ?_
  refine Runs.batch 2 (by kernel_rfl) ?_
  obtain ⟨r8, e_r8, h⟩ := bind_some h
  refine Runs.callK false 34 64 [] [.t (.sl 3 (p0.fLog.map Sent.enc))] [.one (.t (.sl 3 (p0.fLog.map Sent.enc)))] (.one (.ow 99 3 (r8.map Sent.enc))) [] rfl rfl (by kernel_rfl) (by kernel_rfl) (by kernel_rfl) (by kernel_rfl) (by kernel_rfl) (laws_toSentS_ok u p0.fLog r8 e_r8) (by kernel_rfl) ?_
  refine Runs.all (by kernel_rfl) ?_
  refine thenN ?_
  refine Wp.le (Le.of (s := ⟨[(1, .obj 1 0), (2, .obj 2 0), (3, .obj 3 0)], [(1, [.t (.int .i64 p0.fC.fSize), .t (.int .i64 p0.fC.fWindow), .t (.int .i64 p0.fC.fSuspect), .t (.int .i64 p0.fC.fForget), .t (.sl 1 (p0.fT.fUp.map (eInt .i64))), .t (.sl 1 (p0.fNew.map (eInt .u8))), .t (.sl 1 (p0.fOld.map Image.enc)), .t (.sl 12 (p0.fN.map Node.enc)), .t (.sl 6 (p0.fD.map Disk.enc)), .t (.sl 3 (p0.fNet.map Packet.enc)), .t (.sl 3 (p0.fLog.map Sent.enc)), .t (.int .i64 p0.fLost)]), (2, [.t (.int .i64 0), .t (.int .i64 0), .t (.int .i64 0), .t (.int .i64 0), .nil, .nil, .nil, .nil, .nil, .nil, .nil, .t (.int .i64 0)]), (3, [.t (.int .i64 r1.fSize), .t (.int .i64 r1.fWindow), .t (.int .i64 r1.fSuspect), .t (.int .i64 r1.fForget), .own 655360, .own 917504, .own 1179648, .own 1441792, .own 1703936, .own 1966080, .own 2228224, .t (.int .i64 0)])], [(655360, .live 3 1 (r2.fUp.map (eInt .i64))), (917504, .live 5 1 (r3.map (eInt .u8))), (1179648, .live 67 1 (r4.map Image.enc)), (1441792, .live 114 12 (r5.map Node.enc)), (1703936, .live 109 6 (r6.map Disk.enc)), (1966080, .live 146 3 (r7.map Packet.enc)), (2228224, .live 99 3 (r8.map Sent.enc))]⟩) (mo := []) (mr := []) (by kernel_rfl) (by kernel_rfl) (by kernel_rfl) (by kernel_rfl)) ?_
  refine Wp.seq ?_
  refine Wp.regionS (pOf []) (rhoOf []) (by kernel_rfl) ?_
  refine Runs.all (by kernel_rfl) ?_
  refine thenN ?_
  refine Wp.le (Le.of (s := ⟨[(2, .obj 2 0), (3, .obj 3 0)], [(2, [.t (.int .i64 0), .t (.int .i64 0), .t (.int .i64 0), .t (.int .i64 0), .nil, .nil, .nil, .nil, .nil, .nil, .nil, .t (.int .i64 0)]), (3, [.t (.int .i64 r1.fSize), .t (.int .i64 r1.fWindow), .t (.int .i64 r1.fSuspect), .t (.int .i64 r1.fForget), .own 655360, .own 917504, .own 1179648, .own 1441792, .own 1703936, .own 1966080, .own 2228224, .t (.int .i64 p0.fLost)])], [(655360, .live 3 1 (r2.fUp.map (eInt .i64))), (917504, .live 5 1 (r3.map (eInt .u8))), (1179648, .live 67 1 (r4.map Image.enc)), (1441792, .live 114 12 (r5.map Node.enc)), (1703936, .live 109 6 (r6.map Disk.enc)), (1966080, .live 146 3 (r7.map Packet.enc)), (2228224, .live 99 3 (r8.map Sent.enc))]⟩) (mo := []) (mr := []) (by kernel_rfl) (by kernel_rfl) (by kernel_rfl) (by kernel_rfl)) ?_
  refine Wp.seq ?_
  refine Wp.regionS (pOf []) (rhoOf []) (by kernel_rfl) ?_
  refine Runs.all (by kernel_rfl) ?_
  refine thenN ?_
  refine Wp.le (Le.of (s := ⟨[(2, .obj 2 0)], [(2, [.t (.int .i64 r1.fSize), .t (.int .i64 r1.fWindow), .t (.int .i64 r1.fSuspect), .t (.int .i64 r1.fForget), .own 655360, .own 917504, .own 1179648, .own 1441792, .own 1703936, .own 1966080, .own 2228224, .t (.int .i64 p0.fLost)])], [(655360, .live 3 1 (r2.fUp.map (eInt .i64))), (917504, .live 5 1 (r3.map (eInt .u8))), (1179648, .live 67 1 (r4.map Image.enc)), (1441792, .live 114 12 (r5.map Node.enc)), (1703936, .live 109 6 (r6.map Disk.enc)), (1966080, .live 146 3 (r7.map Packet.enc)), (2228224, .live 99 3 (r8.map Sent.enc))]⟩) (mo := []) (mr := []) (by kernel_rfl) (by kernel_rfl) (by kernel_rfl) (by kernel_rfl)) ?_
  refine Wp.ret ?_
  have hr := Option.some.inj h
  subst hr
  exact RetK [.agg [.t (.int .i64 r1.fSize), .t (.int .i64 r1.fWindow), .t (.int .i64 r1.fSuspect), .t (.int .i64 r1.fForget), .own 655360, .own 917504, .own 1179648, .own 1441792, .own 1703936, .own 1966080, .own 2228224, .t (.int .i64 p0.fLost)]] (.agg [.t (.int .i64 r1.fSize), .t (.int .i64 r1.fWindow), .t (.int .i64 r1.fSuspect), .t (.int .i64 r1.fForget), .ow 3 1 (r2.fUp.map (eInt .i64)), .ow 5 1 (r3.map (eInt .u8)), .ow 67 1 (r4.map Image.enc), .ow 114 12 (r5.map Node.enc), .ow 109 6 (r6.map Disk.enc), .ow 146 3 (r7.map Packet.enc), .ow 99 3 (r8.map Sent.enc), .t (.int .i64 p0.fLost)]) [] (by kernel_rfl) (by kernel_rfl) (.refl _) .nil
theorem spec_PartsOver_ok (u : Nat) (p0 : World) (p1 : Int) (p2 : Int) (r : (List Int)) (h : spec_PartsOver u p0 p1 p2 = some r) : CallOK Try.prog 77 [.agg [.t (.int .i64 p0.fC.fSize), .t (.int .i64 p0.fC.fWindow), .t (.int .i64 p0.fC.fSuspect), .t (.int .i64 p0.fC.fForget), .t (.sl 1 (p0.fT.fUp.map (eInt .i64))), .t (.sl 1 (p0.fNew.map (eInt .u8))), .t (.sl 1 (p0.fOld.map Image.enc)), .t (.sl 12 (p0.fN.map Node.enc)), .t (.sl 6 (p0.fD.map Disk.enc)), .t (.sl 3 (p0.fNet.map Packet.enc)), .t (.sl 3 (p0.fLog.map Sent.enc)), .t (.int .i64 p0.fLost)], .one (.t (.int .i64 p1)), .one (.t (.int .i64 p2))] (.one (.ow 3 1 (r.map (eInt .i64)))) [] := by
  unfold spec_PartsOver at h
  refine CallOK.of_bodyK (fn := Try.f77) (m := true) [.agg [.t (.int .i64 p0.fC.fSize), .t (.int .i64 p0.fC.fWindow), .t (.int .i64 p0.fC.fSuspect), .t (.int .i64 p0.fC.fForget), .t (.sl 1 (p0.fT.fUp.map (eInt .i64))), .t (.sl 1 (p0.fNew.map (eInt .u8))), .t (.sl 1 (p0.fOld.map Image.enc)), .t (.sl 12 (p0.fN.map Node.enc)), .t (.sl 6 (p0.fD.map Disk.enc)), .t (.sl 3 (p0.fNet.map Packet.enc)), .t (.sl 3 (p0.fLog.map Sent.enc)), .t (.int .i64 p0.fLost)], .t (.int .i64 p1), .t (.int .i64 p2)] (by kernel_rfl) rfl (by kernel_rfl) (by kernel_rfl) (by kernel_rfl) (by kernel_rfl) (by kernel_rfl) ?_
  refine Wp.seq ?_
  refine Wp.regionS (pOf []) (rhoOf []) (by kernel_rfl) ?_
  refine Runs.all (by kernel_rfl) ?_
  refine thenN ?_
  refine Wp.le (Le.of (s := ⟨[(1, .t (.int .i64 p1)), (2, .t (.int .i64 p2)), (3, .obj 3 0), (6, .nil)], [(3, [.t (.int .i64 p0.fC.fSize), .t (.int .i64 p0.fC.fWindow), .t (.int .i64 p0.fC.fSuspect), .t (.int .i64 p0.fC.fForget), .t (.sl 1 (p0.fT.fUp.map (eInt .i64))), .t (.sl 1 (p0.fNew.map (eInt .u8))), .t (.sl 1 (p0.fOld.map Image.enc)), .t (.sl 12 (p0.fN.map Node.enc)), .t (.sl 6 (p0.fD.map Disk.enc)), .t (.sl 3 (p0.fNet.map Packet.enc)), .t (.sl 3 (p0.fLog.map Sent.enc)), .t (.int .i64 p0.fLost)])], []⟩) (mo := []) (mr := []) (by kernel_rfl) (by kernel_rfl) (by kernel_rfl) (by kernel_rfl)) ?_
  refine Wp.seq ?_
  refine Wp.regionS (pOf []) (rhoOf []) (by kernel_rfl) ?_
  refine Runs.all (by kernel_rfl) ?_
  refine thenN ?_
  refine Wp.le (Le.of (s := ⟨[(1, .t (.int .i64 p1)), (2, .t (.int .i64 p2)), (3, .obj 3 0), (6, .nil), (7, .own 589824)], [(3, [.t (.int .i64 p0.fC.fSize), .t (.int .i64 p0.fC.fWindow), .t (.int .i64 p0.fC.fSuspect), .t (.int .i64 p0.fC.fForget), .t (.sl 1 (p0.fT.fUp.map (eInt .i64))), .t (.sl 1 (p0.fNew.map (eInt .u8))), .t (.sl 1 (p0.fOld.map Image.enc)), .t (.sl 12 (p0.fN.map Node.enc)), .t (.sl 6 (p0.fD.map Disk.enc)), .t (.sl 3 (p0.fNet.map Packet.enc)), .t (.sl 3 (p0.fLog.map Sent.enc)), .t (.int .i64 p0.fLost)])], [(589824, .live 3 1 ((([] : List Int)).map (eInt .i64)))]⟩) (mo := []) (mr := []) (by kernel_rfl) (by kernel_rfl) (by kernel_rfl) (by kernel_rfl)) ?_
  refine Wp.seqJ (α := (List Int)) (fun a => ⟨[(6, .nil), (7, .own 458753)], [], [(458753, .live 3 1 (a.map (eInt .i64)))]⟩) (fun a => spec_PartsOver_j1 u a = some r) ?_ ?_
  · rintro x13 h
    change spec_PartsOver_j1 u x13 = some r at h
    unfold spec_PartsOver_j1 at h
    refine Wp.seq ?_
    refine Wp.regionS (pOf []) (rhoOf []) (by kernel_rfl) ?_
    refine Runs.all (by kernel_rfl) ?_
    refine thenN ?_
    refine Wp.le (Le.of (s := ⟨[(6, .own 458753)], [], [(458753, .live 3 1 (x13.map (eInt .i64)))]⟩) (mo := []) (mr := []) (by kernel_rfl) (by kernel_rfl) (by kernel_rfl) (by kernel_rfl)) ?_
    refine Wp.ret ?_
    have hr := Option.some.inj h
    subst hr
    exact RetK [.own 458753] (.one (.ow 3 1 (x13.map (eInt .i64)))) [] (by kernel_rfl) (by kernel_rfl) (.refl _) .nil
  · refine Wp.seq ?_
    refine Wp.regionS (pOf []) (rhoOf []) (by kernel_rfl) ?_
    refine Runs.all (by kernel_rfl) ?_
    refine thenN ?_
    refine Wp.le (Le.of (s := ⟨[(1, .t (.int .i64 p1)), (2, .t (.int .i64 p2)), (3, .obj 3 0), (6, .nil), (7, .own 589824), (8, .t (.int .i64 0))], [(3, [.t (.int .i64 p0.fC.fSize), .t (.int .i64 p0.fC.fWindow), .t (.int .i64 p0.fC.fSuspect), .t (.int .i64 p0.fC.fForget), .t (.sl 1 (p0.fT.fUp.map (eInt .i64))), .t (.sl 1 (p0.fNew.map (eInt .u8))), .t (.sl 1 (p0.fOld.map Image.enc)), .t (.sl 12 (p0.fN.map Node.enc)), .t (.sl 6 (p0.fD.map Disk.enc)), .t (.sl 3 (p0.fNet.map Packet.enc)), .t (.sl 3 (p0.fLog.map Sent.enc)), .t (.int .i64 p0.fLost)])], [(589824, .live 3 1 ((([] : List Int)).map (eInt .i64)))]⟩) (mo := []) (mr := []) (by kernel_rfl) (by kernel_rfl) (by kernel_rfl) (by kernel_rfl)) ?_
    refine Wp.block ?_
    refine Wp.loopF (α := Int × Int × (List Int) × Int × World) (fun a => ⟨[(1, .t (.int .i64 a.1)), (2, .t (.int .i64 a.2.1)), (3, .obj 3 0), (6, .nil), (7, .own 458753), (8, .t (.int .i64 a.2.2.2.1))], [(3, [.t (.int .i64 a.2.2.2.2.fC.fSize), .t (.int .i64 a.2.2.2.2.fC.fWindow), .t (.int .i64 a.2.2.2.2.fC.fSuspect), .t (.int .i64 a.2.2.2.2.fC.fForget), .t (.sl 1 (a.2.2.2.2.fT.fUp.map (eInt .i64))), .t (.sl 1 (a.2.2.2.2.fNew.map (eInt .u8))), .t (.sl 1 (a.2.2.2.2.fOld.map Image.enc)), .t (.sl 12 (a.2.2.2.2.fN.map Node.enc)), .t (.sl 6 (a.2.2.2.2.fD.map Disk.enc)), .t (.sl 3 (a.2.2.2.2.fNet.map Packet.enc)), .t (.sl 3 (a.2.2.2.2.fLog.map Sent.enc)), .t (.int .i64 a.2.2.2.2.fLost)])], [(458753, .live 3 1 (a.2.2.1.map (eInt .i64)))]⟩) (fun k_spec_PartsOver_l2 a => spec_PartsOver_l2 u k_spec_PartsOver_l2 a.1 a.2.1 a.2.2.1 a.2.2.2.1 a.2.2.2.2 = some r) ?_ ?_ u (p1, p2, ([] : List Int), 0, p0) h (Le.of (mo := []) (mr := [(458753, 589824)]) (by kernel_rfl) (by kernel_rfl) (by kernel_rfl) (by kernel_rfl))
    · intro a h; unfold spec_PartsOver_l2 at h; cases h
    · rintro k_spec_PartsOver_l2 ⟨p1, p2, x3, x4, p0⟩ h
      change spec_PartsOver_l2 u (k_spec_PartsOver_l2 + 1) p1 p2 x3 x4 p0 = some r at h
      rw [spec_PartsOver_l2] at h
      refine Wp.seq ?_
      refine Wp.seq ?_
      refine Wp.regionS (pOf []) (rhoOf []) (by kernel_rfl) ?_
      refine Runs.batch 3 (by kernel_rfl) ?_
      refine Runs.lenT (y := .t (.sl 3 (p0.fLog.map Sent.enc))) (e := 99) Sent.enc p0.fLog 3 rfl rfl rfl (by kernel_rfl) (by kernel_rfl) (by kernel_rfl) (by kernel_rfl) (by kernel_rfl) ?_
      refine Runs.all (by kernel_rfl) ?_
      refine thenN ?_
      refine Wp.le (Le.of (s := ⟨[(1, .t (.int .i64 p1)), (2, .t (.int .i64 p2)), (3, .obj 3 0), (6, .nil), (7, .own 458753), (8, .t (.int .i64 x4)), (10, .t (.int .i64 x4)), (11, .obj 3 10), (12, .t (.sl 3 (p0.fLog.map Sent.enc))), (13, .t (.int .i64 ((p0.fLog.length : Int)))), (14, .t (.bool (decide (x4 < ((p0.fLog.length : Int))))))], [(3, [.t (.int .i64 p0.fC.fSize), .t (.int .i64 p0.fC.fWindow), .t (.int .i64 p0.fC.fSuspect), .t (.int .i64 p0.fC.fForget), .t (.sl 1 (p0.fT.fUp.map (eInt .i64))), .t (.sl 1 (p0.fNew.map (eInt .u8))), .t (.sl 1 (p0.fOld.map Image.enc)), .t (.sl 12 (p0.fN.map Node.enc)), .t (.sl 6 (p0.fD.map Disk.enc)), .t (.sl 3 (p0.fNet.map Packet.enc)), .t (.sl 3 (p0.fLog.map Sent.enc)), .t (.int .i64 p0.fLost)])], [(458753, .live 3 1 (x3.map (eInt .i64)))]⟩) (mo := []) (mr := []) (by kernel_rfl) (by kernel_rfl) (by kernel_rfl) (by kernel_rfl)) ?_
      refine Wp.cond2 (b := decide (x4 < ((p0.fLog.length : Int)))) (by kernel_rfl) (fun hc => ?_) (fun hc => ?_)
      · have h := cond_t h hc
        refine Wp.skip ?_
        refine thenN ?_
        refine Wp.seqJ (α := Int × Int × (List Int) × Int × World × Sent × Bool × Bool) (fun a => ⟨[(1, .t (.int .i64 a.1)), (2, .t (.int .i64 a.2.1)), (3, .obj 3 0), (6, .nil), (7, .own 458753), (8, .t (.int .i64 a.2.2.2.1)), (10, .t (.int .i64 a.2.2.2.1)), (11, .obj 3 10), (12, .t (.sl 3 (a.2.2.2.2.1.fLog.map Sent.enc))), (13, .t (.int .i64 ((a.2.2.2.2.1.fLog.length : Int)))), (14, .t (.bool (decide (a.2.2.2.1 < ((a.2.2.2.2.1.fLog.length : Int)))))), (17, .obj 3 10), (18, .t (.sl 3 (a.2.2.2.2.1.fLog.map Sent.enc))), (19, .t (.int .i64 a.2.2.2.1)), (20, .fadr [.int .i64 a.2.2.2.2.2.1.fFrom, .int .i64 a.2.2.2.2.2.1.fTo, .int .i64 a.2.2.2.2.2.1.fI]), (21, .fadr [.int .i64 a.2.2.2.2.2.1.fFrom, .int .i64 a.2.2.2.2.2.1.fTo, .int .i64 a.2.2.2.2.2.1.fI]), (22, .t (.int .i64 a.2.2.2.2.2.1.fFrom)), (23, .t (.int .i64 a.1)), (24, .t (.bool (a.2.2.2.2.2.1.fFrom == a.1))), (25, .t (.bool a.2.2.2.2.2.2.1)), (34, .t (.bool a.2.2.2.2.2.2.2))], [(3, [.t (.int .i64 a.2.2.2.2.1.fC.fSize), .t (.int .i64 a.2.2.2.2.1.fC.fWindow), .t (.int .i64 a.2.2.2.2.1.fC.fSuspect), .t (.int .i64 a.2.2.2.2.1.fC.fForget), .t (.sl 1 (a.2.2.2.2.1.fT.fUp.map (eInt .i64))), .t (.sl 1 (a.2.2.2.2.1.fNew.map (eInt .u8))), .t (.sl 1 (a.2.2.2.2.1.fOld.map Image.enc)), .t (.sl 12 (a.2.2.2.2.1.fN.map Node.enc)), .t (.sl 6 (a.2.2.2.2.1.fD.map Disk.enc)), .t (.sl 3 (a.2.2.2.2.1.fNet.map Packet.enc)), .t (.sl 3 (a.2.2.2.2.1.fLog.map Sent.enc)), .t (.int .i64 a.2.2.2.2.1.fLost)])], [(458753, .live 3 1 (a.2.2.1.map (eInt .i64)))]⟩) (fun a => spec_PartsOver_j3 u (fun z0 z1 z2 z3 z4 => spec_PartsOver_l2 u k_spec_PartsOver_l2 z0 z1 z2 z3 z4) a.1 a.2.1 a.2.2.1 a.2.2.2.1 a.2.2.2.2.1 a.2.2.2.2.2.1 a.2.2.2.2.2.2.1 a.2.2.2.2.2.2.2 = some r) ?_ ?_
        · rintro ⟨p1, p2, x12, x4, p0, y7, x9, x10⟩ h
          change spec_PartsOver_j3 u (fun z0 z1 z2 z3 z4 => spec_PartsOver_l2 u k_spec_PartsOver_l2 z0 z1 z2 z3 z4) p1 p2 x12 x4 p0 y7 x9 x10 = some r at h
          unfold spec_PartsOver_j3 at h
          refine Wp.regionS (pOf []) (rhoOf []) (by kernel_rfl) ?_
          refine Runs.all (by kernel_rfl) ?_
          refine thenN ?_
          exact ⟨(p1, p2, x12, bAdd .i64 x4 1, p0), h, Le.of (mo := []) (mr := []) (by kernel_rfl) (by kernel_rfl) (by kernel_rfl) (by kernel_rfl)⟩
        · refine Wp.block ?_
          refine Wp.seqJ (α := Int × Int × (List Int) × Int × World × Sent × Bool × Bool) (fun a => ⟨[(1, .t (.int .i64 a.1)), (2, .t (.int .i64 a.2.1)), (3, .obj 3 0), (6, .nil), (7, .own 458753), (8, .t (.int .i64 a.2.2.2.1)), (10, .t (.int .i64 a.2.2.2.1)), (11, .obj 3 10), (12, .t (.sl 3 (a.2.2.2.2.1.fLog.map Sent.enc))), (13, .t (.int .i64 ((a.2.2.2.2.1.fLog.length : Int)))), (14, .t (.bool (decide (a.2.2.2.1 < ((a.2.2.2.2.1.fLog.length : Int)))))), (17, .obj 3 10), (18, .t (.sl 3 (a.2.2.2.2.1.fLog.map Sent.enc))), (19, .t (.int .i64 a.2.2.2.1)), (20, .fadr [.int .i64 a.2.2.2.2.2.1.fFrom, .int .i64 a.2.2.2.2.2.1.fTo, .int .i64 a.2.2.2.2.2.1.fI]), (21, .fadr [.int .i64 a.2.2.2.2.2.1.fFrom, .int .i64 a.2.2.2.2.2.1.fTo, .int .i64 a.2.2.2.2.2.1.fI]), (22, .t (.int .i64 a.2.2.2.2.2.1.fFrom)), (23, .t (.int .i64 a.1)), (24, .t (.bool (a.2.2.2.2.2.1.fFrom == a.1))), (25, .t (.bool a.2.2.2.2.2.2.1)), (34, .t (.bool a.2.2.2.2.2.2.2))], [(3, [.t (.int .i64 a.2.2.2.2.1.fC.fSize), .t (.int .i64 a.2.2.2.2.1.fC.fWindow), .t (.int .i64 a.2.2.2.2.1.fC.fSuspect), .t (.int .i64 a.2.2.2.2.1.fC.fForget), .t (.sl 1 (a.2.2.2.2.1.fT.fUp.map (eInt .i64))), .t (.sl 1 (a.2.2.2.2.1.fNew.map (eInt .u8))), .t (.sl 1 (a.2.2.2.2.1.fOld.map Image.enc)), .t (.sl 12 (a.2.2.2.2.1.fN.map Node.enc)), .t (.sl 6 (a.2.2.2.2.1.fD.map Disk.enc)), .t (.sl 3 (a.2.2.2.2.1.fNet.map Packet.enc)), .t (.sl 3 (a.2.2.2.2.1.fLog.map Sent.enc)), .t (.int .i64 a.2.2.2.2.1.fLost)])], [(458753, .live 3 1 (a.2.2.1.map (eInt .i64)))]⟩) (fun a => spec_PartsOver_j4 u (fun z0 z1 z2 z3 z4 => spec_PartsOver_l2 u k_spec_PartsOver_l2 z0 z1 z2 z3 z4) a.1 a.2.1 a.2.2.1 a.2.2.2.1 a.2.2.2.2.1 a.2.2.2.2.2.1 a.2.2.2.2.2.2.1 a.2.2.2.2.2.2.2 = some r) ?_ ?_
          · rintro ⟨p1, p2, x3, x4, p0, y7, x9, x10⟩ h
            change spec_PartsOver_j4 u (fun z0 z1 z2 z3 z4 => spec_PartsOver_l2 u k_spec_PartsOver_l2 z0 z1 z2 z3 z4) p1 p2 x3 x4 p0 y7 x9 x10 = some r at h
            unfold spec_PartsOver_j4 at h
            refine Wp.cond2 (b := x10) (by kernel_rfl) (fun hc => ?_) (fun hc => ?_)
            · have h := cond_t h hc
              refine Wp.regionS (pOf []) (rhoOf []) (by kernel_rfl) ?_
              refine Runs.batch 4 (by kernel_rfl) ?_
              obtain ⟨y11, e_y11, h⟩ := bind_some h
              refine Runs.idxT (e := 99) (kk := .i64) (sz := 3) Sent.enc p0.fLog x4 rfl (by kernel_rfl) (by kernel_rfl) (by kernel_rfl) (by kernel_rfl) (by kernel_rfl) (by kernel_rfl) e_y11 ?_
              refine Runs.batch 3 (by kernel_rfl) ?_
              obtain ⟨_, e_12, h⟩ := bind_some h
              refine Runs.appT (y := .own 2752512) (eInt .i64) 43 1 3 1 8 458753 x3 ([y11.fI]) rfl rfl rfl rfl (by kernel_rfl) (by kernel_rfl) (by kernel_rfl) (by kernel_rfl) (by kernel_rfl) (by kernel_rfl) (.inl rfl) (by kernel_rfl) (of_decide_eq_true (chk_some e_12)) (by kernel_rfl) (by kernel_rfl) ?_
              refine Runs.all (by kernel_rfl) ?_
              refine blkN ?_
              refine thenN ?_
              exact ⟨(p1, p2, x3 ++ ([y11.fI]), x4, p0, y7, x9, x10), h, Le.of (mo := []) (mr := [(458753, 2818048)]) (by kernel_rfl) (by kernel_rfl) (by kernel_rfl) (by kernel_rfl)⟩
            · have h := cond_f h hc
              refine Wp.skip ?_
              refine blkN ?_
              refine thenN ?_
              exact ⟨(p1, p2, x3, x4, p0, y7, x9, x10), h, Le.of (mo := []) (mr := []) (by kernel_rfl) (by kernel_rfl) (by kernel_rfl) (by kernel_rfl)⟩
          · refine Wp.regionS (pOf []) (rhoOf []) (by kernel_rfl) ?_
            refine Runs.batch 3 (by kernel_rfl) ?_
            obtain ⟨y7, e_y7, h⟩ := bind_some h
            refine Runs.idxT (e := 99) (kk := .i64) (sz := 3) Sent.enc p0.fLog x4 rfl (by kernel_rfl) (by kernel_rfl) (by kernel_rfl) (by kernel_rfl) (by kernel_rfl) (by kernel_rfl) e_y7 ?_
            refine Runs.batch 5 (by kernel_rfl) ?_
            rcases tf (y7.fFrom == p1) with hc | hc
            · have h := cond_t h hc
              refine Runs.known 25 (v := true) (by kernel_rfl) hc ?_
              refine Runs.batch 3 (by kernel_rfl) ?_
              obtain ⟨y8, e_y8, h⟩ := bind_some h
              refine Runs.idxT (e := 99) (kk := .i64) (sz := 3) Sent.enc p0.fLog x4 rfl (by kernel_rfl) (by kernel_rfl) (by kernel_rfl) (by kernel_rfl) (by kernel_rfl) (by kernel_rfl) e_y8 ?_
              refine Runs.all (by kernel_rfl) ?_
              refine thenN ?_
              exact ⟨(p1, p2, x3, x4, p0, y7, true, y8.fTo == p2), h, Le.of (mo := []) (mr := []) (by kernel_rfl) (by kernel_rfl) (by kernel_rfl) (by kernel_rfl)⟩
            · have h := cond_f h hc
              refine Runs.known 25 (v := false) (by kernel_rfl) hc ?_
              refine Runs.all (by kernel_rfl) ?_
              refine thenN ?_
              exact ⟨(p1, p2, x3, x4, p0, y7, false, false), h, Le.of (mo := []) (mr := []) (by kernel_rfl) (by kernel_rfl) (by kernel_rfl) (by kernel_rfl)⟩
      · have h := cond_f h hc
        refine Wp.exit ?_
        refine thenE ?_
        refine thenE ?_
        refine blkE ?_
        refine thenN ?_
        exact ⟨x3, h, Le.of (mo := []) (mr := []) (by kernel_rfl) (by kernel_rfl) (by kernel_rfl) (by kernel_rfl)⟩
theorem spec_l1In_ok (u : Nat) (p0 : Int) (p1 : Int) (p2 : Int) (r : Bool) (h : spec_l1In u p0 p1 p2 = some r) : CallOK Try.prog 79 [.one (.t (.int .i64 p0)), .one (.t (.int .i64 p1)), .one (.t (.int .i64 p2))] (.one (.t (.bool r))) [] := by
  unfold spec_l1In at h
  refine CallOK.of_bodyK (fn := Try.f79) (m := false) [.t (.int .i64 p0), .t (.int .i64 p1), .t (.int .i64 p2)] (by kernel_rfl) rfl (by kernel_rfl) (by kernel_rfl) (by kernel_rfl) (by kernel_rfl) (by kernel_rfl) ?_
  refine Wp.seq ?_
  refine Wp.regionS (pOf []) (rhoOf []) (by kernel_rfl) ?_
  refine Runs.all (by kernel_rfl) ?_
  refine thenN ?_
  refine Wp.le (Le.of (s := ⟨[(0, .t (.int .i64 p0)), (1, .t (.int .i64 p1)), (2, .t (.int .i64 p2)), (6, .t (.bool false))], [], []⟩) (mo := []) (mr := []) (by kernel_rfl) (by kernel_rfl) (by kernel_rfl) (by kernel_rfl)) ?_
  refine Wp.seq ?_
  refine Wp.regionS (pOf []) (rhoOf []) (by kernel_rfl) ?_
  refine Runs.batch 4 (by kernel_rfl) ?_
  rcases tf (decide (p0 ≥ p1)) with hc | hc
  · have h := cond_t h hc
    refine Runs.known 10 (v := true) (by kernel_rfl) hc ?_
    refine Runs.all (by kernel_rfl) ?_
    refine thenN ?_
    refine Wp.le (Le.of (s := ⟨[(6, .t (.bool (decide (p0 ≤ p2))))], [], []⟩) (mo := []) (mr := []) (by kernel_rfl) (by kernel_rfl) (by kernel_rfl) (by kernel_rfl)) ?_
    refine Wp.ret ?_
    have hr := Option.some.inj h
    subst hr
    exact RetK [.t (.bool (decide (p0 ≤ p2)))] (.one (.t (.bool (decide (p0 ≤ p2))))) [] (by kernel_rfl) (by kernel_rfl) (.refl _) .nil
  · have h := cond_f h hc
    refine Runs.known 10 (v := false) (by kernel_rfl) hc ?_
    refine Runs.all (by kernel_rfl) ?_
    refine thenN ?_
    refine Wp.le (Le.of (s := ⟨[(6, .t (.bool false))], [], []⟩) (mo := []) (mr := []) (by kernel_rfl) (by kernel_rfl) (by kernel_rfl) (by kernel_rfl)) ?_
    refine Wp.ret ?_
    have hr := Option.some.inj h
    subst hr
    exact RetK [.t (.bool false)] (.one (.t (.bool false))) [] (by kernel_rfl) (by kernel_rfl) (.refl _) .nil
theorem spec_SizeOk_ok (u : Nat) (p0 : Int) (p1 : Int) (r : Bool) (h : spec_SizeOk u p0 p1 = some r) : CallOK Try.prog 43 [.one (.t (.int .i64 p0)), .one (.t (.int .i64 p1))] (.one (.t (.bool r))) [] := by
  unfold spec_SizeOk at h
  refine CallOK.of_bodyK (fn := Try.f43) (m := false) [.t (.int .i64 p0), .t (.int .i64 p1)] (by kernel_rfl) rfl (by kernel_rfl) (by kernel_rfl) (by kernel_rfl) (by kernel_rfl) (by kernel_rfl) ?_
  refine Wp.seq ?_
  refine Wp.regionS (pOf []) (rhoOf []) (by kernel_rfl) ?_
  refine Runs.all (by kernel_rfl) ?_
  refine thenN ?_
  refine Wp.le (Le.of (s := ⟨[(0, .t (.int .i64 p0)), (1, .t (.int .i64 p1)), (4, .t (.bool false))], [], []⟩) (mo := []) (mr := []) (by kernel_rfl) (by kernel_rfl) (by kernel_rfl) (by kernel_rfl)) ?_
  refine Wp.seq ?_
  refine Wp.regionS (pOf []) (rhoOf []) (by kernel_rfl) ?_
  refine Runs.batch 1 (by kernel_rfl) ?_
  obtain ⟨r1, e_r1, h⟩ := bind_some h
  refine Runs.callK false 6 79 [] [.t (.int .i64 p0), .t (.int .i64 2), .t (.int .i64 6)] [.one (.t (.int .i64 p0)), .one (.t (.int .i64 2)), .one (.t (.int .i64 6))] (.one (.t (.bool r1))) [] rfl rfl (by kernel_rfl) (by kernel_rfl) (by kernel_rfl) (by kernel_rfl) (by kernel_rfl) (spec_l1In_ok u p0 2 6 r1 e_r1) (by kernel_rfl) ?_
  refine Runs.batch 1 (by kernel_rfl) ?_
  rcases tf (r1) with hc | hc
  · have h := cond_t h hc
    refine Runs.known 7 (v := true) (by kernel_rfl) hc ?_
    refine Runs.batch 3 (by kernel_rfl) ?_
    obtain ⟨r2, e_r2, h⟩ := bind_some h
    refine Runs.callK false 11 79 [] [.t (.int .i64 p1), .t (.int .i64 0), .t (.int .i64 (bMul .i64 p0 40))] [.one (.t (.int .i64 p1)), .one (.t (.int .i64 0)), .one (.t (.int .i64 (bMul .i64 p0 40)))] (.one (.t (.bool r2))) [] rfl rfl (by kernel_rfl) (by kernel_rfl) (by kernel_rfl) (by kernel_rfl) (by kernel_rfl) (spec_l1In_ok u p1 0 (bMul .i64 p0 40) r2 e_r2) (by kernel_rfl) ?_
    refine Runs.all (by kernel_rfl) ?_
    refine thenN ?_
    refine Wp.le (Le.of (s := ⟨[(4, .t (.bool r2))], [], []⟩) (mo := []) (mr := []) (by kernel_rfl) (by kernel_rfl) (by kernel_rfl) (by kernel_rfl)) ?_
    refine Wp.ret ?_
    have hr := Option.some.inj h
    subst hr
    exact RetK [.t (.bool r2)] (.one (.t (.bool r2))) [] (by kernel_rfl) (by kernel_rfl) (.refl _) .nil
  · have h := cond_f h hc
    refine Runs.known 7 (v := false) (by kernel_rfl) hc ?_
    refine Runs.all (by kernel_rfl) ?_
    refine thenN ?_
    refine Wp.le (Le.of (s := ⟨[(4, .t (.bool false))], [], []⟩) (mo := []) (mr := []) (by kernel_rfl) (by kernel_rfl) (by kernel_rfl) (by kernel_rfl)) ?_
    refine Wp.ret ?_
    have hr := Option.some.inj h
    subst hr
    exact RetK [.t (.bool false)] (.one (.t (.bool false))) [] (by kernel_rfl) (by kernel_rfl) (.refl _) .nil
theorem spec_CeilDiv_ok (u : Nat) (p0 : Int) (p1 : Int) (r : Int) (h : spec_CeilDiv u p0 p1 = some r) : CallOK Try.prog 71 [.one (.t (.int .i64 p0)), .one (.t (.int .i64 p1))] (.one (.t (.int .i64 r))) [] := by
  unfold spec_CeilDiv at h
  refine CallOK.of_bodyK (fn := Try.f71) (m := false) [.t (.int .i64 p0), .t (.int .i64 p1)] (by kernel_rfl) rfl (by kernel_rfl) (by kernel_rfl) (by kernel_rfl) (by kernel_rfl) (by kernel_rfl) ?_
  refine Wp.seq ?_
  refine Wp.regionS (pOf []) (rhoOf []) (by kernel_rfl) ?_
  refine Runs.all (by kernel_rfl) ?_
  refine thenN ?_
  refine Wp.le (Le.of (s := ⟨[(0, .t (.int .i64 p0)), (1, .t (.int .i64 p1)), (4, .t (.int .i64 0))], [], []⟩) (mo := []) (mr := []) (by kernel_rfl) (by kernel_rfl) (by kernel_rfl) (by kernel_rfl)) ?_
  refine Wp.seq ?_
  refine Wp.seqJ (α := Int × Int × Bool) (fun a => ⟨[(0, .t (.int .i64 a.1)), (1, .t (.int .i64 a.2.1)), (4, .t (.int .i64 0)), (12, .t (.bool a.2.2))], [], []⟩) (fun a => spec_CeilDiv_j1 u a.1 a.2.1 a.2.2 = some r) ?_ ?_
  · rintro ⟨p0, p1, x3⟩ h
    change spec_CeilDiv_j1 u p0 p1 x3 = some r at h
    unfold spec_CeilDiv_j1 at h
    refine Wp.cond2 (b := x3) (by kernel_rfl) (fun hc => ?_) (fun hc => ?_)
    · have h := cond_t h hc
      refine Wp.seq ?_
      refine Wp.regionS (pOf []) (rhoOf []) (by kernel_rfl) ?_
      refine Runs.all (by kernel_rfl) ?_
      refine thenN ?_
      refine Wp.le (Le.of (s := ⟨[(0, .t (.int .i64 p0)), (1, .t (.int .i64 p1)), (4, .t (.int .i64 0))], [], []⟩) (mo := []) (mr := []) (by kernel_rfl) (by kernel_rfl) (by kernel_rfl) (by kernel_rfl)) ?_
      refine Wp.ret ?_
      refine thenR ?_
      have hr := Option.some.inj h
      subst hr
      exact RetK [.t (.int .i64 0)] (.one (.t (.int .i64 0))) [] (by kernel_rfl) (by kernel_rfl) (.refl _) .nil
    · have h := cond_f h hc
      refine Wp.skip ?_
      refine thenN ?_
      refine Wp.seq ?_
      refine Wp.regionS (pOf []) (rhoOf []) (by kernel_rfl) ?_
      refine Runs.batch 5 (by kernel_rfl) ?_
      obtain ⟨_, e_4, h⟩ := bind_some h
      refine Runs.num .quo (.int .i64 (bSub .i64 (bAdd .i64 p0 p1) 1)) (.int .i64 p1) (.int .i64 (bQuo .i64 (bSub .i64 (bAdd .i64 p0 p1) 1) p1)) rfl (by kernel_rfl) (by kernel_rfl) (by kernel_rfl) (by kernel_rfl) (bin_quo _ _ _ _ (by simpa using chk_some e_4)) ?_
      refine Runs.all (by kernel_rfl) ?_
      refine thenN ?_
      refine Wp.le (Le.of (s := ⟨[(4, .t (.int .i64 (bQuo .i64 (bSub .i64 (bAdd .i64 p0 p1) 1) p1)))], [], []⟩) (mo := []) (mr := []) (by kernel_rfl) (by kernel_rfl) (by kernel_rfl) (by kernel_rfl)) ?_
      refine Wp.ret ?_
      have hr := Option.some.inj h
      subst hr
      exact RetK [.t (.int .i64 (bQuo .i64 (bSub .i64 (bAdd .i64 p0 p1) 1) p1))] (.one (.t (.int .i64 (bQuo .i64 (bSub .i64 (bAdd .i64 p0 p1) 1) p1)))) [] (by kernel_rfl) (by kernel_rfl) (.refl _) .nil
  · refine Wp.regionS (pOf []) (rhoOf []) (by kernel_rfl) ?_
    refine Runs.batch 1 (by kernel_rfl) ?_
    obtain ⟨r1, e_r1, h⟩ := bind_some h
    refine Runs.callK false 6 79 [] [.t (.int .i64 p0), .t (.int .i64 0), .t (.int .i64 1000000000000)] [.one (.t (.int .i64 p0)), .one (.t (.int .i64 0)), .one (.t (.int .i64 1000000000000))] (.one (.t (.bool r1))) [] rfl rfl (by kernel_rfl) (by kernel_rfl) (by kernel_rfl) (by kernel_rfl) (by kernel_rfl) (spec_l1In_ok u p0 0 1000000000000 r1 e_r1) (by kernel_rfl) ?_
    refine Runs.batch 2 (by kernel_rfl) ?_
    rcases tf (!r1) with hc | hc
    · have h := cond_t h hc
      refine Runs.known 8 (v := true) (by kernel_rfl) hc ?_
      refine Runs.all (by kernel_rfl) ?_
      refine thenN ?_
      exact ⟨(p0, p1, true), h, Le.of (mo := []) (mr := []) (by kernel_rfl) (by kernel_rfl) (by kernel_rfl) (by kernel_rfl)⟩
    · have h := cond_f h hc
      refine Runs.known 8 (v := false) (by kernel_rfl) hc ?_
      refine Runs.batch 1 (by kernel_rfl) ?_
      obtain ⟨r2, e_r2, h⟩ := bind_some h
      refine Runs.callK false 10 79 [] [.t (.int .i64 p1), .t (.int .i64 1), .t (.int .i64 1000000000000)] [.one (.t (.int .i64 p1)), .one (.t (.int .i64 1)), .one (.t (.int .i64 1000000000000))] (.one (.t (.bool r2))) [] rfl rfl (by kernel_rfl) (by kernel_rfl) (by kernel_rfl) (by kernel_rfl) (by kernel_rfl) (spec_l1In_ok u p1 1 1000000000000 r2 e_r2) (by kernel_rfl) ?_
      refine Runs.all (by kernel_rfl) ?_
      refine thenN ?_
      exact ⟨(p0, p1, !r2), h, Le.of (mo := []) (mr := []) (by kernel_rfl) (by kernel_rfl) (by kernel_rfl) (by kernel_rfl)⟩
theorem spec_Blocks_ok (u : Nat) (p0 : Int) (p1 : Int) (r : Int) (h : spec_Blocks u p0 p1 = some r) : CallOK Try.prog 72 [.one (.t (.int .i64 p0)), .one (.t (.int .i64 p1))] (.one (.t (.int .i64 r))) [] := by
  unfold spec_Blocks at h
  refine CallOK.of_bodyK (fn := Try.f72) (m := false) [.t (.int .i64 p0), .t (.int .i64 p1)] (by kernel_rfl) rfl (by kernel_rfl) (by kernel_rfl) (by kernel_rfl) (by kernel_rfl) (by kernel_rfl) ?_
  refine Wp.seq ?_
  refine Wp.regionS (pOf []) (rhoOf []) (by kernel_rfl) ?_
  refine Runs.all (by kernel_rfl) ?_
  refine thenN ?_
  refine Wp.le (Le.of (s := ⟨[(0, .t (.int .i64 p0)), (1, .t (.int .i64 p1)), (4, .t (.int .i64 0))], [], []⟩) (mo := []) (mr := []) (by kernel_rfl) (by kernel_rfl) (by kernel_rfl) (by kernel_rfl)) ?_
  refine Wp.seq ?_
  refine Wp.seq ?_
  refine Wp.regionS (pOf []) (rhoOf []) (by kernel_rfl) ?_
  refine Runs.batch 2 (by kernel_rfl) ?_
  obtain ⟨r1, e_r1, h⟩ := bind_some h
  refine Runs.callK false 7 43 [] [.t (.int .i64 p0), .t (.int .i64 p1)] [.one (.t (.int .i64 p0)), .one (.t (.int .i64 p1))] (.one (.t (.bool r1))) [] rfl rfl (by kernel_rfl) (by kernel_rfl) (by kernel_rfl) (by kernel_rfl) (by kernel_rfl) (spec_SizeOk_ok u p0 p1 r1 e_r1) (by kernel_rfl) ?_
  refine Runs.all (by kernel_rfl) ?_
  refine thenN ?_
  refine Wp.le (Le.of (s := ⟨[(0, .t (.int .i64 p0)), (1, .t (.int .i64 p1)), (4, .t (.int .i64 0)), (8, .t (.bool (!r1)))], [], []⟩) (mo := []) (mr := []) (by kernel_rfl) (by kernel_rfl) (by kernel_rfl) (by kernel_rfl)) ?_
  refine Wp.cond2 (b := !r1) (by kernel_rfl) (fun hc => ?_) (fun hc => ?_)
  · have h := cond_t h hc
    refine Wp.seq ?_
    refine Wp.regionS (pOf []) (rhoOf []) (by kernel_rfl) ?_
    refine Runs.all (by kernel_rfl) ?_
    refine thenN ?_
    refine Wp.le (Le.of (s := ⟨[(0, .t (.int .i64 p0)), (1, .t (.int .i64 p1)), (4, .t (.int .i64 0))], [], []⟩) (mo := []) (mr := []) (by kernel_rfl) (by kernel_rfl) (by kernel_rfl) (by kernel_rfl)) ?_
    refine Wp.ret ?_
    refine thenR ?_
    have hr := Option.some.inj h
    subst hr
    exact RetK [.t (.int .i64 0)] (.one (.t (.int .i64 0))) [] (by kernel_rfl) (by kernel_rfl) (.refl _) .nil
  · have h := cond_f h hc
    refine Wp.skip ?_
    refine thenN ?_
    refine Wp.seq ?_
    refine Wp.regionS (pOf []) (rhoOf []) (by kernel_rfl) ?_
    refine Runs.batch 2 (by kernel_rfl) ?_
    obtain ⟨r2, e_r2, h⟩ := bind_some h
    refine Runs.callK false 11 71 [] [.t (.int .i64 p1), .t (.int .i64 p0)] [.one (.t (.int .i64 p1)), .one (.t (.int .i64 p0))] (.one (.t (.int .i64 r2))) [] rfl rfl (by kernel_rfl) (by kernel_rfl) (by kernel_rfl) (by kernel_rfl) (by kernel_rfl) (spec_CeilDiv_ok u p1 p0 r2 e_r2) (by kernel_rfl) ?_
    refine Runs.all (by kernel_rfl) ?_
    refine thenN ?_
    refine Wp.le (Le.of (s := ⟨[(4, .t (.int .i64 r2))], [], []⟩) (mo := []) (mr := []) (by kernel_rfl) (by kernel_rfl) (by kernel_rfl) (by kernel_rfl)) ?_
    refine Wp.ret ?_
    have hr := Option.some.inj h
    subst hr
    exact RetK [.t (.int .i64 r2)] (.one (.t (.int .i64 r2))) [] (by kernel_rfl) (by kernel_rfl) (.refl _) .nil
theorem spec_Least_ok (u : Nat) (p0 : Int) (p1 : Int) (r : Int) (h : spec_Least u p0 p1 = some r) : CallOK Try.prog 139 [.one (.t (.int .i64 p0)), .one (.t (.int .i64 p1))] (.one (.t (.int .i64 r))) [] := by
  unfold spec_Least at h
  refine CallOK.of_bodyK (fn := Try.f139) (m := false) [.t (.int .i64 p0), .t (.int .i64 p1)] (by kernel_rfl) rfl (by kernel_rfl) (by kernel_rfl) (by kernel_rfl) (by kernel_rfl) (by kernel_rfl) ?_
  refine Wp.seq ?_
  refine Wp.regionS (pOf []) (rhoOf []) (by kernel_rfl) ?_
  refine Runs.all (by kernel_rfl) ?_
  refine thenN ?_
  refine Wp.le (Le.of (s := ⟨[(0, .t (.int .i64 p0)), (1, .t (.int .i64 p1)), (4, .t (.int .i64 0))], [], []⟩) (mo := []) (mr := []) (by kernel_rfl) (by kernel_rfl) (by kernel_rfl) (by kernel_rfl)) ?_
  refine Wp.seq ?_
  refine Wp.seq ?_
  refine Wp.regionS (pOf []) (rhoOf []) (by kernel_rfl) ?_
  refine Runs.all (by kernel_rfl) ?_
  refine thenN ?_
  refine Wp.le (Le.of (s := ⟨[(0, .t (.int .i64 p0)), (1, .t (.int .i64 p1)), (4, .t (.int .i64 0)), (7, .t (.bool (decide (p1 < p0))))], [], []⟩) (mo := []) (mr := []) (by kernel_rfl) (by kernel_rfl) (by kernel_rfl) (by kernel_rfl)) ?_
  refine Wp.cond2 (b := decide (p1 < p0)) (by kernel_rfl) (fun hc => ?_) (fun hc => ?_)
  · have h := cond_t h hc
    refine Wp.seq ?_
    refine Wp.regionS (pOf []) (rhoOf []) (by kernel_rfl) ?_
    refine Runs.all (by kernel_rfl) ?_
    refine thenN ?_
    refine Wp.le (Le.of (s := ⟨[(0, .t (.int .i64 p0)), (4, .t (.int .i64 p1))], [], []⟩) (mo := []) (mr := []) (by kernel_rfl) (by kernel_rfl) (by kernel_rfl) (by kernel_rfl)) ?_
    refine Wp.ret ?_
    refine thenR ?_
    have hr := Option.some.inj h
    subst hr
    exact RetK [.t (.int .i64 p1)] (.one (.t (.int .i64 p1))) [] (by kernel_rfl) (by kernel_rfl) (.refl _) .nil
  · have h := cond_f h hc
    refine Wp.skip ?_
    refine thenN ?_
    refine Wp.seq ?_
    refine Wp.regionS (pOf []) (rhoOf []) (by kernel_rfl) ?_
    refine Runs.all (by kernel_rfl) ?_
    refine thenN ?_
    refine Wp.le (Le.of (s := ⟨[(4, .t (.int .i64 p0))], [], []⟩) (mo := []) (mr := []) (by kernel_rfl) (by kernel_rfl) (by kernel_rfl) (by kernel_rfl)) ?_
    refine Wp.ret ?_
    have hr := Option.some.inj h
    subst hr
    exact RetK [.t (.int .i64 p0)] (.one (.t (.int .i64 p0))) [] (by kernel_rfl) (by kernel_rfl) (.refl _) .nil
theorem spec_SpanOf_ok (u : Nat) (p0 : Int) (p1 : Int) (p2 : Int) (r : Int × Int) (h : spec_SpanOf u p0 p1 p2 = some r) : CallOK Try.prog 101 [.one (.t (.int .i64 p0)), .one (.t (.int .i64 p1)), .one (.t (.int .i64 p2))] (.tup [.one (.t (.int .i64 r.1)), .one (.t (.int .i64 r.2))]) [] := by
  unfold spec_SpanOf at h
  refine CallOK.of_bodyK (fn := Try.f101) (m := false) [.t (.int .i64 p0), .t (.int .i64 p1), .t (.int .i64 p2)] (by kernel_rfl) rfl (by kernel_rfl) (by kernel_rfl) (by kernel_rfl) (by kernel_rfl) (by kernel_rfl) ?_
  refine Wp.seq ?_
  refine Wp.regionS (pOf []) (rhoOf []) (by kernel_rfl) ?_
  refine Runs.all (by kernel_rfl) ?_
  refine thenN ?_
  refine Wp.le (Le.of (s := ⟨[(0, .t (.int .i64 p0)), (1, .t (.int .i64 p1)), (2, .t (.int .i64 p2)), (6, .t (.int .i64 0)), (7, .t (.int .i64 0))], [], []⟩) (mo := []) (mr := []) (by kernel_rfl) (by kernel_rfl) (by kernel_rfl) (by kernel_rfl)) ?_
  refine Wp.seq ?_
  refine Wp.seq ?_
  refine Wp.regionS (pOf []) (rhoOf []) (by kernel_rfl) ?_
  refine Runs.batch 3 (by kernel_rfl) ?_
  obtain ⟨r1, e_r1, h⟩ := bind_some h
  refine Runs.callK false 11 72 [] [.t (.int .i64 p0), .t (.int .i64 p1)] [.one (.t (.int .i64 p0)), .one (.t (.int .i64 p1))] (.one (.t (.int .i64 r1))) [] rfl rfl (by kernel_rfl) (by kernel_rfl) (by kernel_rfl) (by kernel_rfl) (by kernel_rfl) (spec_Blocks_ok u p0 p1 r1 e_r1) (by kernel_rfl) ?_
  refine Runs.batch 1 (by kernel_rfl) ?_
  obtain ⟨r2, e_r2, h⟩ := bind_some h
  refine Runs.callK false 13 79 [] [.t (.int .i64 p2), .t (.int .i64 0), .t (.int .i64 (bSub .i64 r1 1))] [.one (.t (.int .i64 p2)), .one (.t (.int .i64 0)), .one (.t (.int .i64 (bSub .i64 r1 1)))] (.one (.t (.bool r2))) [] rfl rfl (by kernel_rfl) (by kernel_rfl) (by kernel_rfl) (by kernel_rfl) (by kernel_rfl) (spec_l1In_ok u p2 0 (bSub .i64 r1 1) r2 e_r2) (by kernel_rfl) ?_
  refine Runs.all (by kernel_rfl) ?_
  refine thenN ?_
  refine Wp.le (Le.of (s := ⟨[(0, .t (.int .i64 p0)), (1, .t (.int .i64 p1)), (2, .t (.int .i64 p2)), (6, .t (.int .i64 0)), (7, .t (.int .i64 0)), (14, .t (.bool (!r2)))], [], []⟩) (mo := []) (mr := []) (by kernel_rfl) (by kernel_rfl) (by kernel_rfl) (by kernel_rfl)) ?_
  refine Wp.cond2 (b := !r2) (by kernel_rfl) (fun hc => ?_) (fun hc => ?_)
  · have h := cond_t h hc
    refine Wp.seq ?_
    refine Wp.regionS (pOf []) (rhoOf []) (by kernel_rfl) ?_
    refine Runs.all (by kernel_rfl) ?_
    refine thenN ?_
    refine Wp.le (Le.of (s := ⟨[(0, .t (.int .i64 p0)), (1, .t (.int .i64 p1)), (2, .t (.int .i64 p2)), (6, .t (.int .i64 0)), (7, .t (.int .i64 0))], [], []⟩) (mo := []) (mr := []) (by kernel_rfl) (by kernel_rfl) (by kernel_rfl) (by kernel_rfl)) ?_
    refine Wp.ret ?_
    refine thenR ?_
    have hr := Option.some.inj h
    subst hr
    exact RetK [.t (.int .i64 0), .t (.int .i64 0)] (.tup [.one (.t (.int .i64 0)), .one (.t (.int .i64 0))]) [] (by kernel_rfl) (by kernel_rfl) (.refl _) .nil
  · have h := cond_f h hc
    refine Wp.skip ?_
    refine thenN ?_
    refine Wp.seq ?_
    refine Wp.regionS (pOf []) (rhoOf []) (by kernel_rfl) ?_
    refine Runs.batch 9 (by kernel_rfl) ?_
    obtain ⟨r3, e_r3, h⟩ := bind_some h
    refine Runs.callK false 24 139 [] [.t (.int .i64 p0), .t (.int .i64 (bSub .i64 p1 (bMul .i64 p2 p0)))] [.one (.t (.int .i64 p0)), .one (.t (.int .i64 (bSub .i64 p1 (bMul .i64 p2 p0))))] (.one (.t (.int .i64 r3))) [] rfl rfl (by kernel_rfl) (by kernel_rfl) (by kernel_rfl) (by kernel_rfl) (by kernel_rfl) (spec_Least_ok u p0 (bSub .i64 p1 (bMul .i64 p2 p0)) r3 e_r3) (by kernel_rfl) ?_
    refine Runs.all (by kernel_rfl) ?_
    refine thenN ?_
    refine Wp.le (Le.of (s := ⟨[(6, .t (.int .i64 (bMul .i64 p2 p0))), (7, .t (.int .i64 r3))], [], []⟩) (mo := []) (mr := []) (by kernel_rfl) (by kernel_rfl) (by kernel_rfl) (by kernel_rfl)) ?_
    refine Wp.ret ?_
    have hr := Option.some.inj h
    subst hr
    exact RetK [.t (.int .i64 (bMul .i64 p2 p0)), .t (.int .i64 r3)] (.tup [.one (.t (.int .i64 (bMul .i64 p2 p0))), .one (.t (.int .i64 r3))]) [] (by kernel_rfl) (by kernel_rfl) (.refl _) .nil
theorem spec_l24Bytes_ok (u : Nat) (p0 : World) (p1 : Int) (r : Int) (h : spec_l24Bytes u p0 p1 = some r) : CallOK Try.prog 75 [.agg [.t (.int .i64 p0.fC.fSize), .t (.int .i64 p0.fC.fWindow), .t (.int .i64 p0.fC.fSuspect), .t (.int .i64 p0.fC.fForget), .t (.sl 1 (p0.fT.fUp.map (eInt .i64))), .t (.sl 1 (p0.fNew.map (eInt .u8))), .t (.sl 1 (p0.fOld.map Image.enc)), .t (.sl 12 (p0.fN.map Node.enc)), .t (.sl 6 (p0.fD.map Disk.enc)), .t (.sl 3 (p0.fNet.map Packet.enc)), .t (.sl 3 (p0.fLog.map Sent.enc)), .t (.int .i64 p0.fLost)], .one (.t (.int .i64 p1))] (.one (.t (.int .i64 r))) [] := by
  unfold spec_l24Bytes at h
  refine CallOK.of_bodyK (fn := Try.f75) (m := false) [.agg [.t (.int .i64 p0.fC.fSize), .t (.int .i64 p0.fC.fWindow), .t (.int .i64 p0.fC.fSuspect), .t (.int .i64 p0.fC.fForget), .t (.sl 1 (p0.fT.fUp.map (eInt .i64))), .t (.sl 1 (p0.fNew.map (eInt .u8))), .t (.sl 1 (p0.fOld.map Image.enc)), .t (.sl 12 (p0.fN.map Node.enc)), .t (.sl 6 (p0.fD.map Disk.enc)), .t (.sl 3 (p0.fNet.map Packet.enc)), .t (.sl 3 (p0.fLog.map Sent.enc)), .t (.int .i64 p0.fLost)], .t (.int .i64 p1)] (by kernel_rfl) rfl (by kernel_rfl) (by kernel_rfl) (by kernel_rfl) (by kernel_rfl) (by kernel_rfl) ?_
  refine Wp.seq ?_
  refine Wp.regionS (pOf []) (rhoOf []) (by kernel_rfl) ?_
  refine Runs.all (by kernel_rfl) ?_
  refine thenN ?_
  refine Wp.le (Le.of (s := ⟨[(1, .t (.int .i64 p1)), (2, .obj 2 0), (4, .t (.int .i64 0))], [(2, [.t (.int .i64 p0.fC.fSize), .t (.int .i64 p0.fC.fWindow), .t (.int .i64 p0.fC.fSuspect), .t (.int .i64 p0.fC.fForget), .t (.sl 1 (p0.fT.fUp.map (eInt .i64))), .t (.sl 1 (p0.fNew.map (eInt .u8))), .t (.sl 1 (p0.fOld.map Image.enc)), .t (.sl 12 (p0.fN.map Node.enc)), .t (.sl 6 (p0.fD.map Disk.enc)), .t (.sl 3 (p0.fNet.map Packet.enc)), .t (.sl 3 (p0.fLog.map Sent.enc)), .t (.int .i64 p0.fLost)])], []⟩) (mo := []) (mr := []) (by kernel_rfl) (by kernel_rfl) (by kernel_rfl) (by kernel_rfl)) ?_
  refine Wp.seq ?_
  refine Wp.regionS (pOf []) (rhoOf []) (by kernel_rfl) ?_
  refine Runs.batch 5 (by kernel_rfl) ?_
  refine Runs.lenT (y := .t (.sl 1 (p0.fNew.map (eInt .u8)))) (e := 5) (eInt .u8) p0.fNew 1 rfl rfl rfl (by kernel_rfl) (by kernel_rfl) (by kernel_rfl) (by kernel_rfl) (by kernel_rfl) ?_
  refine Runs.batch 1 (by kernel_rfl) ?_
  obtain ⟨r1, e_r1, h⟩ := bind_some h
  refine Runs.callK false 15 101 [] [.t (.int .i64 p0.fC.fSize), .t (.int .i64 ((p0.fNew.length : Int))), .t (.int .i64 p1)] [.one (.t (.int .i64 p0.fC.fSize)), .one (.t (.int .i64 ((p0.fNew.length : Int)))), .one (.t (.int .i64 p1))] (.tup [.one (.t (.int .i64 r1.1)), .one (.t (.int .i64 r1.2))]) [] rfl rfl (by kernel_rfl) (by kernel_rfl) (by kernel_rfl) (by kernel_rfl) (by kernel_rfl) (spec_SpanOf_ok u p0.fC.fSize ((p0.fNew.length : Int)) p1 r1 e_r1) (by kernel_rfl) ?_
  refine Runs.all (by kernel_rfl) ?_
  refine thenN ?_
  refine Wp.le (Le.of (s := ⟨[(4, .t (.int .i64 0)), (6, .t (.int .i64 r1.2))], [], []⟩) (mo := []) (mr := []) (by kernel_rfl) (by kernel_rfl) (by kernel_rfl) (by kernel_rfl)) ?_
  refine Wp.seq ?_
  refine Wp.regionS (pOf []) (rhoOf []) (by kernel_rfl) ?_
  refine Runs.all (by kernel_rfl) ?_
  refine thenN ?_
  refine Wp.le (Le.of (s := ⟨[(4, .t (.int .i64 r1.2))], [], []⟩) (mo := []) (mr := []) (by kernel_rfl) (by kernel_rfl) (by kernel_rfl) (by kernel_rfl)) ?_
  refine Wp.ret ?_
  have hr := Option.some.inj h
  subst hr
  exact RetK [.t (.int .i64 r1.2)] (.one (.t (.int .i64 r1.2))) [] (by kernel_rfl) (by kernel_rfl) (.refl _) .nil
theorem spec_BytesOver_ok (u : Nat) (p0 : World) (p1 : Int) (p2 : Int) (r : Int) (h : spec_BytesOver u p0 p1 p2 = some r) : CallOK Try.prog 35 [.agg [.t (.int .i64 p0.fC.fSize), .t (.int .i64 p0.fC.fWindow), .t (.int .i64 p0.fC.fSuspect), .t (.int .i64 p0.fC.fForget), .t (.sl 1 (p0.fT.fUp.map (eInt .i64))), .t (.sl 1 (p0.fNew.map (eInt .u8))), .t (.sl 1 (p0.fOld.map Image.enc)), .t (.sl 12 (p0.fN.map Node.enc)), .t (.sl 6 (p0.fD.map Disk.enc)), .t (.sl 3 (p0.fNet.map Packet.enc)), .t (.sl 3 (p0.fLog.map Sent.enc)), .t (.int .i64 p0.fLost)], .one (.t (.int .i64 p1)), .one (.t (.int .i64 p2))] (.one (.t (.int .i64 r))) [] := by
  unfold spec_BytesOver at h
  refine CallOK.of_bodyK (fn := Try.f35) (m := false) [.agg [.t (.int .i64 p0.fC.fSize), .t (.int .i64 p0.fC.fWindow), .t (.int .i64 p0.fC.fSuspect), .t (.int .i64 p0.fC.fForget), .t (.sl 1 (p0.fT.fUp.map (eInt .i64))), .t (.sl 1 (p0.fNew.map (eInt .u8))), .t (.sl 1 (p0.fOld.map Image.enc)), .t (.sl 12 (p0.fN.map Node.enc)), .t (.sl 6 (p0.fD.map Disk.enc)), .t (.sl 3 (p0.fNet.map Packet.enc)), .t (.sl 3 (p0.fLog.map Sent.enc)), .t (.int .i64 p0.fLost)], .t (.int .i64 p1), .t (.int .i64 p2)] (by kernel_rfl) rfl (by kernel_rfl) (by kernel_rfl) (by kernel_rfl) (by kernel_rfl) (by kernel_rfl) ?_
  refine Wp.seq ?_
  refine Wp.regionS (pOf []) (rhoOf []) (by kernel_rfl) ?_
  refine Runs.all (by kernel_rfl) ?_
  refine thenN ?_
  refine Wp.le (Le.of (s := ⟨[(1, .t (.int .i64 p1)), (2, .t (.int .i64 p2)), (3, .obj 3 0), (6, .t (.int .i64 0))], [(3, [.t (.int .i64 p0.fC.fSize), .t (.int .i64 p0.fC.fWindow), .t (.int .i64 p0.fC.fSuspect), .t (.int .i64 p0.fC.fForget), .t (.sl 1 (p0.fT.fUp.map (eInt .i64))), .t (.sl 1 (p0.fNew.map (eInt .u8))), .t (.sl 1 (p0.fOld.map Image.enc)), .t (.sl 12 (p0.fN.map Node.enc)), .t (.sl 6 (p0.fD.map Disk.enc)), .t (.sl 3 (p0.fNet.map Packet.enc)), .t (.sl 3 (p0.fLog.map Sent.enc)), .t (.int .i64 p0.fLost)])], []⟩) (mo := []) (mr := []) (by kernel_rfl) (by kernel_rfl) (by kernel_rfl) (by kernel_rfl)) ?_
  refine Wp.seq ?_
  refine Wp.regionS (pOf []) (rhoOf []) (by kernel_rfl) ?_
  refine Runs.all (by kernel_rfl) ?_
  refine thenN ?_
  refine Wp.le (Le.of (s := ⟨[(1, .t (.int .i64 p1)), (2, .t (.int .i64 p2)), (3, .obj 3 0), (6, .t (.int .i64 0)), (7, .t (.int .i64 0))], [(3, [.t (.int .i64 p0.fC.fSize), .t (.int .i64 p0.fC.fWindow), .t (.int .i64 p0.fC.fSuspect), .t (.int .i64 p0.fC.fForget), .t (.sl 1 (p0.fT.fUp.map (eInt .i64))), .t (.sl 1 (p0.fNew.map (eInt .u8))), .t (.sl 1 (p0.fOld.map Image.enc)), .t (.sl 12 (p0.fN.map Node.enc)), .t (.sl 6 (p0.fD.map Disk.enc)), .t (.sl 3 (p0.fNet.map Packet.enc)), .t (.sl 3 (p0.fLog.map Sent.enc)), .t (.int .i64 p0.fLost)])], []⟩) (mo := []) (mr := []) (by kernel_rfl) (by kernel_rfl) (by kernel_rfl) (by kernel_rfl)) ?_
  refine Wp.seq ?_
  refine Wp.regionS (pOf []) (rhoOf []) (by kernel_rfl) ?_
  refine Runs.batch 3 (by kernel_rfl) ?_
  obtain ⟨r1, e_r1, h⟩ := bind_some h
  refine Runs.callK false 13 77 [] [.agg [.t (.int .i64 p0.fC.fSize), .t (.int .i64 p0.fC.fWindow), .t (.int .i64 p0.fC.fSuspect), .t (.int .i64 p0.fC.fForget), .t (.sl 1 (p0.fT.fUp.map (eInt .i64))), .t (.sl 1 (p0.fNew.map (eInt .u8))), .t (.sl 1 (p0.fOld.map Image.enc)), .t (.sl 12 (p0.fN.map Node.enc)), .t (.sl 6 (p0.fD.map Disk.enc)), .t (.sl 3 (p0.fNet.map Packet.enc)), .t (.sl 3 (p0.fLog.map Sent.enc)), .t (.int .i64 p0.fLost)], .t (.int .i64 p1), .t (.int .i64 p2)] [.agg [.t (.int .i64 p0.fC.fSize), .t (.int .i64 p0.fC.fWindow), .t (.int .i64 p0.fC.fSuspect), .t (.int .i64 p0.fC.fForget), .t (.sl 1 (p0.fT.fUp.map (eInt .i64))), .t (.sl 1 (p0.fNew.map (eInt .u8))), .t (.sl 1 (p0.fOld.map Image.enc)), .t (.sl 12 (p0.fN.map Node.enc)), .t (.sl 6 (p0.fD.map Disk.enc)), .t (.sl 3 (p0.fNet.map Packet.enc)), .t (.sl 3 (p0.fLog.map Sent.enc)), .t (.int .i64 p0.fLost)], .one (.t (.int .i64 p1)), .one (.t (.int .i64 p2))] (.one (.ow 3 1 (r1.map (eInt .i64)))) [] rfl rfl (by kernel_rfl) (by kernel_rfl) (by kernel_rfl) (by kernel_rfl) (by kernel_rfl) (spec_PartsOver_ok u p0 p1 p2 r1 e_r1) (by kernel_rfl) ?_
  refine Runs.all (by kernel_rfl) ?_
  refine thenN ?_
  refine Wp.le (Le.of (s := ⟨[(3, .obj 3 0), (6, .t (.int .i64 0)), (7, .t (.int .i64 0)), (8, .own 851968)], [(3, [.t (.int .i64 p0.fC.fSize), .t (.int .i64 p0.fC.fWindow), .t (.int .i64 p0.fC.fSuspect), .t (.int .i64 p0.fC.fForget), .t (.sl 1 (p0.fT.fUp.map (eInt .i64))), .t (.sl 1 (p0.fNew.map (eInt .u8))), .t (.sl 1 (p0.fOld.map Image.enc)), .t (.sl 12 (p0.fN.map Node.enc)), .t (.sl 6 (p0.fD.map Disk.enc)), .t (.sl 3 (p0.fNet.map Packet.enc)), .t (.sl 3 (p0.fLog.map Sent.enc)), .t (.int .i64 p0.fLost)])], [(851968, .live 3 1 (r1.map (eInt .i64)))]⟩) (mo := []) (mr := []) (by kernel_rfl) (by kernel_rfl) (by kernel_rfl) (by kernel_rfl)) ?_
  refine Wp.seqJ (α := Int) (fun a => ⟨[(6, .t (.int .i64 0)), (7, .t (.int .i64 a))], [], []⟩) (fun a => spec_BytesOver_j1 u a = some r) ?_ ?_
  · rintro x10 h
    change spec_BytesOver_j1 u x10 = some r at h
    unfold spec_BytesOver_j1 at h
    refine Wp.seq ?_
    refine Wp.regionS (pOf []) (rhoOf []) (by kernel_rfl) ?_
    refine Runs.all (by kernel_rfl) ?_
    refine thenN ?_
    refine Wp.le (Le.of (s := ⟨[(6, .t (.int .i64 x10))], [], []⟩) (mo := []) (mr := []) (by kernel_rfl) (by kernel_rfl) (by kernel_rfl) (by kernel_rfl)) ?_
    refine Wp.ret ?_
    have hr := Option.some.inj h
    subst hr
    exact RetK [.t (.int .i64 x10)] (.one (.t (.int .i64 x10))) [] (by kernel_rfl) (by kernel_rfl) (.refl _) .nil
  · refine Wp.seq ?_
    refine Wp.regionS (pOf []) (rhoOf []) (by kernel_rfl) ?_
    refine Runs.all (by kernel_rfl) ?_
    refine thenN ?_
    refine Wp.le (Le.of (s := ⟨[(3, .obj 3 0), (6, .t (.int .i64 0)), (7, .t (.int .i64 0)), (8, .own 851968), (9, .t (.int .i64 0))], [(3, [.t (.int .i64 p0.fC.fSize), .t (.int .i64 p0.fC.fWindow), .t (.int .i64 p0.fC.fSuspect), .t (.int .i64 p0.fC.fForget), .t (.sl 1 (p0.fT.fUp.map (eInt .i64))), .t (.sl 1 (p0.fNew.map (eInt .u8))), .t (.sl 1 (p0.fOld.map Image.enc)), .t (.sl 12 (p0.fN.map Node.enc)), .t (.sl 6 (p0.fD.map Disk.enc)), .t (.sl 3 (p0.fNet.map Packet.enc)), .t (.sl 3 (p0.fLog.map Sent.enc)), .t (.int .i64 p0.fLost)])], [(851968, .live 3 1 (r1.map (eInt .i64)))]⟩) (mo := []) (mr := []) (by kernel_rfl) (by kernel_rfl) (by kernel_rfl) (by kernel_rfl)) ?_
    refine Wp.block ?_
    refine Wp.loopF (α := Int × ((List Int)) × Int × World) (fun a => ⟨[(3, .obj 3 0), (6, .t (.int .i64 0)), (7, .t (.int .i64 a.1)), (8, .own 524289), (9, .t (.int .i64 a.2.2.1))], [(3, [.t (.int .i64 a.2.2.2.fC.fSize), .t (.int .i64 a.2.2.2.fC.fWindow), .t (.int .i64 a.2.2.2.fC.fSuspect), .t (.int .i64 a.2.2.2.fC.fForget), .t (.sl 1 (a.2.2.2.fT.fUp.map (eInt .i64))), .t (.sl 1 (a.2.2.2.fNew.map (eInt .u8))), .t (.sl 1 (a.2.2.2.fOld.map Image.enc)), .t (.sl 12 (a.2.2.2.fN.map Node.enc)), .t (.sl 6 (a.2.2.2.fD.map Disk.enc)), .t (.sl 3 (a.2.2.2.fNet.map Packet.enc)), .t (.sl 3 (a.2.2.2.fLog.map Sent.enc)), .t (.int .i64 a.2.2.2.fLost)])], [(524289, .live 3 1 (a.2.1.map (eInt .i64)))]⟩) (fun k_spec_BytesOver_l2 a => spec_BytesOver_l2 u k_spec_BytesOver_l2 a.1 a.2.1 a.2.2.1 a.2.2.2 = some r) ?_ ?_ u (0, r1, 0, p0) h (Le.of (mo := []) (mr := [(524289, 851968)]) (by kernel_rfl) (by kernel_rfl) (by kernel_rfl) (by kernel_rfl))
    · intro a h; unfold spec_BytesOver_l2 at h; cases h
    · rintro k_spec_BytesOver_l2 ⟨x4, r1, x5, p0⟩ h
      change spec_BytesOver_l2 u (k_spec_BytesOver_l2 + 1) x4 r1 x5 p0 = some r at h
      rw [spec_BytesOver_l2] at h
      refine Wp.seq ?_
      refine Wp.seq ?_
      refine Wp.regionS (pOf []) (rhoOf []) (by kernel_rfl) ?_
      refine Runs.batch 2 (by kernel_rfl) ?_
      refine Runs.lenT (y := .own 524289) (e := 3) (eInt .i64) r1 1 rfl rfl rfl (by kernel_rfl) (by kernel_rfl) (by kernel_rfl) (by kernel_rfl) (by kernel_rfl) ?_
      refine Runs.all (by kernel_rfl) ?_
      refine thenN ?_
      refine Wp.le (Le.of (s := ⟨[(3, .obj 3 0), (6, .t (.int .i64 0)), (7, .t (.int .i64 x4)), (8, .own 524289), (9, .t (.int .i64 x5)), (14, .t (.int .i64 x5)), (15, .own 524289), (16, .t (.int .i64 ((r1.length : Int)))), (17, .t (.bool (decide (x5 < ((r1.length : Int))))))], [(3, [.t (.int .i64 p0.fC.fSize), .t (.int .i64 p0.fC.fWindow), .t (.int .i64 p0.fC.fSuspect), .t (.int .i64 p0.fC.fForget), .t (.sl 1 (p0.fT.fUp.map (eInt .i64))), .t (.sl 1 (p0.fNew.map (eInt .u8))), .t (.sl 1 (p0.fOld.map Image.enc)), .t (.sl 12 (p0.fN.map Node.enc)), .t (.sl 6 (p0.fD.map Disk.enc)), .t (.sl 3 (p0.fNet.map Packet.enc)), .t (.sl 3 (p0.fLog.map Sent.enc)), .t (.int .i64 p0.fLost)])], [(524289, .live 3 1 (r1.map (eInt .i64)))]⟩) (mo := []) (mr := []) (by kernel_rfl) (by kernel_rfl) (by kernel_rfl) (by kernel_rfl)) ?_
      refine Wp.cond2 (b := decide (x5 < ((r1.length : Int)))) (by kernel_rfl) (fun hc => ?_) (fun hc => ?_)
      · have h := cond_t h hc
        refine Wp.skip ?_
        refine thenN ?_
        refine Wp.seq ?_
        refine Wp.block ?_
        refine Wp.regionA (pOf []) (rhoOf [(3, .obj 3), (7, .frz), (8, .own 8), (9, .frz), (20, .frz), (21, .frz), (22, .own 8), (23, .frz), (24, .el 8), (25, .frz), (26, .frz), (27, .frz)]) (by kernel_rfl) (by kernel_rfl) ?_
        refine Runs.batch 4 (by kernel_rfl) ?_
        obtain ⟨y8, e_y8, h⟩ := bind_some h
        refine Runs.idxO (e := 3) (e' := 3) (kk := .i64) (sz := 1) (eInt .i64) r1 x5 524289 rfl (by kernel_rfl) (by kernel_rfl) (by kernel_rfl) (by kernel_rfl) (by kernel_rfl) (by kernel_rfl) (by kernel_rfl) e_y8 ?_
        refine Runs.loadE (e' := 3) (sz := 1) (m := 1) (gg := false) (eInt .i64) r1 524289 (Int.toNat x5) 0 (.t (.int .i64 y8)) rfl (by kernel_rfl) (by kernel_rfl) (by kernel_rfl) (by kernel_rfl) (by kernel_rfl) (by kernel_rfl) (idx_some e_y8).2 (by kernel_rfl) ?_
        obtain ⟨r9, e_r9, h⟩ := bind_some h
        refine Runs.callK false 26 75 [] [.agg [.t (.int .i64 p0.fC.fSize), .t (.int .i64 p0.fC.fWindow), .t (.int .i64 p0.fC.fSuspect), .t (.int .i64 p0.fC.fForget), .t (.sl 1 (p0.fT.fUp.map (eInt .i64))), .t (.sl 1 (p0.fNew.map (eInt .u8))), .t (.sl 1 (p0.fOld.map Image.enc)), .t (.sl 12 (p0.fN.map Node.enc)), .t (.sl 6 (p0.fD.map Disk.enc)), .t (.sl 3 (p0.fNet.map Packet.enc)), .t (.sl 3 (p0.fLog.map Sent.enc)), .t (.int .i64 p0.fLost)], .t (.int .i64 y8)] [.agg [.t (.int .i64 p0.fC.fSize), .t (.int .i64 p0.fC.fWindow), .t (.int .i64 p0.fC.fSuspect), .t (.int .i64 p0.fC.fForget), .t (.sl 1 (p0.fT.fUp.map (eInt .i64))), .t (.sl 1 (p0.fNew.map (eInt .u8))), .t (.sl 1 (p0.fOld.map Image.enc)), .t (.sl 12 (p0.fN.map Node.enc)), .t (.sl 6 (p0.fD.map Disk.enc)), .t (.sl 3 (p0.fNet.map Packet.enc)), .t (.sl 3 (p0.fLog.map Sent.enc)), .t (.int .i64 p0.fLost)], .one (.t (.int .i64 y8))] (.one (.t (.int .i64 r9))) [] rfl rfl (by kernel_rfl) (by kernel_rfl) (by kernel_rfl) (by kernel_rfl) (by kernel_rfl) (spec_l24Bytes_ok u p0 y8 r9 e_r9) (by kernel_rfl) ?_
        refine Runs.all (by kernel_rfl) ?_
        refine blkN ?_
        refine thenN ?_
        refine Wp.regionS (pOf []) (rhoOf []) (by kernel_rfl) ?_
        refine Runs.all (by kernel_rfl) ?_
        refine thenN ?_
        exact ⟨(bAdd .i64 x4 r9, r1, bAdd .i64 x5 1, p0), h, Le.of (mo := []) (mr := []) (by kernel_rfl) (by kernel_rfl) (by kernel_rfl) (by kernel_rfl)⟩
      · have h := cond_f h hc
        refine Wp.exit ?_
        refine thenE ?_
        refine thenE ?_
        refine blkE ?_
        refine thenN ?_
        exact ⟨x4, h, Le.of (mo := []) (mr := []) (by kernel_rfl) (by kernel_rfl) (by kernel_rfl) (by kernel_rfl)⟩
theorem impl_PartsOver_ok (u : Nat) (p0 : World) (p1 : Int) (p2 : Int) (r : (List Int)) (h : impl_PartsOver u p0 p1 p2 = some r) : CallOK Try.prog 78 [.agg [.t (.int .i64 p0.fC.fSize), .t (.int .i64 p0.fC.fWindow), .t (.int .i64 p0.fC.fSuspect), .t (.int .i64 p0.fC.fForget), .t (.sl 1 (p0.fT.fUp.map (eInt .i64))), .t (.sl 1 (p0.fNew.map (eInt .u8))), .t (.sl 1 (p0.fOld.map Image.enc)), .t (.sl 12 (p0.fN.map Node.enc)), .t (.sl 6 (p0.fD.map Disk.enc)), .t (.sl 3 (p0.fNet.map Packet.enc)), .t (.sl 3 (p0.fLog.map Sent.enc)), .t (.int .i64 p0.fLost)], .one (.t (.int .i64 p1)), .one (.t (.int .i64 p2))] (.one (.ow 3 1 (r.map (eInt .i64)))) [] := by
  unfold impl_PartsOver at h
  refine CallOK.of_bodyK (fn := Try.f78) (m := true) [.agg [.t (.int .i64 p0.fC.fSize), .t (.int .i64 p0.fC.fWindow), .t (.int .i64 p0.fC.fSuspect), .t (.int .i64 p0.fC.fForget), .t (.sl 1 (p0.fT.fUp.map (eInt .i64))), .t (.sl 1 (p0.fNew.map (eInt .u8))), .t (.sl 1 (p0.fOld.map Image.enc)), .t (.sl 12 (p0.fN.map Node.enc)), .t (.sl 6 (p0.fD.map Disk.enc)), .t (.sl 3 (p0.fNet.map Packet.enc)), .t (.sl 3 (p0.fLog.map Sent.enc)), .t (.int .i64 p0.fLost)], .t (.int .i64 p1), .t (.int .i64 p2)] (by kernel_rfl) rfl (by kernel_rfl) (by kernel_rfl) (by kernel_rfl) (by kernel_rfl) (by kernel_rfl) ?_
  refine Wp.seq ?_
  refine Wp.regionS (pOf []) (rhoOf []) (by kernel_rfl) ?_
  refine Runs.all (by kernel_rfl) ?_
  refine thenN ?_
  refine Wp.le (Le.of (s := ⟨[(1, .t (.int .i64 p1)), (2, .t (.int .i64 p2)), (3, .obj 3 0), (6, .nil)], [(3, [.t (.int .i64 p0.fC.fSize), .t (.int .i64 p0.fC.fWindow), .t (.int .i64 p0.fC.fSuspect), .t (.int .i64 p0.fC.fForget), .t (.sl 1 (p0.fT.fUp.map (eInt .i64))), .t (.sl 1 (p0.fNew.map (eInt .u8))), .t (.sl 1 (p0.fOld.map Image.enc)), .t (.sl 12 (p0.fN.map Node.enc)), .t (.sl 6 (p0.fD.map Disk.enc)), .t (.sl 3 (p0.fNet.map Packet.enc)), .t (.sl 3 (p0.fLog.map Sent.enc)), .t (.int .i64 p0.fLost)])], []⟩) (mo := []) (mr := []) (by kernel_rfl) (by kernel_rfl) (by kernel_rfl) (by kernel_rfl)) ?_
  refine Wp.seq ?_
  refine Wp.regionS (pOf []) (rhoOf []) (by kernel_rfl) ?_
  refine Runs.all (by kernel_rfl) ?_
  refine thenN ?_
  refine Wp.le (Le.of (s := ⟨[(1, .t (.int .i64 p1)), (2, .t (.int .i64 p2)), (3, .obj 3 0), (6, .nil), (7, .own 655360)], [(3, [.t (.int .i64 p0.fC.fSize), .t (.int .i64 p0.fC.fWindow), .t (.int .i64 p0.fC.fSuspect), .t (.int .i64 p0.fC.fForget), .t (.sl 1 (p0.fT.fUp.map (eInt .i64))), .t (.sl 1 (p0.fNew.map (eInt .u8))), .t (.sl 1 (p0.fOld.map Image.enc)), .t (.sl 12 (p0.fN.map Node.enc)), .t (.sl 6 (p0.fD.map Disk.enc)), .t (.sl 3 (p0.fNet.map Packet.enc)), .t (.sl 3 (p0.fLog.map Sent.enc)), .t (.int .i64 p0.fLost)])], [(655360, .live 3 1 ((([] : List Int)).map (eInt .i64)))]⟩) (mo := []) (mr := []) (by kernel_rfl) (by kernel_rfl) (by kernel_rfl) (by kernel_rfl)) ?_
  refine Wp.seqJ (α := (List Int)) (fun a => ⟨[(6, .nil), (7, .own 458753)], [], [(458753, .live 3 1 (a.map (eInt .i64)))]⟩) (fun a => impl_PartsOver_j1 u a = some r) ?_ ?_
  · rintro x11 h
    change impl_PartsOver_j1 u x11 = some r at h
    unfold impl_PartsOver_j1 at h
    refine Wp.seq ?_
    refine Wp.regionS (pOf []) (rhoOf []) (by kernel_rfl) ?_
    refine Runs.all (by kernel_rfl) ?_
    refine thenN ?_
    refine Wp.le (Le.of (s := ⟨[(6, .own 458753)], [], [(458753, .live 3 1 (x11.map (eInt .i64)))]⟩) (mo := []) (mr := []) (by kernel_rfl) (by kernel_rfl) (by kernel_rfl) (by kernel_rfl)) ?_
    refine Wp.ret ?_
    have hr := Option.some.inj h
    subst hr
    exact RetK [.own 458753] (.one (.ow 3 1 (x11.map (eInt .i64)))) [] (by kernel_rfl) (by kernel_rfl) (.refl _) .nil
  · refine Wp.seq ?_
    refine Wp.regionS (pOf []) (rhoOf []) (by kernel_rfl) ?_
    refine Runs.batch 2 (by kernel_rfl) ?_
    refine Runs.lenT (y := .t (.sl 3 (p0.fLog.map Sent.enc))) (e := 99) Sent.enc p0.fLog 3 rfl rfl rfl (by kernel_rfl) (by kernel_rfl) (by kernel_rfl) (by kernel_rfl) (by kernel_rfl) ?_
    refine Runs.all (by kernel_rfl) ?_
    refine thenN ?_
    refine Wp.le (Le.of (s := ⟨[(1, .t (.int .i64 p1)), (2, .t (.int .i64 p2)), (6, .nil), (7, .own 655360), (12, .t (.sl 3 (p0.fLog.map Sent.enc))), (13, .t (.int .i64 ((p0.fLog.length : Int)))), (14, .t (.int .i64 0))], [], [(655360, .live 3 1 ((([] : List Int)).map (eInt .i64)))]⟩) (mo := []) (mr := []) (by kernel_rfl) (by kernel_rfl) (by kernel_rfl) (by kernel_rfl)) ?_
    refine Wp.block ?_
    refine Wp.loopF (α := Int × Int × (List Int) × World × Int) (fun a => ⟨[(1, .t (.int .i64 a.1)), (2, .t (.int .i64 a.2.1)), (6, .nil), (7, .own 458753), (12, .t (.sl 3 (a.2.2.2.1.fLog.map Sent.enc))), (13, .t (.int .i64 ((a.2.2.2.1.fLog.length : Int)))), (14, .t (.int .i64 a.2.2.2.2))], [], [(458753, .live 3 1 (a.2.2.1.map (eInt .i64)))]⟩) (fun k_impl_PartsOver_l2 a => impl_PartsOver_l2 u k_impl_PartsOver_l2 a.1 a.2.1 a.2.2.1 a.2.2.2.1 a.2.2.2.2 = some r) ?_ ?_ u (p1, p2, ([] : List Int), p0, 0) h (Le.of (mo := []) (mr := [(458753, 655360)]) (by kernel_rfl) (by kernel_rfl) (by kernel_rfl) (by kernel_rfl))
    · intro a h; unfold impl_PartsOver_l2 at h; cases h
    · rintro k_impl_PartsOver_l2 ⟨p1, p2, x3, p0, x4⟩ h
      change impl_PartsOver_l2 u (k_impl_PartsOver_l2 + 1) p1 p2 x3 p0 x4 = some r at h
      rw [impl_PartsOver_l2] at h
      refine Wp.seq ?_
      refine Wp.regionS (pOf []) (rhoOf []) (by kernel_rfl) ?_
      refine Runs.all (by kernel_rfl) ?_
      refine thenN ?_
      refine Wp.le (Le.of (s := ⟨[(1, .t (.int .i64 p1)), (2, .t (.int .i64 p2)), (6, .nil), (7, .own 458753), (12, .t (.sl 3 (p0.fLog.map Sent.enc))), (13, .t (.int .i64 ((p0.fLog.length : Int)))), (14, .t (.int .i64 x4)), (15, .t (.bool (decide (x4 < ((p0.fLog.length : Int))))))], [], [(458753, .live 3 1 (x3.map (eInt .i64)))]⟩) (mo := []) (mr := []) (by kernel_rfl) (by kernel_rfl) (by kernel_rfl) (by kernel_rfl)) ?_
      refine Wp.seq ?_
      refine Wp.cond2 (b := decide (x4 < ((p0.fLog.length : Int)))) (by kernel_rfl) (fun hc => ?_) (fun hc => ?_)
      · have h := cond_t h hc
        refine Wp.skip ?_
        refine thenN ?_
        refine Wp.seqJ (α := Int × Int × (List Int) × World × Int × Sent × Bool × Bool) (fun a => ⟨[(1, .t (.int .i64 a.1)), (2, .t (.int .i64 a.2.1)), (6, .nil), (7, .own 458753), (9, .obj 9 0), (12, .t (.sl 3 (a.2.2.2.1.fLog.map Sent.enc))), (13, .t (.int .i64 ((a.2.2.2.1.fLog.length : Int)))), (14, .t (.int .i64 a.2.2.2.2.1)), (15, .t (.bool (decide (a.2.2.2.2.1 < ((a.2.2.2.1.fLog.length : Int)))))), (16, .fadr [.int .i64 a.2.2.2.2.2.1.fFrom, .int .i64 a.2.2.2.2.2.1.fTo, .int .i64 a.2.2.2.2.2.1.fI]), (17, .agg [.t (.int .i64 a.2.2.2.2.2.1.fFrom), .t (.int .i64 a.2.2.2.2.2.1.fTo), .t (.int .i64 a.2.2.2.2.2.1.fI)]), (18, .obj 9 0), (19, .t (.int .i64 a.2.2.2.2.2.1.fFrom)), (20, .t (.int .i64 a.1)), (21, .t (.bool (a.2.2.2.2.2.1.fFrom == a.1))), (22, .t (.bool a.2.2.2.2.2.2.1)), (27, .t (.bool a.2.2.2.2.2.2.2))], [(9, [.t (.int .i64 a.2.2.2.2.2.1.fFrom), .t (.int .i64 a.2.2.2.2.2.1.fTo), .t (.int .i64 a.2.2.2.2.2.1.fI)])], [(458753, .live 3 1 (a.2.2.1.map (eInt .i64)))]⟩) (fun a => impl_PartsOver_j3 u (fun z0 z1 z2 z3 z4 => impl_PartsOver_l2 u k_impl_PartsOver_l2 z0 z1 z2 z3 z4) a.1 a.2.1 a.2.2.1 a.2.2.2.1 a.2.2.2.2.1 a.2.2.2.2.2.1 a.2.2.2.2.2.2.1 a.2.2.2.2.2.2.2 = some r) ?_ ?_
        · rintro ⟨p1, p2, x10, p0, x4, y7, x8, x9⟩ h
          change impl_PartsOver_j3 u (fun z0 z1 z2 z3 z4 => impl_PartsOver_l2 u k_impl_PartsOver_l2 z0 z1 z2 z3 z4) p1 p2 x10 p0 x4 y7 x8 x9 = some r at h
          unfold impl_PartsOver_j3 at h
          refine Wp.regionS (pOf []) (rhoOf []) (by kernel_rfl) ?_
          refine Runs.all (by kernel_rfl) ?_
          refine thenN ?_
          exact ⟨(p1, p2, x10, p0, bAdd .i64 x4 1), h, Le.of (mo := []) (mr := []) (by kernel_rfl) (by kernel_rfl) (by kernel_rfl) (by kernel_rfl)⟩
        · refine Wp.block ?_
          refine Wp.seq ?_
          refine Wp.regionS (pOf []) (rhoOf []) (by kernel_rfl) ?_
          obtain ⟨y7, e_y7, h⟩ := bind_some h
          refine Runs.idxT (e := 99) (kk := .i64) (sz := 3) Sent.enc p0.fLog x4 rfl (by kernel_rfl) (by kernel_rfl) (by kernel_rfl) (by kernel_rfl) (by kernel_rfl) (by kernel_rfl) e_y7 ?_
          refine Runs.all (by kernel_rfl) ?_
          refine thenN ?_
          refine Wp.le (Le.of (s := ⟨[(1, .t (.int .i64 p1)), (2, .t (.int .i64 p2)), (6, .nil), (7, .own 458753), (9, .obj 9 0), (12, .t (.sl 3 (p0.fLog.map Sent.enc))), (13, .t (.int .i64 ((p0.fLog.length : Int)))), (14, .t (.int .i64 x4)), (15, .t (.bool (decide (x4 < ((p0.fLog.length : Int)))))), (16, .fadr [.int .i64 y7.fFrom, .int .i64 y7.fTo, .int .i64 y7.fI]), (17, .agg [.t (.int .i64 y7.fFrom), .t (.int .i64 y7.fTo), .t (.int .i64 y7.fI)])], [(9, [.t (.int .i64 y7.fFrom), .t (.int .i64 y7.fTo), .t (.int .i64 y7.fI)])], [(458753, .live 3 1 (x3.map (eInt .i64)))]⟩) (mo := []) (mr := []) (by kernel_rfl) (by kernel_rfl) (by kernel_rfl) (by kernel_rfl)) ?_
          refine Wp.seqJ (α := Int × Int × (List Int) × World × Int × Sent × Bool × Bool) (fun a => ⟨[(1, .t (.int .i64 a.1)), (2, .t (.int .i64 a.2.1)), (6, .nil), (7, .own 458753), (9, .obj 9 0), (12, .t (.sl 3 (a.2.2.2.1.fLog.map Sent.enc))), (13, .t (.int .i64 ((a.2.2.2.1.fLog.length : Int)))), (14, .t (.int .i64 a.2.2.2.2.1)), (15, .t (.bool (decide (a.2.2.2.2.1 < ((a.2.2.2.1.fLog.length : Int)))))), (16, .fadr [.int .i64 a.2.2.2.2.2.1.fFrom, .int .i64 a.2.2.2.2.2.1.fTo, .int .i64 a.2.2.2.2.2.1.fI]), (17, .agg [.t (.int .i64 a.2.2.2.2.2.1.fFrom), .t (.int .i64 a.2.2.2.2.2.1.fTo), .t (.int .i64 a.2.2.2.2.2.1.fI)]), (18, .obj 9 0), (19, .t (.int .i64 a.2.2.2.2.2.1.fFrom)), (20, .t (.int .i64 a.1)), (21, .t (.bool (a.2.2.2.2.2.1.fFrom == a.1))), (22, .t (.bool a.2.2.2.2.2.2.1)), (27, .t (.bool a.2.2.2.2.2.2.2))], [(9, [.t (.int .i64 a.2.2.2.2.2.1.fFrom), .t (.int .i64 a.2.2.2.2.2.1.fTo), .t (.int .i64 a.2.2.2.2.2.1.fI)])], [(458753, .live 3 1 (a.2.2.1.map (eInt .i64)))]⟩) (fun a => impl_PartsOver_j4 u (fun z0 z1 z2 z3 z4 => impl_PartsOver_l2 u k_impl_PartsOver_l2 z0 z1 z2 z3 z4) a.1 a.2.1 a.2.2.1 a.2.2.2.1 a.2.2.2.2.1 a.2.2.2.2.2.1 a.2.2.2.2.2.2.1 a.2.2.2.2.2.2.2 = some r) ?_ ?_
          · rintro ⟨p1, p2, x3, p0, x4, y7, x8, x9⟩ h
            change impl_PartsOver_j4 u (fun z0 z1 z2 z3 z4 => impl_PartsOver_l2 u k_impl_PartsOver_l2 z0 z1 z2 z3 z4) p1 p2 x3 p0 x4 y7 x8 x9 = some r at h
            unfold impl_PartsOver_j4 at h
            refine Wp.cond2 (b := x9) (by kernel_rfl) (fun hc => ?_) (fun hc => ?_)
            · have h := cond_t h hc
              refine Wp.regionS (pOf []) (rhoOf []) (by kernel_rfl) ?_
              refine Runs.batch 4 (by kernel_rfl) ?_
              obtain ⟨_, e_10, h⟩ := bind_some h
              refine Runs.appT (y := .own 2031616) (eInt .i64) 32 1 3 1 8 458753 x3 ([y7.fI]) rfl rfl rfl rfl (by kernel_rfl) (by kernel_rfl) (by kernel_rfl) (by kernel_rfl) (by kernel_rfl) (by kernel_rfl) (.inl rfl) (by kernel_rfl) (of_decide_eq_true (chk_some e_10)) (by kernel_rfl) (by kernel_rfl) ?_
              refine Runs.all (by kernel_rfl) ?_
              refine blkN ?_
              refine thenN ?_
              exact ⟨(p1, p2, x3 ++ ([y7.fI]), p0, x4, y7, x8, x9), h, Le.of (mo := []) (mr := [(458753, 2097152)]) (by kernel_rfl) (by kernel_rfl) (by kernel_rfl) (by kernel_rfl)⟩
            · have h := cond_f h hc
              refine Wp.skip ?_
              refine blkN ?_
              refine thenN ?_
              exact ⟨(p1, p2, x3, p0, x4, y7, x8, x9), h, Le.of (mo := []) (mr := []) (by kernel_rfl) (by kernel_rfl) (by kernel_rfl) (by kernel_rfl)⟩
          · refine Wp.regionS (pOf []) (rhoOf []) (by kernel_rfl) ?_
            refine Runs.batch 5 (by kernel_rfl) ?_
            rcases tf (y7.fFrom == p1) with hc | hc
            · have h := cond_t h hc
              refine Runs.known 22 (v := true) (by kernel_rfl) hc ?_
              refine Runs.all (by kernel_rfl) ?_
              refine thenN ?_
              exact ⟨(p1, p2, x3, p0, x4, y7, true, y7.fTo == p2), h, Le.of (mo := []) (mr := []) (by kernel_rfl) (by kernel_rfl) (by kernel_rfl) (by kernel_rfl)⟩
            · have h := cond_f h hc
              refine Runs.known 22 (v := false) (by kernel_rfl) hc ?_
              refine Runs.all (by kernel_rfl) ?_
              refine thenN ?_
              exact ⟨(p1, p2, x3, p0, x4, y7, false, false), h, Le.of (mo := []) (mr := []) (by kernel_rfl) (by kernel_rfl) (by kernel_rfl) (by kernel_rfl)⟩
      · have h := cond_f h hc
        refine Wp.exit ?_
        refine thenE ?_
        refine thenE ?_
        refine blkE ?_
        refine thenN ?_
        exact ⟨x3, h, Le.of (mo := []) (mr := []) (by kernel_rfl) (by kernel_rfl) (by kernel_rfl) (by kernel_rfl)⟩
theorem impl_within_ok (u : Nat) (p0 : Int) (p1 : Int) (p2 : Int) (r : Bool) (h : impl_within u p0 p1 p2 = some r) : CallOK Try.prog 41 [.one (.t (.int .i64 p0)), .one (.t (.int .i64 p1)), .one (.t (.int .i64 p2))] (.one (.t (.bool r))) [] := by
  unfold impl_within at h
  refine CallOK.of_bodyK (fn := Try.f41) (m := false) [.t (.int .i64 p0), .t (.int .i64 p1), .t (.int .i64 p2)] (by kernel_rfl) rfl (by kernel_rfl) (by kernel_rfl) (by kernel_rfl) (by kernel_rfl) (by kernel_rfl) ?_
  refine Wp.seq ?_
  refine Wp.regionS (pOf []) (rhoOf []) (by kernel_rfl) ?_
  refine Runs.all (by kernel_rfl) ?_
  refine thenN ?_
  refine Wp.le (Le.of (s := ⟨[(0, .t (.int .i64 p0)), (1, .t (.int .i64 p1)), (2, .t (.int .i64 p2)), (6, .t (.bool false))], [], []⟩) (mo := []) (mr := []) (by kernel_rfl) (by kernel_rfl) (by kernel_rfl) (by kernel_rfl)) ?_
  refine Wp.seq ?_
  refine Wp.regionS (pOf []) (rhoOf []) (by kernel_rfl) ?_
  refine Runs.batch 4 (by kernel_rfl) ?_
  rcases tf (decide (p0 ≥ p1)) with hc | hc
  · have h := cond_t h hc
    refine Runs.known 10 (v := true) (by kernel_rfl) hc ?_
    refine Runs.all (by kernel_rfl) ?_
    refine thenN ?_
    refine Wp.le (Le.of (s := ⟨[(6, .t (.bool (decide (p0 ≤ p2))))], [], []⟩) (mo := []) (mr := []) (by kernel_rfl) (by kernel_rfl) (by kernel_rfl) (by kernel_rfl)) ?_
    refine Wp.ret ?_
    have hr := Option.some.inj h
    subst hr
    exact RetK [.t (.bool (decide (p0 ≤ p2)))] (.one (.t (.bool (decide (p0 ≤ p2))))) [] (by kernel_rfl) (by kernel_rfl) (.refl _) .nil
  · have h := cond_f h hc
    refine Runs.known 10 (v := false) (by kernel_rfl) hc ?_
    refine Runs.all (by kernel_rfl) ?_
    refine thenN ?_
    refine Wp.le (Le.of (s := ⟨[(6, .t (.bool false))], [], []⟩) (mo := []) (mr := []) (by kernel_rfl) (by kernel_rfl) (by kernel_rfl) (by kernel_rfl)) ?_
    refine Wp.ret ?_
    have hr := Option.some.inj h
    subst hr
    exact RetK [.t (.bool false)] (.one (.t (.bool false))) [] (by kernel_rfl) (by kernel_rfl) (.refl _) .nil
theorem impl_SizeOk_ok (u : Nat) (p0 : Int) (p1 : Int) (r : Bool) (h : impl_SizeOk u p0 p1 = some r) : CallOK Try.prog 48 [.one (.t (.int .i64 p0)), .one (.t (.int .i64 p1))] (.one (.t (.bool r))) [] := by
  unfold impl_SizeOk at h
  refine CallOK.of_bodyK (fn := Try.f48) (m := false) [.t (.int .i64 p0), .t (.int .i64 p1)] (by kernel_rfl) rfl (by kernel_rfl) (by kernel_rfl) (by kernel_rfl) (by kernel_rfl) (by kernel_rfl) ?_
  refine Wp.seq ?_
  refine Wp.regionS (pOf []) (rhoOf []) (by kernel_rfl) ?_
  refine Runs.all (by kernel_rfl) ?_
  refine thenN ?_
  refine Wp.le (Le.of (s := ⟨[(0, .t (.int .i64 p0)), (1, .t (.int .i64 p1)), (4, .t (.bool false))], [], []⟩) (mo := []) (mr := []) (by kernel_rfl) (by kernel_rfl) (by kernel_rfl) (by kernel_rfl)) ?_
  refine Wp.seq ?_
  refine Wp.regionS (pOf []) (rhoOf []) (by kernel_rfl) ?_
  refine Runs.batch 1 (by kernel_rfl) ?_
  obtain ⟨r1, e_r1, h⟩ := bind_some h
  refine Runs.callK false 6 41 [] [.t (.int .i64 p0), .t (.int .i64 2), .t (.int .i64 6)] [.one (.t (.int .i64 p0)), .one (.t (.int .i64 2)), .one (.t (.int .i64 6))] (.one (.t (.bool r1))) [] rfl rfl (by kernel_rfl) (by kernel_rfl) (by kernel_rfl) (by kernel_rfl) (by kernel_rfl) (impl_within_ok u p0 2 6 r1 e_r1) (by kernel_rfl) ?_
  refine Runs.batch 1 (by kernel_rfl) ?_
  rcases tf (r1) with hc | hc
  · have h := cond_t h hc
    refine Runs.known 7 (v := true) (by kernel_rfl) hc ?_
    refine Runs.batch 3 (by kernel_rfl) ?_
    obtain ⟨r2, e_r2, h⟩ := bind_some h
    refine Runs.callK false 11 41 [] [.t (.int .i64 p1), .t (.int .i64 0), .t (.int .i64 (bMul .i64 40 p0))] [.one (.t (.int .i64 p1)), .one (.t (.int .i64 0)), .one (.t (.int .i64 (bMul .i64 40 p0)))] (.one (.t (.bool r2))) [] rfl rfl (by kernel_rfl) (by kernel_rfl) (by kernel_rfl) (by kernel_rfl) (by kernel_rfl) (impl_within_ok u p1 0 (bMul .i64 40 p0) r2 e_r2) (by kernel_rfl) ?_
    refine Runs.all (by kernel_rfl) ?_
    refine thenN ?_
    refine Wp.le (Le.of (s := ⟨[(4, .t (.bool r2))], [], []⟩) (mo := []) (mr := []) (by kernel_rfl) (by kernel_rfl) (by kernel_rfl) (by kernel_rfl)) ?_
    refine Wp.ret ?_
    have hr := Option.some.inj h
    subst hr
    exact RetK [.t (.bool r2)] (.one (.t (.bool r2))) [] (by kernel_rfl) (by kernel_rfl) (.refl _) .nil
  · have h := cond_f h hc
    refine Runs.known 7 (v := false) (by kernel_rfl) hc ?_
    refine Runs.all (by kernel_rfl) ?_
    refine thenN ?_
    refine Wp.le (Le.of (s := ⟨[(4, .t (.bool false))], [], []⟩) (mo := []) (mr := []) (by kernel_rfl) (by kernel_rfl) (by kernel_rfl) (by kernel_rfl)) ?_
    refine Wp.ret ?_
    have hr := Option.some.inj h
    subst hr
    exact RetK [.t (.bool false)] (.one (.t (.bool false))) [] (by kernel_rfl) (by kernel_rfl) (.refl _) .nil
theorem impl_CeilDiv_ok (u : Nat) (p0 : Int) (p1 : Int) (r : Int) (h : impl_CeilDiv u p0 p1 = some r) : CallOK Try.prog 73 [.one (.t (.int .i64 p0)), .one (.t (.int .i64 p1))] (.one (.t (.int .i64 r))) [] := by
  unfold impl_CeilDiv at h
  refine CallOK.of_bodyK (fn := Try.f73) (m := false) [.t (.int .i64 p0), .t (.int .i64 p1)] (by kernel_rfl) rfl (by kernel_rfl) (by kernel_rfl) (by kernel_rfl) (by kernel_rfl) (by kernel_rfl) ?_
  refine Wp.seq ?_
  refine Wp.regionS (pOf []) (rhoOf []) (by kernel_rfl) ?_
  refine Runs.all (by kernel_rfl) ?_
  refine thenN ?_
  refine Wp.le (Le.of (s := ⟨[(0, .t (.int .i64 p0)), (1, .t (.int .i64 p1)), (4, .t (.int .i64 0))], [], []⟩) (mo := []) (mr := []) (by kernel_rfl) (by kernel_rfl) (by kernel_rfl) (by kernel_rfl)) ?_
  refine Wp.seq ?_
  refine Wp.seqJ (α := Int × Int × Bool) (fun a => ⟨[(0, .t (.int .i64 a.1)), (1, .t (.int .i64 a.2.1)), (4, .t (.int .i64 0)), (12, .t (.bool a.2.2))], [], []⟩) (fun a => impl_CeilDiv_j1 u a.1 a.2.1 a.2.2 = some r) ?_ ?_
  · rintro ⟨p0, p1, x3⟩ h
    change impl_CeilDiv_j1 u p0 p1 x3 = some r at h
    unfold impl_CeilDiv_j1 at h
    refine Wp.cond2 (b := x3) (by kernel_rfl) (fun hc => ?_) (fun hc => ?_)
    · have h := cond_t h hc
      refine Wp.seq ?_
      refine Wp.regionS (pOf []) (rhoOf []) (by kernel_rfl) ?_
      refine Runs.all (by kernel_rfl) ?_
      refine thenN ?_
      refine Wp.le (Le.of (s := ⟨[(0, .t (.int .i64 p0)), (1, .t (.int .i64 p1)), (4, .t (.int .i64 0))], [], []⟩) (mo := []) (mr := []) (by kernel_rfl) (by kernel_rfl) (by kernel_rfl) (by kernel_rfl)) ?_
      refine Wp.ret ?_
      refine thenR ?_
      have hr := Option.some.inj h
      subst hr
      exact RetK [.t (.int .i64 0)] (.one (.t (.int .i64 0))) [] (by kernel_rfl) (by kernel_rfl) (.refl _) .nil
    · have h := cond_f h hc
      refine Wp.skip ?_
      refine thenN ?_
      refine Wp.seq ?_
      refine Wp.regionS (pOf []) (rhoOf []) (by kernel_rfl) ?_
      refine Runs.batch 5 (by kernel_rfl) ?_
      obtain ⟨_, e_4, h⟩ := bind_some h
      refine Runs.num .quo (.int .i64 (bSub .i64 (bAdd .i64 p0 p1) 1)) (.int .i64 p1) (.int .i64 (bQuo .i64 (bSub .i64 (bAdd .i64 p0 p1) 1) p1)) rfl (by kernel_rfl) (by kernel_rfl) (by kernel_rfl) (by kernel_rfl) (bin_quo _ _ _ _ (by simpa using chk_some e_4)) ?_
      refine Runs.all (by kernel_rfl) ?_
      refine thenN ?_
      refine Wp.le (Le.of (s := ⟨[(4, .t (.int .i64 (bQuo .i64 (bSub .i64 (bAdd .i64 p0 p1) 1) p1)))], [], []⟩) (mo := []) (mr := []) (by kernel_rfl) (by kernel_rfl) (by kernel_rfl) (by kernel_rfl)) ?_
      refine Wp.ret ?_
      have hr := Option.some.inj h
      subst hr
      exact RetK [.t (.int .i64 (bQuo .i64 (bSub .i64 (bAdd .i64 p0 p1) 1) p1))] (.one (.t (.int .i64 (bQuo .i64 (bSub .i64 (bAdd .i64 p0 p1) 1) p1)))) [] (by kernel_rfl) (by kernel_rfl) (.refl _) .nil
  · refine Wp.regionS (pOf []) (rhoOf []) (by kernel_rfl) ?_
    refine Runs.batch 1 (by kernel_rfl) ?_
    obtain ⟨r1, e_r1, h⟩ := bind_some h
    refine Runs.callK false 6 41 [] [.t (.int .i64 p0), .t (.int .i64 0), .t (.int .i64 1000000000000)] [.one (.t (.int .i64 p0)), .one (.t (.int .i64 0)), .one (.t (.int .i64 1000000000000))] (.one (.t (.bool r1))) [] rfl rfl (by kernel_rfl) (by kernel_rfl) (by kernel_rfl) (by kernel_rfl) (by kernel_rfl) (impl_within_ok u p0 0 1000000000000 r1 e_r1) (by kernel_rfl) ?_
    refine Runs.batch 2 (by kernel_rfl) ?_
    rcases tf (!r1) with hc | hc
    · have h := cond_t h hc
      refine Runs.known 8 (v := true) (by kernel_rfl) hc ?_
      refine Runs.all (by kernel_rfl) ?_
      refine thenN ?_
      exact ⟨(p0, p1, true), h, Le.of (mo := []) (mr := []) (by kernel_rfl) (by kernel_rfl) (by kernel_rfl) (by kernel_rfl)⟩
    · have h := cond_f h hc
      refine Runs.known 8 (v := false) (by kernel_rfl) hc ?_
      refine Runs.batch 1 (by kernel_rfl) ?_
      obtain ⟨r2, e_r2, h⟩ := bind_some h
      refine Runs.callK false 10 41 [] [.t (.int .i64 p1), .t (.int .i64 1), .t (.int .i64 1000000000000)] [.one (.t (.int .i64 p1)), .one (.t (.int .i64 1)), .one (.t (.int .i64 1000000000000))] (.one (.t (.bool r2))) [] rfl rfl (by kernel_rfl) (by kernel_rfl) (by kernel_rfl) (by kernel_rfl) (by kernel_rfl) (impl_within_ok u p1 1 1000000000000 r2 e_r2) (by kernel_rfl) ?_
      refine Runs.all (by kernel_rfl) ?_
      refine thenN ?_
      exact ⟨(p0, p1, !r2), h, Le.of (mo := []) (mr := []) (by kernel_rfl) (by kernel_rfl) (by kernel_rfl) (by kernel_rfl)⟩
theorem impl_Blocks_ok (u : Nat) (p0 : Int) (p1 : Int) (r : Int) (h : impl_Blocks u p0 p1 = some r) : CallOK Try.prog 74 [.one (.t (.int .i64 p0)), .one (.t (.int .i64 p1))] (.one (.t (.int .i64 r))) [] := by
  unfold impl_Blocks at h
  refine CallOK.of_bodyK (fn := Try.f74) (m := false) [.t (.int .i64 p0), .t (.int .i64 p1)] (by kernel_rfl) rfl (by kernel_rfl) (by kernel_rfl) (by kernel_rfl) (by kernel_rfl) (by kernel_rfl) ?_
  refine Wp.seq ?_
  refine Wp.regionS (pOf []) (rhoOf []) (by kernel_rfl) ?_
  refine Runs.all (by kernel_rfl) ?_
  refine thenN ?_
  refine Wp.le (Le.of (s := ⟨[(0, .t (.int .i64 p0)), (1, .t (.int .i64 p1)), (4, .t (.int .i64 0))], [], []⟩) (mo := []) (mr := []) (by kernel_rfl) (by kernel_rfl) (by kernel_rfl) (by kernel_rfl)) ?_
  refine Wp.seq ?_
  refine Wp.seq ?_
  refine Wp.regionS (pOf []) (rhoOf []) (by kernel_rfl) ?_
  refine Runs.batch 2 (by kernel_rfl) ?_
  obtain ⟨r1, e_r1, h⟩ := bind_some h
  refine Runs.callK false 7 48 [] [.t (.int .i64 p0), .t (.int .i64 p1)] [.one (.t (.int .i64 p0)), .one (.t (.int .i64 p1))] (.one (.t (.bool r1))) [] rfl rfl (by kernel_rfl) (by kernel_rfl) (by kernel_rfl) (by kernel_rfl) (by kernel_rfl) (impl_SizeOk_ok u p0 p1 r1 e_r1) (by kernel_rfl) ?_
  refine Runs.all (by kernel_rfl) ?_
  refine thenN ?_
  refine Wp.le (Le.of (s := ⟨[(0, .t (.int .i64 p0)), (1, .t (.int .i64 p1)), (4, .t (.int .i64 0)), (8, .t (.bool (!r1)))], [], []⟩) (mo := []) (mr := []) (by kernel_rfl) (by kernel_rfl) (by kernel_rfl) (by kernel_rfl)) ?_
  refine Wp.cond2 (b := !r1) (by kernel_rfl) (fun hc => ?_) (fun hc => ?_)
  · have h := cond_t h hc
    refine Wp.seq ?_
    refine Wp.regionS (pOf []) (rhoOf []) (by kernel_rfl) ?_
    refine Runs.all (by kernel_rfl) ?_
    refine thenN ?_
    refine Wp.le (Le.of (s := ⟨[(0, .t (.int .i64 p0)), (1, .t (.int .i64 p1)), (4, .t (.int .i64 0))], [], []⟩) (mo := []) (mr := []) (by kernel_rfl) (by kernel_rfl) (by kernel_rfl) (by kernel_rfl)) ?_
    refine Wp.ret ?_
    refine thenR ?_
    have hr := Option.some.inj h
    subst hr
    exact RetK [.t (.int .i64 0)] (.one (.t (.int .i64 0))) [] (by kernel_rfl) (by kernel_rfl) (.refl _) .nil
  · have h := cond_f h hc
    refine Wp.skip ?_
    refine thenN ?_
    refine Wp.seq ?_
    refine Wp.regionS (pOf []) (rhoOf []) (by kernel_rfl) ?_
    refine Runs.batch 2 (by kernel_rfl) ?_
    obtain ⟨r2, e_r2, h⟩ := bind_some h
    refine Runs.callK false 11 73 [] [.t (.int .i64 p1), .t (.int .i64 p0)] [.one (.t (.int .i64 p1)), .one (.t (.int .i64 p0))] (.one (.t (.int .i64 r2))) [] rfl rfl (by kernel_rfl) (by kernel_rfl) (by kernel_rfl) (by kernel_rfl) (by kernel_rfl) (impl_CeilDiv_ok u p1 p0 r2 e_r2) (by kernel_rfl) ?_
    refine Runs.all (by kernel_rfl) ?_
    refine thenN ?_
    refine Wp.le (Le.of (s := ⟨[(4, .t (.int .i64 r2))], [], []⟩) (mo := []) (mr := []) (by kernel_rfl) (by kernel_rfl) (by kernel_rfl) (by kernel_rfl)) ?_
    refine Wp.ret ?_
    have hr := Option.some.inj h
    subst hr
    exact RetK [.t (.int .i64 r2)] (.one (.t (.int .i64 r2))) [] (by kernel_rfl) (by kernel_rfl) (.refl _) .nil
theorem impl_SpanOf_ok (u : Nat) (p0 : Int) (p1 : Int) (p2 : Int) (r : Int × Int) (h : impl_SpanOf u p0 p1 p2 = some r) : CallOK Try.prog 106 [.one (.t (.int .i64 p0)), .one (.t (.int .i64 p1)), .one (.t (.int .i64 p2))] (.tup [.one (.t (.int .i64 r.1)), .one (.t (.int .i64 r.2))]) [] := by
  unfold impl_SpanOf at h
  refine CallOK.of_bodyK (fn := Try.f106) (m := false) [.t (.int .i64 p0), .t (.int .i64 p1), .t (.int .i64 p2)] (by kernel_rfl) rfl (by kernel_rfl) (by kernel_rfl) (by kernel_rfl) (by kernel_rfl) (by kernel_rfl) ?_
  refine Wp.seq ?_
  refine Wp.regionS (pOf []) (rhoOf []) (by kernel_rfl) ?_
  refine Runs.all (by kernel_rfl) ?_
  refine thenN ?_
  refine Wp.le (Le.of (s := ⟨[(0, .t (.int .i64 p0)), (1, .t (.int .i64 p1)), (2, .t (.int .i64 p2)), (6, .t (.int .i64 0)), (7, .t (.int .i64 0))], [], []⟩) (mo := []) (mr := []) (by kernel_rfl) (by kernel_rfl) (by kernel_rfl) (by kernel_rfl)) ?_
  refine Wp.seq ?_
  refine Wp.seq ?_
  refine Wp.regionS (pOf []) (rhoOf []) (by kernel_rfl) ?_
  refine Runs.batch 3 (by kernel_rfl) ?_
  obtain ⟨r1, e_r1, h⟩ := bind_some h
  refine Runs.callK false 11 74 [] [.t (.int .i64 p0), .t (.int .i64 p1)] [.one (.t (.int .i64 p0)), .one (.t (.int .i64 p1))] (.one (.t (.int .i64 r1))) [] rfl rfl (by kernel_rfl) (by kernel_rfl) (by kernel_rfl) (by kernel_rfl) (by kernel_rfl) (impl_Blocks_ok u p0 p1 r1 e_r1) (by kernel_rfl) ?_
  refine Runs.batch 1 (by kernel_rfl) ?_
  obtain ⟨r2, e_r2, h⟩ := bind_some h
  refine Runs.callK false 13 41 [] [.t (.int .i64 p2), .t (.int .i64 0), .t (.int .i64 (bSub .i64 r1 1))] [.one (.t (.int .i64 p2)), .one (.t (.int .i64 0)), .one (.t (.int .i64 (bSub .i64 r1 1)))] (.one (.t (.bool r2))) [] rfl rfl (by kernel_rfl) (by kernel_rfl) (by kernel_rfl) (by kernel_rfl) (by kernel_rfl) (impl_within_ok u p2 0 (bSub .i64 r1 1) r2 e_r2) (by kernel_rfl) ?_
  refine Runs.all (by kernel_rfl) ?_
  refine thenN ?_
  refine Wp.le (Le.of (s := ⟨[(0, .t (.int .i64 p0)), (1, .t (.int .i64 p1)), (2, .t (.int .i64 p2)), (6, .t (.int .i64 0)), (7, .t (.int .i64 0)), (14, .t (.bool (!r2)))], [], []⟩) (mo := []) (mr := []) (by kernel_rfl) (by kernel_rfl) (by kernel_rfl) (by kernel_rfl)) ?_
  refine Wp.cond2 (b := !r2) (by kernel_rfl) (fun hc => ?_) (fun hc => ?_)
  · have h := cond_t h hc
    refine Wp.seq ?_
    refine Wp.regionS (pOf []) (rhoOf []) (by kernel_rfl) ?_
    refine Runs.all (by kernel_rfl) ?_
    refine thenN ?_
    refine Wp.le (Le.of (s := ⟨[(0, .t (.int .i64 p0)), (1, .t (.int .i64 p1)), (2, .t (.int .i64 p2)), (6, .t (.int .i64 0)), (7, .t (.int .i64 0))], [], []⟩) (mo := []) (mr := []) (by kernel_rfl) (by kernel_rfl) (by kernel_rfl) (by kernel_rfl)) ?_
    refine Wp.ret ?_
    refine thenR ?_
    have hr := Option.some.inj h
    subst hr
    exact RetK [.t (.int .i64 0), .t (.int .i64 0)] (.tup [.one (.t (.int .i64 0)), .one (.t (.int .i64 0))]) [] (by kernel_rfl) (by kernel_rfl) (.refl _) .nil
  · have h := cond_f h hc
    refine Wp.skip ?_
    refine thenN ?_
    refine Wp.seq ?_
    refine Wp.regionS (pOf []) (rhoOf []) (by kernel_rfl) ?_
    refine Runs.all (by kernel_rfl) ?_
    refine thenN ?_
    refine Wp.le (Le.of (s := ⟨[(6, .t (.int .i64 (bMul .i64 p2 p0))), (7, .t (.int .i64 (if (bSub .i64 p1 (bMul .i64 p2 p0)) < p0 then (bSub .i64 p1 (bMul .i64 p2 p0)) else p0)))], [], []⟩) (mo := []) (mr := []) (by kernel_rfl) (by kernel_rfl) (by kernel_rfl) (by kernel_rfl)) ?_
    refine Wp.ret ?_
    have hr := Option.some.inj h
    subst hr
    exact RetK [.t (.int .i64 (bMul .i64 p2 p0)), .t (.int .i64 (if (bSub .i64 p1 (bMul .i64 p2 p0)) < p0 then (bSub .i64 p1 (bMul .i64 p2 p0)) else p0))] (.tup [.one (.t (.int .i64 (bMul .i64 p2 p0))), .one (.t (.int .i64 (if (bSub .i64 p1 (bMul .i64 p2 p0)) < p0 then (bSub .i64 p1 (bMul .i64 p2 p0)) else p0)))]) [] (by kernel_rfl) (by kernel_rfl) (.refl _) .nil
theorem impl_World__bytesOf_ok (u : Nat) (p0 : World) (p1 : Int) (r : Int) (h : impl_World__bytesOf u p0 p1 = some r) : CallOK Try.prog 76 [.agg [.t (.int .i64 p0.fC.fSize), .t (.int .i64 p0.fC.fWindow), .t (.int .i64 p0.fC.fSuspect), .t (.int .i64 p0.fC.fForget), .t (.sl 1 (p0.fT.fUp.map (eInt .i64))), .t (.sl 1 (p0.fNew.map (eInt .u8))), .t (.sl 1 (p0.fOld.map Image.enc)), .t (.sl 12 (p0.fN.map Node.enc)), .t (.sl 6 (p0.fD.map Disk.enc)), .t (.sl 3 (p0.fNet.map Packet.enc)), .t (.sl 3 (p0.fLog.map Sent.enc)), .t (.int .i64 p0.fLost)], .one (.t (.int .i64 p1))] (.one (.t (.int .i64 r))) [] := by
  unfold impl_World__bytesOf at h
  refine CallOK.of_bodyK (fn := Try.f76) (m := false) [.agg [.t (.int .i64 p0.fC.fSize), .t (.int .i64 p0.fC.fWindow), .t (.int .i64 p0.fC.fSuspect), .t (.int .i64 p0.fC.fForget), .t (.sl 1 (p0.fT.fUp.map (eInt .i64))), .t (.sl 1 (p0.fNew.map (eInt .u8))), .t (.sl 1 (p0.fOld.map Image.enc)), .t (.sl 12 (p0.fN.map Node.enc)), .t (.sl 6 (p0.fD.map Disk.enc)), .t (.sl 3 (p0.fNet.map Packet.enc)), .t (.sl 3 (p0.fLog.map Sent.enc)), .t (.int .i64 p0.fLost)], .t (.int .i64 p1)] (by kernel_rfl) rfl (by kernel_rfl) (by kernel_rfl) (by kernel_rfl) (by kernel_rfl) (by kernel_rfl) ?_
  refine Wp.seq ?_
  refine Wp.regionS (pOf []) (rhoOf []) (by kernel_rfl) ?_
  refine Runs.all (by kernel_rfl) ?_
  refine thenN ?_
  refine Wp.le (Le.of (s := ⟨[(1, .t (.int .i64 p1)), (2, .obj 2 0), (4, .t (.int .i64 0))], [(2, [.t (.int .i64 p0.fC.fSize), .t (.int .i64 p0.fC.fWindow), .t (.int .i64 p0.fC.fSuspect), .t (.int .i64 p0.fC.fForget), .t (.sl 1 (p0.fT.fUp.map (eInt .i64))), .t (.sl 1 (p0.fNew.map (eInt .u8))), .t (.sl 1 (p0.fOld.map Image.enc)), .t (.sl 12 (p0.fN.map Node.enc)), .t (.sl 6 (p0.fD.map Disk.enc)), .t (.sl 3 (p0.fNet.map Packet.enc)), .t (.sl 3 (p0.fLog.map Sent.enc)), .t (.int .i64 p0.fLost)])], []⟩) (mo := []) (mr := []) (by kernel_rfl) (by kernel_rfl) (by kernel_rfl) (by kernel_rfl)) ?_
  refine Wp.seq ?_
  refine Wp.regionS (pOf []) (rhoOf []) (by kernel_rfl) ?_
  refine Runs.batch 5 (by kernel_rfl) ?_
  refine Runs.lenT (y := .t (.sl 1 (p0.fNew.map (eInt .u8)))) (e := 5) (eInt .u8) p0.fNew 1 rfl rfl rfl (by kernel_rfl) (by kernel_rfl) (by kernel_rfl) (by kernel_rfl) (by kernel_rfl) ?_
  refine Runs.batch 1 (by kernel_rfl) ?_
  obtain ⟨r1, e_r1, h⟩ := bind_some h
  refine Runs.callK false 15 106 [] [.t (.int .i64 p0.fC.fSize), .t (.int .i64 ((p0.fNew.length : Int))), .t (.int .i64 p1)] [.one (.t (.int .i64 p0.fC.fSize)), .one (.t (.int .i64 ((p0.fNew.length : Int)))), .one (.t (.int .i64 p1))] (.tup [.one (.t (.int .i64 r1.1)), .one (.t (.int .i64 r1.2))]) [] rfl rfl (by kernel_rfl) (by kernel_rfl) (by kernel_rfl) (by kernel_rfl) (by kernel_rfl) (impl_SpanOf_ok u p0.fC.fSize ((p0.fNew.length : Int)) p1 r1 e_r1) (by kernel_rfl) ?_
  refine Runs.all (by kernel_rfl) ?_
  refine thenN ?_
  refine Wp.le (Le.of (s := ⟨[(4, .t (.int .i64 0)), (6, .t (.int .i64 r1.2))], [], []⟩) (mo := []) (mr := []) (by kernel_rfl) (by kernel_rfl) (by kernel_rfl) (by kernel_rfl)) ?_
  refine Wp.seq ?_
  refine Wp.regionS (pOf []) (rhoOf []) (by kernel_rfl) ?_
  refine Runs.all (by kernel_rfl) ?_
  refine thenN ?_
  refine Wp.le (Le.of (s := ⟨[(4, .t (.int .i64 r1.2))], [], []⟩) (mo := []) (mr := []) (by kernel_rfl) (by kernel_rfl) (by kernel_rfl) (by kernel_rfl)) ?_
  refine Wp.ret ?_
  have hr := Option.some.inj h
  subst hr
  exact RetK [.t (.int .i64 r1.2)] (.one (.t (.int .i64 r1.2))) [] (by kernel_rfl) (by kernel_rfl) (.refl _) .nil
theorem impl_BytesOver_ok (u : Nat) (p0 : World) (p1 : Int) (p2 : Int) (r : Int) (h : impl_BytesOver u p0 p1 p2 = some r) : CallOK Try.prog 36 [.agg [.t (.int .i64 p0.fC.fSize), .t (.int .i64 p0.fC.fWindow), .t (.int .i64 p0.fC.fSuspect), .t (.int .i64 p0.fC.fForget), .t (.sl 1 (p0.fT.fUp.map (eInt .i64))), .t (.sl 1 (p0.fNew.map (eInt .u8))), .t (.sl 1 (p0.fOld.map Image.enc)), .t (.sl 12 (p0.fN.map Node.enc)), .t (.sl 6 (p0.fD.map Disk.enc)), .t (.sl 3 (p0.fNet.map Packet.enc)), .t (.sl 3 (p0.fLog.map Sent.enc)), .t (.int .i64 p0.fLost)], .one (.t (.int .i64 p1)), .one (.t (.int .i64 p2))] (.one (.t (.int .i64 r))) [] := by
  unfold impl_BytesOver at h
  refine CallOK.of_bodyK (fn := Try.f36) (m := false) [.agg [.t (.int .i64 p0.fC.fSize), .t (.int .i64 p0.fC.fWindow), .t (.int .i64 p0.fC.fSuspect), .t (.int .i64 p0.fC.fForget), .t (.sl 1 (p0.fT.fUp.map (eInt .i64))), .t (.sl 1 (p0.fNew.map (eInt .u8))), .t (.sl 1 (p0.fOld.map Image.enc)), .t (.sl 12 (p0.fN.map Node.enc)), .t (.sl 6 (p0.fD.map Disk.enc)), .t (.sl 3 (p0.fNet.map Packet.enc)), .t (.sl 3 (p0.fLog.map Sent.enc)), .t (.int .i64 p0.fLost)], .t (.int .i64 p1), .t (.int .i64 p2)] (by kernel_rfl) rfl (by kernel_rfl) (by kernel_rfl) (by kernel_rfl) (by kernel_rfl) (by kernel_rfl) ?_
  refine Wp.seq ?_
  refine Wp.regionS (pOf []) (rhoOf []) (by kernel_rfl) ?_
  refine Runs.all (by kernel_rfl) ?_
  refine thenN ?_
  refine Wp.le (Le.of (s := ⟨[(1, .t (.int .i64 p1)), (2, .t (.int .i64 p2)), (3, .obj 3 0), (6, .t (.int .i64 0))], [(3, [.t (.int .i64 p0.fC.fSize), .t (.int .i64 p0.fC.fWindow), .t (.int .i64 p0.fC.fSuspect), .t (.int .i64 p0.fC.fForget), .t (.sl 1 (p0.fT.fUp.map (eInt .i64))), .t (.sl 1 (p0.fNew.map (eInt .u8))), .t (.sl 1 (p0.fOld.map Image.enc)), .t (.sl 12 (p0.fN.map Node.enc)), .t (.sl 6 (p0.fD.map Disk.enc)), .t (.sl 3 (p0.fNet.map Packet.enc)), .t (.sl 3 (p0.fLog.map Sent.enc)), .t (.int .i64 p0.fLost)])], []⟩) (mo := []) (mr := []) (by kernel_rfl) (by kernel_rfl) (by kernel_rfl) (by kernel_rfl)) ?_
  refine Wp.seq ?_
  refine Wp.regionS (pOf []) (rhoOf []) (by kernel_rfl) ?_
  refine Runs.all (by kernel_rfl) ?_
  refine thenN ?_
  refine Wp.le (Le.of (s := ⟨[(1, .t (.int .i64 p1)), (2, .t (.int .i64 p2)), (3, .obj 3 0), (6, .t (.int .i64 0)), (7, .t (.int .i64 0))], [(3, [.t (.int .i64 p0.fC.fSize), .t (.int .i64 p0.fC.fWindow), .t (.int .i64 p0.fC.fSuspect), .t (.int .i64 p0.fC.fForget), .t (.sl 1 (p0.fT.fUp.map (eInt .i64))), .t (.sl 1 (p0.fNew.map (eInt .u8))), .t (.sl 1 (p0.fOld.map Image.enc)), .t (.sl 12 (p0.fN.map Node.enc)), .t (.sl 6 (p0.fD.map Disk.enc)), .t (.sl 3 (p0.fNet.map Packet.enc)), .t (.sl 3 (p0.fLog.map Sent.enc)), .t (.int .i64 p0.fLost)])], []⟩) (mo := []) (mr := []) (by kernel_rfl) (by kernel_rfl) (by kernel_rfl) (by kernel_rfl)) ?_
  refine Wp.seqJ (α := Int) (fun a => ⟨[(6, .t (.int .i64 0)), (7, .t (.int .i64 a))], [], []⟩) (fun a => impl_BytesOver_j1 u a = some r) ?_ ?_
  · rintro x10 h
    change impl_BytesOver_j1 u x10 = some r at h
    unfold impl_BytesOver_j1 at h
    refine Wp.seq ?_
    refine Wp.regionS (pOf []) (rhoOf []) (by kernel_rfl) ?_
    refine Runs.all (by kernel_rfl) ?_
    refine thenN ?_
    refine Wp.le (Le.of (s := ⟨[(6, .t (.int .i64 x10))], [], []⟩) (mo := []) (mr := []) (by kernel_rfl) (by kernel_rfl) (by kernel_rfl) (by kernel_rfl)) ?_
    refine Wp.ret ?_
    have hr := Option.some.inj h
    subst hr
    exact RetK [.t (.int .i64 x10)] (.one (.t (.int .i64 x10))) [] (by kernel_rfl) (by kernel_rfl) (.refl _) .nil
  · refine Wp.seq ?_
    refine Wp.regionS (pOf []) (rhoOf []) (by kernel_rfl) ?_
    refine Runs.batch 3 (by kernel_rfl) ?_
    obtain ⟨r1, e_r1, h⟩ := bind_some h
    refine Runs.callK false 13 78 [] [.agg [.t (.int .i64 p0.fC.fSize), .t (.int .i64 p0.fC.fWindow), .t (.int .i64 p0.fC.fSuspect), .t (.int .i64 p0.fC.fForget), .t (.sl 1 (p0.fT.fUp.map (eInt .i64))), .t (.sl 1 (p0.fNew.map (eInt .u8))), .t (.sl 1 (p0.fOld.map Image.enc)), .t (.sl 12 (p0.fN.map Node.enc)), .t (.sl 6 (p0.fD.map Disk.enc)), .t (.sl 3 (p0.fNet.map Packet.enc)), .t (.sl 3 (p0.fLog.map Sent.enc)), .t (.int .i64 p0.fLost)], .t (.int .i64 p1), .t (.int .i64 p2)] [.agg [.t (.int .i64 p0.fC.fSize), .t (.int .i64 p0.fC.fWindow), .t (.int .i64 p0.fC.fSuspect), .t (.int .i64 p0.fC.fForget), .t (.sl 1 (p0.fT.fUp.map (eInt .i64))), .t (.sl 1 (p0.fNew.map (eInt .u8))), .t (.sl 1 (p0.fOld.map Image.enc)), .t (.sl 12 (p0.fN.map Node.enc)), .t (.sl 6 (p0.fD.map Disk.enc)), .t (.sl 3 (p0.fNet.map Packet.enc)), .t (.sl 3 (p0.fLog.map Sent.enc)), .t (.int .i64 p0.fLost)], .one (.t (.int .i64 p1)), .one (.t (.int .i64 p2))] (.one (.ow 3 1 (r1.map (eInt .i64)))) [] rfl rfl (by kernel_rfl) (by kernel_rfl) (by kernel_rfl) (by kernel_rfl) (by kernel_rfl) (impl_PartsOver_ok u p0 p1 p2 r1 e_r1) (by kernel_rfl) ?_
    refine Runs.lenT (y := .own 851968) (e := 3) (eInt .i64) r1 1 rfl rfl rfl (by kernel_rfl) (by kernel_rfl) (by kernel_rfl) (by kernel_rfl) (by kernel_rfl) ?_
    refine Runs.all (by kernel_rfl) ?_
    refine thenN ?_
    refine Wp.le (Le.of (s := ⟨[(3, .obj 3 0), (6, .t (.int .i64 0)), (7, .t (.int .i64 0)), (13, .own 851968), (14, .t (.int .i64 ((r1.length : Int)))), (15, .t (.int .i64 0))], [(3, [.t (.int .i64 p0.fC.fSize), .t (.int .i64 p0.fC.fWindow), .t (.int .i64 p0.fC.fSuspect), .t (.int .i64 p0.fC.fForget), .t (.sl 1 (p0.fT.fUp.map (eInt .i64))), .t (.sl 1 (p0.fNew.map (eInt .u8))), .t (.sl 1 (p0.fOld.map Image.enc)), .t (.sl 12 (p0.fN.map Node.enc)), .t (.sl 6 (p0.fD.map Disk.enc)), .t (.sl 3 (p0.fNet.map Packet.enc)), .t (.sl 3 (p0.fLog.map Sent.enc)), .t (.int .i64 p0.fLost)])], [(851968, .live 3 1 (r1.map (eInt .i64)))]⟩) (mo := []) (mr := []) (by kernel_rfl) (by kernel_rfl) (by kernel_rfl) (by kernel_rfl)) ?_
    refine Wp.block ?_
    refine Wp.loopF (α := Int × ((List Int)) × Int × World) (fun a => ⟨[(3, .obj 3 0), (6, .t (.int .i64 0)), (7, .t (.int .i64 a.1)), (13, .own 851969), (14, .t (.int .i64 ((a.2.1.length : Int)))), (15, .t (.int .i64 a.2.2.1))], [(3, [.t (.int .i64 a.2.2.2.fC.fSize), .t (.int .i64 a.2.2.2.fC.fWindow), .t (.int .i64 a.2.2.2.fC.fSuspect), .t (.int .i64 a.2.2.2.fC.fForget), .t (.sl 1 (a.2.2.2.fT.fUp.map (eInt .i64))), .t (.sl 1 (a.2.2.2.fNew.map (eInt .u8))), .t (.sl 1 (a.2.2.2.fOld.map Image.enc)), .t (.sl 12 (a.2.2.2.fN.map Node.enc)), .t (.sl 6 (a.2.2.2.fD.map Disk.enc)), .t (.sl 3 (a.2.2.2.fNet.map Packet.enc)), .t (.sl 3 (a.2.2.2.fLog.map Sent.enc)), .t (.int .i64 a.2.2.2.fLost)])], [(851969, .live 3 1 (a.2.1.map (eInt .i64)))]⟩) (fun k_impl_BytesOver_l2 a => impl_BytesOver_l2 u k_impl_BytesOver_l2 a.1 a.2.1 a.2.2.1 a.2.2.2 = some r) ?_ ?_ u (0, r1, 0, p0) h (Le.of (mo := []) (mr := [(851969, 851968)]) (by kernel_rfl) (by kernel_rfl) (by kernel_rfl) (by kernel_rfl))
    · intro a h; unfold impl_BytesOver_l2 at h; cases h
    · rintro k_impl_BytesOver_l2 ⟨x4, r1, x5, p0⟩ h
      change impl_BytesOver_l2 u (k_impl_BytesOver_l2 + 1) x4 r1 x5 p0 = some r at h
      rw [impl_BytesOver_l2] at h
      refine Wp.seq ?_
      refine Wp.regionS (pOf []) (rhoOf []) (by kernel_rfl) ?_
      refine Runs.all (by kernel_rfl) ?_
      refine thenN ?_
      refine Wp.le (Le.of (s := ⟨[(3, .obj 3 0), (6, .t (.int .i64 0)), (7, .t (.int .i64 x4)), (13, .own 851969), (14, .t (.int .i64 ((r1.length : Int)))), (15, .t (.int .i64 x5)), (16, .t (.bool (decide (x5 < ((r1.length : Int))))))], [(3, [.t (.int .i64 p0.fC.fSize), .t (.int .i64 p0.fC.fWindow), .t (.int .i64 p0.fC.fSuspect), .t (.int .i64 p0.fC.fForget), .t (.sl 1 (p0.fT.fUp.map (eInt .i64))), .t (.sl 1 (p0.fNew.map (eInt .u8))), .t (.sl 1 (p0.fOld.map Image.enc)), .t (.sl 12 (p0.fN.map Node.enc)), .t (.sl 6 (p0.fD.map Disk.enc)), .t (.sl 3 (p0.fNet.map Packet.enc)), .t (.sl 3 (p0.fLog.map Sent.enc)), .t (.int .i64 p0.fLost)])], [(851969, .live 3 1 (r1.map (eInt .i64)))]⟩) (mo := []) (mr := []) (by kernel_rfl) (by kernel_rfl) (by kernel_rfl) (by kernel_rfl)) ?_
      refine Wp.seq ?_
      refine Wp.cond2 (b := decide (x5 < ((r1.length : Int)))) (by kernel_rfl) (fun hc => ?_) (fun hc => ?_)
      · have h := cond_t h hc
        refine Wp.skip ?_
        refine thenN ?_
        refine Wp.seq ?_
        refine Wp.block ?_
        refine Wp.seq ?_
        refine Wp.regionS (pOf []) (rhoOf []) (by kernel_rfl) ?_
        obtain ⟨y8, e_y8, h⟩ := bind_some h
        refine Runs.idxO (e := 3) (e' := 3) (kk := .i64) (sz := 1) (eInt .i64) r1 x5 851969 rfl (by kernel_rfl) (by kernel_rfl) (by kernel_rfl) (by kernel_rfl) (by kernel_rfl) (by kernel_rfl) (by kernel_rfl) e_y8 ?_
        refine Runs.loadE (e' := 3) (sz := 1) (m := 1) (gg := false) (eInt .i64) r1 851969 (Int.toNat x5) 0 (.t (.int .i64 y8)) rfl (by kernel_rfl) (by kernel_rfl) (by kernel_rfl) (by kernel_rfl) (by kernel_rfl) (by kernel_rfl) (idx_some e_y8).2 (by kernel_rfl) ?_
        refine Runs.all (by kernel_rfl) ?_
        refine thenN ?_
        refine Wp.le (Le.of (s := ⟨[(3, .obj 3 0), (6, .t (.int .i64 0)), (7, .t (.int .i64 x4)), (9, .t (.int .i64 y8)), (13, .own 851969), (14, .t (.int .i64 ((r1.length : Int)))), (15, .t (.int .i64 x5)), (16, .t (.bool (decide (x5 < ((r1.length : Int)))))), (17, .elem 851969 1 (Int.toNat x5) 0), (18, .t (.int .i64 y8))], [(3, [.t (.int .i64 p0.fC.fSize), .t (.int .i64 p0.fC.fWindow), .t (.int .i64 p0.fC.fSuspect), .t (.int .i64 p0.fC.fForget), .t (.sl 1 (p0.fT.fUp.map (eInt .i64))), .t (.sl 1 (p0.fNew.map (eInt .u8))), .t (.sl 1 (p0.fOld.map Image.enc)), .t (.sl 12 (p0.fN.map Node.enc)), .t (.sl 6 (p0.fD.map Disk.enc)), .t (.sl 3 (p0.fNet.map Packet.enc)), .t (.sl 3 (p0.fLog.map Sent.enc)), .t (.int .i64 p0.fLost)])], [(851969, .live 3 1 (r1.map (eInt .i64)))]⟩) (mo := []) (mr := []) (by kernel_rfl) (by kernel_rfl) (by kernel_rfl) (by kernel_rfl)) ?_
        refine Wp.regionS (pOf []) (rhoOf []) (by kernel_rfl) ?_
        refine Runs.batch 3 (by kernel_rfl) ?_
        obtain ⟨r9, e_r9, h⟩ := bind_some h
        refine Runs.callK false 22 76 [] [.agg [.t (.int .i64 p0.fC.fSize), .t (.int .i64 p0.fC.fWindow), .t (.int .i64 p0.fC.fSuspect), .t (.int .i64 p0.fC.fForget), .t (.sl 1 (p0.fT.fUp.map (eInt .i64))), .t (.sl 1 (p0.fNew.map (eInt .u8))), .t (.sl 1 (p0.fOld.map Image.enc)), .t (.sl 12 (p0.fN.map Node.enc)), .t (.sl 6 (p0.fD.map Disk.enc)), .t (.sl 3 (p0.fNet.map Packet.enc)), .t (.sl 3 (p0.fLog.map Sent.enc)), .t (.int .i64 p0.fLost)], .t (.int .i64 y8)] [.agg [.t (.int .i64 p0.fC.fSize), .t (.int .i64 p0.fC.fWindow), .t (.int .i64 p0.fC.fSuspect), .t (.int .i64 p0.fC.fForget), .t (.sl 1 (p0.fT.fUp.map (eInt .i64))), .t (.sl 1 (p0.fNew.map (eInt .u8))), .t (.sl 1 (p0.fOld.map Image.enc)), .t (.sl 12 (p0.fN.map Node.enc)), .t (.sl 6 (p0.fD.map Disk.enc)), .t (.sl 3 (p0.fNet.map Packet.enc)), .t (.sl 3 (p0.fLog.map Sent.enc)), .t (.int .i64 p0.fLost)], .one (.t (.int .i64 y8))] (.one (.t (.int .i64 r9))) [] rfl rfl (by kernel_rfl) (by kernel_rfl) (by kernel_rfl) (by kernel_rfl) (by kernel_rfl) (impl_World__bytesOf_ok u p0 y8 r9 e_r9) (by kernel_rfl) ?_
        refine Runs.all (by kernel_rfl) ?_
        refine blkN ?_
        refine thenN ?_
        refine Wp.regionS (pOf []) (rhoOf []) (by kernel_rfl) ?_
        refine Runs.all (by kernel_rfl) ?_
        refine thenN ?_
        exact ⟨(bAdd .i64 x4 r9, r1, bAdd .i64 x5 1, p0), h, Le.of (mo := []) (mr := []) (by kernel_rfl) (by kernel_rfl) (by kernel_rfl) (by kernel_rfl)⟩
      · have h := cond_f h hc
        refine Wp.exit ?_
        refine thenE ?_
        refine thenE ?_
        refine blkE ?_
        refine thenN ?_
        exact ⟨x4, h, Le.of (mo := []) (mr := []) (by kernel_rfl) (by kernel_rfl) (by kernel_rfl) (by kernel_rfl)⟩
theorem laws_eqConf_ok (u : Nat) (p0 : Conf) (p1 : Conf) (r : Bool) (h : laws_eqConf u p0 p1 = some r) : CallOK Try.prog 65 [.agg [.t (.int .i64 p0.fSize), .t (.int .i64 p0.fWindow), .t (.int .i64 p0.fSuspect), .t (.int .i64 p0.fForget)], .agg [.t (.int .i64 p1.fSize), .t (.int .i64 p1.fWindow), .t (.int .i64 p1.fSuspect), .t (.int .i64 p1.fForget)]] (.one (.t (.bool r))) [] := by
  unfold laws_eqConf at h
  refine CallOK.of_bodyK (fn := Try.f65) (m := false) [.agg [.t (.int .i64 p0.fSize), .t (.int .i64 p0.fWindow), .t (.int .i64 p0.fSuspect), .t (.int .i64 p0.fForget)], .agg [.t (.int .i64 p1.fSize), .t (.int .i64 p1.fWindow), .t (.int .i64 p1.fSuspect), .t (.int .i64 p1.fForget)]] (by kernel_rfl) rfl (by kernel_rfl) (by kernel_rfl) (by kernel_rfl) (by kernel_rfl) (by kernel_rfl) ?_
  refine Wp.seq ?_
  refine Wp.regionS (pOf []) (rhoOf []) (by kernel_rfl) ?_
  refine Runs.all (by kernel_rfl) ?_
  refine thenN ?_
  refine Wp.le (Le.of (s := ⟨[(2, .obj 2 0), (3, .obj 3 0), (4, .t (.bool false))], [(2, [.t (.int .i64 p0.fSize), .t (.int .i64 p0.fWindow), .t (.int .i64 p0.fSuspect), .t (.int .i64 p0.fForget)]), (3, [.t (.int .i64 p1.fSize), .t (.int .i64 p1.fWindow), .t (.int .i64 p1.fSuspect), .t (.int .i64 p1.fForget)])], []⟩) (mo := []) (mr := []) (by kernel_rfl) (by kernel_rfl) (by kernel_rfl) (by kernel_rfl)) ?_
  refine Wp.seq ?_
  refine Wp.seq ?_
  refine Wp.regionS (pOf []) (rhoOf []) (by kernel_rfl) ?_
  refine Runs.all (by kernel_rfl) ?_
  refine thenN ?_
  refine Wp.le (Le.of (s := ⟨[(2, .obj 2 0), (3, .obj 3 0), (4, .t (.bool false)), (9, .t (.bool (p0.fSize != p1.fSize)))], [(2, [.t (.int .i64 p0.fSize), .t (.int .i64 p0.fWindow), .t (.int .i64 p0.fSuspect), .t (.int .i64 p0.fForget)]), (3, [.t (.int .i64 p1.fSize), .t (.int .i64 p1.fWindow), .t (.int .i64 p1.fSuspect), .t (.int .i64 p1.fForget)])], []⟩) (mo := []) (mr := []) (by kernel_rfl) (by kernel_rfl) (by kernel_rfl) (by kernel_rfl)) ?_
  refine Wp.cond2 (b := p0.fSize != p1.fSize) (by kernel_rfl) (fun hc => ?_) (fun hc => ?_)
  · have h := cond_t h hc
    refine Wp.seq ?_
    refine Wp.regionS (pOf []) (rhoOf []) (by kernel_rfl) ?_
    refine Runs.all (by kernel_rfl) ?_
    refine thenN ?_
    refine Wp.le (Le.of (s := ⟨[(2, .obj 2 0), (3, .obj 3 0), (4, .t (.bool false))], [(2, [.t (.int .i64 p0.fSize), .t (.int .i64 p0.fWindow), .t (.int .i64 p0.fSuspect), .t (.int .i64 p0.fForget)]), (3, [.t (.int .i64 p1.fSize), .t (.int .i64 p1.fWindow), .t (.int .i64 p1.fSuspect), .t (.int .i64 p1.fForget)])], []⟩) (mo := []) (mr := []) (by kernel_rfl) (by kernel_rfl) (by kernel_rfl) (by kernel_rfl)) ?_
    refine Wp.ret ?_
    refine thenR ?_
    have hr := Option.some.inj h
    subst hr
    exact RetK [.t (.bool false)] (.one (.t (.bool false))) [] (by kernel_rfl) (by kernel_rfl) (.refl _) .nil
  · have h := cond_f h hc
    refine Wp.skip ?_
    refine thenN ?_
    refine Wp.seq ?_
    refine Wp.seq ?_
    refine Wp.regionS (pOf []) (rhoOf []) (by kernel_rfl) ?_
    refine Runs.all (by kernel_rfl) ?_
    refine thenN ?_
    refine Wp.le (Le.of (s := ⟨[(2, .obj 2 0), (3, .obj 3 0), (4, .t (.bool false)), (14, .t (.bool (p0.fWindow != p1.fWindow)))], [(2, [.t (.int .i64 p0.fSize), .t (.int .i64 p0.fWindow), .t (.int .i64 p0.fSuspect), .t (.int .i64 p0.fForget)]), (3, [.t (.int .i64 p1.fSize), .t (.int .i64 p1.fWindow), .t (.int .i64 p1.fSuspect), .t (.int .i64 p1.fForget)])], []⟩) (mo := []) (mr := []) (by kernel_rfl) (by kernel_rfl) (by kernel_rfl) (by kernel_rfl)) ?_
    refine Wp.cond2 (b := p0.fWindow != p1.fWindow) (by kernel_rfl) (fun hc => ?_) (fun hc => ?_)
    · have h := cond_t h hc
      refine Wp.seq ?_
      refine Wp.regionS (pOf []) (rhoOf []) (by kernel_rfl) ?_
      refine Runs.all (by kernel_rfl) ?_
      refine thenN ?_
      refine Wp.le (Le.of (s := ⟨[(2, .obj 2 0), (3, .obj 3 0), (4, .t (.bool false))], [(2, [.t (.int .i64 p0.fSize), .t (.int .i64 p0.fWindow), .t (.int .i64 p0.fSuspect), .t (.int .i64 p0.fForget)]), (3, [.t (.int .i64 p1.fSize), .t (.int .i64 p1.fWindow), .t (.int .i64 p1.fSuspect), .t (.int .i64 p1.fForget)])], []⟩) (mo := []) (mr := []) (by kernel_rfl) (by kernel_rfl) (by kernel_rfl) (by kernel_rfl)) ?_
      refine Wp.ret ?_
      refine thenR ?_
      have hr := Option.some.inj h
      subst hr
      exact RetK [.t (.bool false)] (.one (.t (.bool false))) [] (by kernel_rfl) (by kernel_rfl) (.refl _) .nil
    · have h := cond_f h hc
      refine Wp.skip ?_
      refine thenN ?_
      refine Wp.seq ?_
      refine Wp.seq ?_
      refine Wp.regionS (pOf []) (rhoOf []) (by kernel_rfl) ?_
      refine Runs.all (by kernel_rfl) ?_
      refine thenN ?_
      refine Wp.le (Le.of (s := ⟨[(2, .obj 2 0), (3, .obj 3 0), (4, .t (.bool false)), (19, .t (.bool (p0.fSuspect != p1.fSuspect)))], [(2, [.t (.int .i64 p0.fSize), .t (.int .i64 p0.fWindow), .t (.int .i64 p0.fSuspect), .t (.int .i64 p0.fForget)]), (3, [.t (.int .i64 p1.fSize), .t (.int .i64 p1.fWindow), .t (.int .i64 p1.fSuspect), .t (.int .i64 p1.fForget)])], []⟩) (mo := []) (mr := []) (by kernel_rfl) (by kernel_rfl) (by kernel_rfl) (by kernel_rfl)) ?_
      refine Wp.cond2 (b := p0.fSuspect != p1.fSuspect) (by kernel_rfl) (fun hc => ?_) (fun hc => ?_)
      · have h := cond_t h hc
        refine Wp.seq ?_
        refine Wp.regionS (pOf []) (rhoOf []) (by kernel_rfl) ?_
        refine Runs.all (by kernel_rfl) ?_
        refine thenN ?_
        refine Wp.le (Le.of (s := ⟨[(2, .obj 2 0), (3, .obj 3 0), (4, .t (.bool false))], [(2, [.t (.int .i64 p0.fSize), .t (.int .i64 p0.fWindow), .t (.int .i64 p0.fSuspect), .t (.int .i64 p0.fForget)]), (3, [.t (.int .i64 p1.fSize), .t (.int .i64 p1.fWindow), .t (.int .i64 p1.fSuspect), .t (.int .i64 p1.fForget)])], []⟩) (mo := []) (mr := []) (by kernel_rfl) (by kernel_rfl) (by kernel_rfl) (by kernel_rfl)) ?_
        refine Wp.ret ?_
        refine thenR ?_
        have hr := Option.some.inj h
        subst hr
        exact RetK [.t (.bool false)] (.one (.t (.bool false))) [] (by kernel_rfl) (by kernel_rfl) (.refl _) .nil
      · have h := cond_f h hc
        refine Wp.skip ?_
        refine thenN ?_
        refine Wp.seq ?_
        refine Wp.seq ?_
        refine Wp.regionS (pOf []) (rhoOf []) (by kernel_rfl) ?_
        refine Runs.all (by kernel_rfl) ?_
        refine thenN ?_
        refine Wp.le (Le.of (s := ⟨[(4, .t (.bool false)), (24, .t (.bool (p0.fForget != p1.fForget)))], [], []⟩) (mo := []) (mr := []) (by kernel_rfl) (by kernel_rfl) (by kernel_rfl) (by kernel_rfl)) ?_
        refine Wp.cond2 (b := p0.fForget != p1.fForget) (by kernel_rfl) (fun hc => ?_) (fun hc => ?_)
        · have h := cond_t h hc
          refine Wp.seq ?_
          refine Wp.regionS (pOf []) (rhoOf []) (by kernel_rfl) ?_
          refine Runs.all (by kernel_rfl) ?_
          refine thenN ?_
          refine Wp.le (Le.of (s := ⟨[(4, .t (.bool false))], [], []⟩) (mo := []) (mr := []) (by kernel_rfl) (by kernel_rfl) (by kernel_rfl) (by kernel_rfl)) ?_
          refine Wp.ret ?_
          refine thenR ?_
          have hr := Option.some.inj h
          subst hr
          exact RetK [.t (.bool false)] (.one (.t (.bool false))) [] (by kernel_rfl) (by kernel_rfl) (.refl _) .nil
        · have h := cond_f h hc
          refine Wp.skip ?_
          refine thenN ?_
          refine Wp.seq ?_
          refine Wp.regionS (pOf []) (rhoOf []) (by kernel_rfl) ?_
          refine Runs.all (by kernel_rfl) ?_
          refine thenN ?_
          refine Wp.le (Le.of (s := ⟨[(4, .t (.bool true))], [], []⟩) (mo := []) (mr := []) (by kernel_rfl) (by kernel_rfl) (by kernel_rfl) (by kernel_rfl)) ?_
          refine Wp.ret ?_
          have hr := Option.some.inj h
          subst hr
          exact RetK [.t (.bool true)] (.one (.t (.bool true))) [] (by kernel_rfl) (by kernel_rfl) (.refl _) .nil
theorem laws_eqIntS_ok (u : Nat) (p0 : List Int) (p1 : List Int) (r : Bool) (h : laws_eqIntS u p0 p1 = some r) : CallOK Try.prog 116 [.one (.t (.sl 1 (p0.map (eInt .i64)))), .one (.t (.sl 1 (p1.map (eInt .i64))))] (.one (.t (.bool r))) [] := by
  unfold laws_eqIntS at h
  refine CallOK.of_bodyK (fn := Try.f116) (m := false) [.t (.sl 1 (p0.map (eInt .i64))), .t (.sl 1 (p1.map (eInt .i64)))] (by kernel_rfl) rfl (by kernel_rfl) (by kernel_rfl) (by kernel_rfl) (by kernel_rfl) (by kernel_rfl) ?_
  refine Wp.seq ?_
  refine Wp.regionS (pOf []) (rhoOf []) (by kernel_rfl) ?_
  refine Runs.all (by kernel_rfl) ?_
  refine thenN ?_
  refine Wp.le (Le.of (s := ⟨[(0, .t (.sl 1 (p0.map (eInt .i64)))), (1, .t (.sl 1 (p1.map (eInt .i64)))), (4, .t (.bool false))], [], []⟩) (mo := []) (mr := []) (by kernel_rfl) (by kernel_rfl) (by kernel_rfl) (by kernel_rfl)) ?_
  refine Wp.seq ?_
  refine Wp.seq ?_
  refine Wp.regionS (pOf []) (rhoOf []) (by kernel_rfl) ?_
  refine Runs.batch 1 (by kernel_rfl) ?_
  refine Runs.lenT (y := .t (.sl 1 (p0.map (eInt .i64)))) (e := 3) (eInt .i64) p0 1 rfl rfl rfl (by kernel_rfl) (by kernel_rfl) (by kernel_rfl) (by kernel_rfl) (by kernel_rfl) ?_
  refine Runs.batch 1 (by kernel_rfl) ?_
  refine Runs.lenT (y := .t (.sl 1 (p1.map (eInt .i64)))) (e := 3) (eInt .i64) p1 1 rfl rfl rfl (by kernel_rfl) (by kernel_rfl) (by kernel_rfl) (by kernel_rfl) (by kernel_rfl) ?_
  refine Runs.all (by kernel_rfl) ?_
  refine thenN ?_
  refine Wp.le (Le.of (s := ⟨[(0, .t (.sl 1 (p0.map (eInt .i64)))), (1, .t (.sl 1 (p1.map (eInt .i64)))), (4, .t (.bool false)), (10, .t (.bool (((p0.length : Int)) != ((p1.length : Int)))))], [], []⟩) (mo := []) (mr := []) (by kernel_rfl) (by kernel_rfl) (by kernel_rfl) (by kernel_rfl)) ?_
  refine Wp.cond2 (b := ((p0.length : Int)) != ((p1.length : Int))) (by kernel_rfl) (fun hc => ?_) (fun hc => ?_)
  · have h := cond_t h hc
    refine Wp.seq ?_
    refine Wp.regionS (pOf []) (rhoOf []) (by kernel_rfl) ?_
    refine Runs.all (by kernel_rfl) ?_
    refine thenN ?_
    refine Wp.le (Le.of (s := ⟨[(0, .t (.sl 1 (p0.map (eInt .i64)))), (1, .t (.sl 1 (p1.map (eInt .i64)))), (4, .t (.bool false))], [], []⟩) (mo := []) (mr := []) (by kernel_rfl) (by kernel_rfl) (by kernel_rfl) (by kernel_rfl)) ?_
    refine Wp.ret ?_
    refine thenR ?_
    have hr := Option.some.inj h
    subst hr
    exact RetK [.t (.bool false)] (.one (.t (.bool false))) [] (by kernel_rfl) (by kernel_rfl) (.refl _) .nil
  · have h := cond_f h hc
    refine Wp.skip ?_
    refine thenN ?_
    refine Wp.seqJ (α := Unit) (fun a => ⟨[(4, .t (.bool false))], [], []⟩) (fun a => laws_eqIntS_j1 u = some r) ?_ ?_
    · rintro ⟨⟩ h
      change laws_eqIntS_j1 u = some r at h
      unfold laws_eqIntS_j1 at h
      refine Wp.seq ?_
      refine Wp.regionS (pOf []) (rhoOf []) (by kernel_rfl) ?_
      refine Runs.all (by kernel_rfl) ?_
      refine thenN ?_
      refine Wp.le (Le.of (s := ⟨[(4, .t (.bool true))], [], []⟩) (mo := []) (mr := []) (by kernel_rfl) (by kernel_rfl) (by kernel_rfl) (by kernel_rfl)) ?_
      refine Wp.ret ?_
      have hr := Option.some.inj h
      subst hr
      exact RetK [.t (.bool true)] (.one (.t (.bool true))) [] (by kernel_rfl) (by kernel_rfl) (.refl _) .nil
    · refine Wp.seq ?_
      refine Wp.regionS (pOf []) (rhoOf []) (by kernel_rfl) ?_
      refine Runs.all (by kernel_rfl) ?_
      refine thenN ?_
      refine Wp.le (Le.of (s := ⟨[(0, .t (.sl 1 (p0.map (eInt .i64)))), (1, .t (.sl 1 (p1.map (eInt .i64)))), (4, .t (.bool false)), (5, .t (.int .i64 0))], [], []⟩) (mo := []) (mr := []) (by kernel_rfl) (by kernel_rfl) (by kernel_rfl) (by kernel_rfl)) ?_
      refine Wp.block ?_
      refine Wp.loopF (α := (List Int) × (List Int) × Int) (fun a => ⟨[(0, .t (.sl 1 (a.1.map (eInt .i64)))), (1, .t (.sl 1 (a.2.1.map (eInt .i64)))), (4, .t (.bool false)), (5, .t (.int .i64 a.2.2))], [], []⟩) (fun k_laws_eqIntS_l2 a => laws_eqIntS_l2 u k_laws_eqIntS_l2 a.1 a.2.1 a.2.2 = some r) ?_ ?_ u (p0, p1, 0) h (Le.of (mo := []) (mr := []) (by kernel_rfl) (by kernel_rfl) (by kernel_rfl) (by kernel_rfl))
      · intro a h; unfold laws_eqIntS_l2 at h; cases h
      · rintro k_laws_eqIntS_l2 ⟨p0, p1, x2⟩ h
        change laws_eqIntS_l2 u (k_laws_eqIntS_l2 + 1) p0 p1 x2 = some r at h
        rw [laws_eqIntS_l2] at h
        refine Wp.seq ?_
        refine Wp.seq ?_
        refine Wp.regionS (pOf []) (rhoOf []) (by kernel_rfl) ?_
        refine Runs.batch 2 (by kernel_rfl) ?_
        refine Runs.lenT (y := .t (.sl 1 (p0.map (eInt .i64)))) (e := 3) (eInt .i64) p0 1 rfl rfl rfl (by kernel_rfl) (by kernel_rfl) (by kernel_rfl) (by kernel_rfl) (by kernel_rfl) ?_
        refine Runs.all (by kernel_rfl) ?_
        refine thenN ?_
        refine Wp.le (Le.of (s := ⟨[(0, .t (.sl 1 (p0.map (eInt .i64)))), (1, .t (.sl 1 (p1.map (eInt .i64)))), (4, .t (.bool false)), (5, .t (.int .i64 x2)), (11, .t (.int .i64 x2)), (12, .t (.sl 1 (p0.map (eInt .i64)))), (13, .t (.int .i64 ((p0.length : Int)))), (14, .t (.bool (decide (x2 < ((p0.length : Int))))))], [], []⟩) (mo := []) (mr := []) (by kernel_rfl) (by kernel_rfl) (by kernel_rfl) (by kernel_rfl)) ?_
        refine Wp.cond2 (b := decide (x2 < ((p0.length : Int)))) (by kernel_rfl) (fun hc => ?_) (fun hc => ?_)
        · have h := cond_t h hc
          refine Wp.skip ?_
          refine thenN ?_
          refine Wp.seq ?_
          refine Wp.block ?_
          refine Wp.seq ?_
          refine Wp.regionA (pOf []) (rhoOf [(0, .frz), (1, .frz), (5, .frz), (17, .frz), (18, .frz), (19, .frz), (20, .frz), (21, .frz), (22, .frz), (23, .frz), (24, .frz)]) (by kernel_rfl) (by kernel_rfl) ?_
          refine Runs.batch 2 (by kernel_rfl) ?_
          obtain ⟨y4, e_y4, h⟩ := bind_some h
          refine Runs.idxT (e := 3) (kk := .i64) (sz := 1) (eInt .i64) p0 x2 rfl (by kernel_rfl) (by kernel_rfl) (by kernel_rfl) (by kernel_rfl) (by kernel_rfl) (by kernel_rfl) e_y4 ?_
          refine Runs.batch 3 (by kernel_rfl) ?_
          obtain ⟨y5, e_y5, h⟩ := bind_some h
          refine Runs.idxT (e := 3) (kk := .i64) (sz := 1) (eInt .i64) p1 x2 rfl (by kernel_rfl) (by kernel_rfl) (by kernel_rfl) (by kernel_rfl) (by kernel_rfl) (by kernel_rfl) e_y5 ?_
          refine Runs.all (by kernel_rfl) ?_
          refine thenN ?_
          refine Wp.le (Le.of (s := ⟨[(0, .t (.sl 1 (p0.map (eInt .i64)))), (1, .t (.sl 1 (p1.map (eInt .i64)))), (4, .t (.bool false)), (5, .t (.int .i64 x2)), (11, .t (.int .i64 x2)), (12, .t (.sl 1 (p0.map (eInt .i64)))), (13, .t (.int .i64 ((p0.length : Int)))), (14, .t (.bool (decide (x2 < ((p0.length : Int)))))), (17, .t (.sl 1 (p0.map (eInt .i64)))), (18, .t (.int .i64 x2)), (19, .fadr [.int .i64 y4]), (20, .t (.int .i64 y4)), (21, .t (.sl 1 (p1.map (eInt .i64)))), (22, .t (.int .i64 x2)), (23, .fadr [.int .i64 y5]), (24, .t (.int .i64 y5)), (25, .t (.bool (y4 != y5)))], [], []⟩) (mo := []) (mr := []) (by kernel_rfl) (by kernel_rfl) (by kernel_rfl) (by kernel_rfl)) ?_
          refine Wp.cond2 (b := y4 != y5) (by kernel_rfl) (fun hc => ?_) (fun hc => ?_)
          · have h := cond_t h hc
            refine Wp.seq ?_
            refine Wp.regionS (pOf []) (rhoOf []) (by kernel_rfl) ?_
            refine Runs.all (by kernel_rfl) ?_
            refine thenN ?_
            refine Wp.le (Le.of (s := ⟨[(0, .t (.sl 1 (p0.map (eInt .i64)))), (1, .t (.sl 1 (p1.map (eInt .i64)))), (4, .t (.bool false)), (5, .t (.int .i64 x2)), (11, .t (.int .i64 x2)), (12, .t (.sl 1 (p0.map (eInt .i64)))), (13, .t (.int .i64 ((p0.length : Int)))), (14, .t (.bool (decide (x2 < ((p0.length : Int)))))), (17, .t (.sl 1 (p0.map (eInt .i64)))), (18, .t (.int .i64 x2)), (19, .fadr [.int .i64 y4]), (20, .t (.int .i64 y4)), (21, .t (.sl 1 (p1.map (eInt .i64)))), (22, .t (.int .i64 x2)), (23, .fadr [.int .i64 y5]), (24, .t (.int .i64 y5)), (25, .t (.bool (y4 != y5)))], [], []⟩) (mo := []) (mr := []) (by kernel_rfl) (by kernel_rfl) (by kernel_rfl) (by kernel_rfl)) ?_
            refine Wp.ret ?_
            refine blkR ?_
            refine thenR ?_
            refine thenR ?_
            refine blkR ?_
            refine thenR ?_
            have hr := Option.some.inj h
            subst hr
            exact RetK [.t (.bool false)] (.one (.t (.bool false))) [] (by kernel_rfl) (by kernel_rfl) (.refl _) .nil
          · have h := cond_f h hc
            refine Wp.skip ?_
            refine blkN ?_
            refine thenN ?_
            refine Wp.regionS (pOf []) (rhoOf []) (by kernel_rfl) ?_
            refine Runs.all (by kernel_rfl) ?_
            refine thenN ?_
            exact ⟨(p0, p1, bAdd .i64 x2 1), h, Le.of (mo := []) (mr := []) (by kernel_rfl) (by kernel_rfl) (by kernel_rfl) (by kernel_rfl)⟩
        · have h := cond_f h hc
          refine Wp.exit ?_
          refine thenE ?_
          refine thenE ?_
          refine blkE ?_
          refine thenN ?_
          exact ⟨(), h, Le.of (mo := []) (mr := []) (by kernel_rfl) (by kernel_rfl) (by kernel_rfl) (by kernel_rfl)⟩
theorem laws_eqTree_ok (u : Nat) (p0 : Tree) (p1 : Tree) (r : Bool) (h : laws_eqTree u p0 p1 = some r) : CallOK Try.prog 66 [.agg [.t (.sl 1 (p0.fUp.map (eInt .i64)))], .agg [.t (.sl 1 (p1.fUp.map (eInt .i64)))]] (.one (.t (.bool r))) [] := by
  unfold laws_eqTree at h
  refine CallOK.of_bodyK (fn := Try.f66) (m := false) [.agg [.t (.sl 1 (p0.fUp.map (eInt .i64)))], .agg [.t (.sl 1 (p1.fUp.map (eInt .i64)))]] (by kernel_rfl) rfl (by kernel_rfl) (by kernel_rfl) (by kernel_rfl) (by kernel_rfl) (by kernel_rfl) ?_
  refine Wp.seq ?_
  refine Wp.regionS (pOf []) (rhoOf []) (by kernel_rfl) ?_
  refine Runs.all (by kernel_rfl) ?_
  refine thenN ?_
  refine Wp.le (Le.of (s := ⟨[(2, .obj 2 0), (3, .obj 3 0), (4, .t (.bool false))], [(2, [.t (.sl 1 (p0.fUp.map (eInt .i64)))]), (3, [.t (.sl 1 (p1.fUp.map (eInt .i64)))])], []⟩) (mo := []) (mr := []) (by kernel_rfl) (by kernel_rfl) (by kernel_rfl) (by kernel_rfl)) ?_
  refine Wp.seq ?_
  refine Wp.seq ?_
  refine Wp.regionS (pOf []) (rhoOf []) (by kernel_rfl) ?_
  refine Runs.batch 4 (by kernel_rfl) ?_
  obtain ⟨r1, e_r1, h⟩ := bind_some h
  refine Runs.callK false 9 116 [] [.t (.sl 1 (p0.fUp.map (eInt .i64))), .t (.sl 1 (p1.fUp.map (eInt .i64)))] [.one (.t (.sl 1 (p0.fUp.map (eInt .i64)))), .one (.t (.sl 1 (p1.fUp.map (eInt .i64))))] (.one (.t (.bool r1))) [] rfl rfl (by kernel_rfl) (by kernel_rfl) (by kernel_rfl) (by kernel_rfl) (by kernel_rfl) (laws_eqIntS_ok u p0.fUp p1.fUp r1 e_r1) (by kernel_rfl) ?_
  refine Runs.all (by kernel_rfl) ?_
  refine thenN ?_
  refine Wp.le (Le.of (s := ⟨[(4, .t (.bool false)), (10, .t (.bool (!r1)))], [], []⟩) (mo := []) (mr := []) (by kernel_rfl) (by kernel_rfl) (by kernel_rfl) (by kernel_rfl)) ?_
  refine Wp.cond2 (b := !r1) (by kernel_rfl) (fun hc => ?_) (fun hc => ?_)
  · have h := cond_t h hc
    refine Wp.seq ?_
    refine Wp.regionS (pOf []) (rhoOf []) (by kernel_rfl) ?_
    refine Runs.all (by kernel_rfl) ?_
    refine thenN ?_
    refine Wp.le (Le.of (s := ⟨[(4, .t (.bool false))], [], []⟩) (mo := []) (mr := []) (by kernel_rfl) (by kernel_rfl) (by kernel_rfl) (by kernel_rfl)) ?_
    refine Wp.ret ?_
    refine thenR ?_
    have hr := Option.some.inj h
    subst hr
    exact RetK [.t (.bool false)] (.one (.t (.bool false))) [] (by kernel_rfl) (by kernel_rfl) (.refl _) .nil
  · have h := cond_f h hc
    refine Wp.skip ?_
    refine thenN ?_
    refine Wp.seq ?_
    refine Wp.regionS (pOf []) (rhoOf []) (by kernel_rfl) ?_
    refine Runs.all (by kernel_rfl) ?_
    refine thenN ?_
    refine Wp.le (Le.of (s := ⟨[(4, .t (.bool true))], [], []⟩) (mo := []) (mr := []) (by kernel_rfl) (by kernel_rfl) (by kernel_rfl) (by kernel_rfl)) ?_
    refine Wp.ret ?_
    have hr := Option.some.inj h
    subst hr
    exact RetK [.t (.bool true)] (.one (.t (.bool true))) [] (by kernel_rfl) (by kernel_rfl) (.refl _) .nil
theorem laws_eqByteS_ok (u : Nat) (p0 : List Int) (p1 : List Int) (r : Bool) (h : laws_eqByteS u p0 p1 = some r) : CallOK Try.prog 16 [.one (.t (.sl 1 (p0.map (eInt .u8)))), .one (.t (.sl 1 (p1.map (eInt .u8))))] (.one (.t (.bool r))) [] := by
  unfold laws_eqByteS at h
  refine CallOK.of_bodyK (fn := Try.f16) (m := false) [.t (.sl 1 (p0.map (eInt .u8))), .t (.sl 1 (p1.map (eInt .u8)))] (by kernel_rfl) rfl (by kernel_rfl) (by kernel_rfl) (by kernel_rfl) (by kernel_rfl) (by kernel_rfl) ?_
  refine Wp.seq ?_
  refine Wp.regionS (pOf []) (rhoOf []) (by kernel_rfl) ?_
  refine Runs.all (by kernel_rfl) ?_
  refine thenN ?_
  refine Wp.le (Le.of (s := ⟨[(0, .t (.sl 1 (p0.map (eInt .u8)))), (1, .t (.sl 1 (p1.map (eInt .u8)))), (4, .t (.bool false))], [], []⟩) (mo := []) (mr := []) (by kernel_rfl) (by kernel_rfl) (by kernel_rfl) (by kernel_rfl)) ?_
  refine Wp.seq ?_
  refine Wp.seq ?_
  refine Wp.regionS (pOf []) (rhoOf []) (by kernel_rfl) ?_
  refine Runs.batch 1 (by kernel_rfl) ?_
  refine Runs.lenT (y := .t (.sl 1 (p0.map (eInt .u8)))) (e := 5) (eInt .u8) p0 1 rfl rfl rfl (by kernel_rfl) (by kernel_rfl) (by kernel_rfl) (by kernel_rfl) (by kernel_rfl) ?_
  refine Runs.batch 1 (by kernel_rfl) ?_
  refine Runs.lenT (y := .t (.sl 1 (p1.map (eInt .u8)))) (e := 5) (eInt .u8) p1 1 rfl rfl rfl (by kernel_rfl) (by kernel_rfl) (by kernel_rfl) (by kernel_rfl) (by kernel_rfl) ?_
  refine Runs.all (by kernel_rfl) ?_
  refine thenN ?_
  refine Wp.le (Le.of (s := ⟨[(0, .t (.sl 1 (p0.map (eInt .u8)))), (1, .t (.sl 1 (p1.map (eInt .u8)))), (4, .t (.bool false)), (10, .t (.bool (((p0.length : Int)) != ((p1.length : Int)))))], [], []⟩) (mo := []) (mr := []) (by kernel_rfl) (by kernel_rfl) (by kernel_rfl) (by kernel_rfl)) ?_
  refine Wp.cond2 (b := ((p0.length : Int)) != ((p1.length : Int))) (by kernel_rfl) (fun hc => ?_) (fun hc => ?_)
  · have h := cond_t h hc
    refine Wp.seq ?_
    refine Wp.regionS (pOf []) (rhoOf []) (by kernel_rfl) ?_
    refine Runs.all (by kernel_rfl) ?_
    refine thenN ?_
    refine Wp.le (Le.of (s := ⟨[(0, .t (.sl 1 (p0.map (eInt .u8)))), (1, .t (.sl 1 (p1.map (eInt .u8)))), (4, .t (.bool false))], [], []⟩) (mo := []) (mr := []) (by kernel_rfl) (by kernel_rfl) (by kernel_rfl) (by kernel_rfl)) ?_
    refine Wp.ret ?_
    refine thenR ?_
    have hr := Option.some.inj h
    subst hr
    exact RetK [.t (.bool false)] (.one (.t (.bool false))) [] (by kernel_rfl) (by kernel_rfl) (.refl _) .nil
  · have h := cond_f h hc
    refine Wp.skip ?_
    refine thenN ?_
    refine Wp.seqJ (α := Unit) (fun a => ⟨[(4, .t (.bool false))], [], []⟩) (fun a => laws_eqByteS_j1 u = some r) ?_ ?_
    · rintro ⟨⟩ h
      change laws_eqByteS_j1 u = some r at h
      unfold laws_eqByteS_j1 at h
      refine Wp.seq ?_
      refine Wp.regionS (pOf []) (rhoOf []) (by kernel_rfl) ?_
      refine Runs.all (by kernel_rfl) ?_
      refine thenN ?_
      refine Wp.le (Le.of (s := ⟨[(4, .t (.bool true))], [], []⟩) (mo := []) (mr := []) (by kernel_rfl) (by kernel_rfl) (by kernel_rfl) (by kernel_rfl)) ?_
      refine Wp.ret ?_
      have hr := Option.some.inj h
      subst hr
      exact RetK [.t (.bool true)] (.one (.t (.bool true))) [] (by kernel_rfl) (by kernel_rfl) (.refl _) .nil
    · refine Wp.seq ?_
      refine Wp.regionS (pOf []) (rhoOf []) (by kernel_rfl) ?_
      refine Runs.all (by kernel_rfl) ?_
      refine thenN ?_
      refine Wp.le (Le.of (s := ⟨[(0, .t (.sl 1 (p0.map (eInt .u8)))), (1, .t (.sl 1 (p1.map (eInt .u8)))), (4, .t (.bool false)), (5, .t (.int .i64 0))], [], []⟩) (mo := []) (mr := []) (by kernel_rfl) (by kernel_rfl) (by kernel_rfl) (by kernel_rfl)) ?_
      refine Wp.block ?_
      refine Wp.loopF (α := (List Int) × (List Int) × Int) (fun a => ⟨[(0, .t (.sl 1 (a.1.map (eInt .u8)))), (1, .t (.sl 1 (a.2.1.map (eInt .u8)))), (4, .t (.bool false)), (5, .t (.int .i64 a.2.2))], [], []⟩) (fun k_laws_eqByteS_l2 a => laws_eqByteS_l2 u k_laws_eqByteS_l2 a.1 a.2.1 a.2.2 = some r) ?_ ?_ u (p0, p1, 0) h (Le.of (mo := []) (mr := []) (by kernel_rfl) (by kernel_rfl) (by kernel_rfl) (by kernel_rfl))
      · intro a h; unfold laws_eqByteS_l2 at h; cases h
      · rintro k_laws_eqByteS_l2 ⟨p0, p1, x2⟩ h
        change laws_eqByteS_l2 u (k_laws_eqByteS_l2 + 1) p0 p1 x2 = some r at h
        rw [laws_eqByteS_l2] at h
        refine Wp.seq ?_
        refine Wp.seq ?_
        refine Wp.regionS (pOf []) (rhoOf []) (by kernel_rfl) ?_
        refine Runs.batch 2 (by kernel_rfl) ?_
        refine Runs.lenT (y := .t (.sl 1 (p0.map (eInt .u8)))) (e := 5) (eInt .u8) p0 1 rfl rfl rfl (by kernel_rfl) (by kernel_rfl) (by kernel_rfl) (by kernel_rfl) (by kernel_rfl) ?_
        refine Runs.all (by kernel_rfl) ?_
        refine thenN ?_
        refine Wp.le (Le.of (s := ⟨[(0, .t (.sl 1 (p0.map (eInt .u8)))), (1, .t (.sl 1 (p1.map (eInt .u8)))), (4, .t (.bool false)), (5, .t (.int .i64 x2)), (11, .t (.int .i64 x2)), (12, .t (.sl 1 (p0.map (eInt .u8)))), (13, .t (.int .i64 ((p0.length : Int)))), (14, .t (.bool (decide (x2 < ((p0.length : Int))))))], [], []⟩) (mo := []) (mr := []) (by kernel_rfl) (by kernel_rfl) (by kernel_rfl) (by kernel_rfl)) ?_
        refine Wp.cond2 (b := decide (x2 < ((p0.length : Int)))) (by kernel_rfl) (fun hc => ?_) (fun hc => ?_)
        · have h := cond_t h hc
          refine Wp.skip ?_
          refine thenN ?_
          refine Wp.seq ?_
          refine Wp.block ?_
          refine Wp.seq ?_
          refine Wp.regionA (pOf []) (rhoOf [(0, .frz), (1, .frz), (5, .frz), (17, .frz), (18, .frz), (19, .frz), (20, .frz), (21, .frz), (22, .frz), (23, .frz), (24, .frz)]) (by kernel_rfl) (by kernel_rfl) ?_
          refine Runs.batch 2 (by kernel_rfl) ?_
          obtain ⟨y4, e_y4, h⟩ := bind_some h
          refine Runs.idxT (e := 5) (kk := .i64) (sz := 1) (eInt .u8) p0 x2 rfl (by kernel_rfl) (by kernel_rfl) (by kernel_rfl) (by kernel_rfl) (by kernel_rfl) (by kernel_rfl) e_y4 ?_
          refine Runs.batch 3 (by kernel_rfl) ?_
          obtain ⟨y5, e_y5, h⟩ := bind_some h
          refine Runs.idxT (e := 5) (kk := .i64) (sz := 1) (eInt .u8) p1 x2 rfl (by kernel_rfl) (by kernel_rfl) (by kernel_rfl) (by kernel_rfl) (by kernel_rfl) (by kernel_rfl) e_y5 ?_
          refine Runs.all (by kernel_rfl) ?_
          refine thenN ?_
          refine Wp.le (Le.of (s := ⟨[(0, .t (.sl 1 (p0.map (eInt .u8)))), (1, .t (.sl 1 (p1.map (eInt .u8)))), (4, .t (.bool false)), (5, .t (.int .i64 x2)), (11, .t (.int .i64 x2)), (12, .t (.sl 1 (p0.map (eInt .u8)))), (13, .t (.int .i64 ((p0.length : Int)))), (14, .t (.bool (decide (x2 < ((p0.length : Int)))))), (17, .t (.sl 1 (p0.map (eInt .u8)))), (18, .t (.int .i64 x2)), (19, .fadr [.int .u8 y4]), (20, .t (.int .u8 y4)), (21, .t (.sl 1 (p1.map (eInt .u8)))), (22, .t (.int .i64 x2)), (23, .fadr [.int .u8 y5]), (24, .t (.int .u8 y5)), (25, .t (.bool (y4 != y5)))], [], []⟩) (mo := []) (mr := []) (by kernel_rfl) (by kernel_rfl) (by kernel_rfl) (by kernel_rfl)) ?_
          refine Wp.cond2 (b := y4 != y5) (by kernel_rfl) (fun hc => ?_) (fun hc => ?_)
          · have h := cond_t h hc
            refine Wp.seq ?_
            refine Wp.regionS (pOf []) (rhoOf []) (by kernel_rfl) ?_
            refine Runs.all (by kernel_rfl) ?_
            refine thenN ?_
            refine Wp.le (Le.of (s := ⟨[(0, .t (.sl 1 (p0.map (eInt .u8)))), (1, .t (.sl 1 (p1.map (eInt .u8)))), (4, .t (.bool false)), (5, .t (.int .i64 x2)), (11, .t (.int .i64 x2)), (12, .t (.sl 1 (p0.map (eInt .u8)))), (13, .t (.int .i64 ((p0.length : Int)))), (14, .t (.bool (decide (x2 < ((p0.length : Int)))))), (17, .t (.sl 1 (p0.map (eInt .u8)))), (18, .t (.int .i64 x2)), (19, .fadr [.int .u8 y4]), (20, .t (.int .u8 y4)), (21, .t (.sl 1 (p1.map (eInt .u8)))), (22, .t (.int .i64 x2)), (23, .fadr [.int .u8 y5]), (24, .t (.int .u8 y5)), (25, .t (.bool (y4 != y5)))], [], []⟩) (mo := []) (mr := []) (by kernel_rfl) (by kernel_rfl) (by kernel_rfl) (by kernel_rfl)) ?_
            refine Wp.ret ?_
            refine blkR ?_
            refine thenR ?_
            refine thenR ?_
            refine blkR ?_
            refine thenR ?_
            have hr := Option.some.inj h
            subst hr
            exact RetK [.t (.bool false)] (.one (.t (.bool false))) [] (by kernel_rfl) (by kernel_rfl) (.refl _) .nil
          · have h := cond_f h hc
            refine Wp.skip ?_
            refine blkN ?_
            refine thenN ?_
            refine Wp.regionS (pOf []) (rhoOf []) (by kernel_rfl) ?_
            refine Runs.all (by kernel_rfl) ?_
            refine thenN ?_
            exact ⟨(p0, p1, bAdd .i64 x2 1), h, Le.of (mo := []) (mr := []) (by kernel_rfl) (by kernel_rfl) (by kernel_rfl) (by kernel_rfl)⟩
        · have h := cond_f h hc
          refine Wp.exit ?_
          refine thenE ?_
          refine thenE ?_
          refine blkE ?_
          refine thenN ?_
          exact ⟨(), h, Le.of (mo := []) (mr := []) (by kernel_rfl) (by kernel_rfl) (by kernel_rfl) (by kernel_rfl)⟩
theorem laws_eqImage_ok (u : Nat) (p0 : Image) (p1 : Image) (r : Bool) (h : laws_eqImage u p0 p1 = some r) : CallOK Try.prog 52 [.agg [.t (.sl 1 (p0.fB.map (eInt .u8)))], .agg [.t (.sl 1 (p1.fB.map (eInt .u8)))]] (.one (.t (.bool r))) [] := by
  unfold laws_eqImage at h
  refine CallOK.of_bodyK (fn := Try.f52) (m := false) [.agg [.t (.sl 1 (p0.fB.map (eInt .u8)))], .agg [.t (.sl 1 (p1.fB.map (eInt .u8)))]] (by kernel_rfl) rfl (by kernel_rfl) (by kernel_rfl) (by kernel_rfl) (by kernel_rfl) (by kernel_rfl) ?_
  refine Wp.seq ?_
  refine Wp.regionS (pOf []) (rhoOf []) (by kernel_rfl) ?_
  refine Runs.all (by kernel_rfl) ?_
  refine thenN ?_
  refine Wp.le (Le.of (s := ⟨[(2, .obj 2 0), (3, .obj 3 0), (4, .t (.bool false))], [(2, [.t (.sl 1 (p0.fB.map (eInt .u8)))]), (3, [.t (.sl 1 (p1.fB.map (eInt .u8)))])], []⟩) (mo := []) (mr := []) (by kernel_rfl) (by kernel_rfl) (by kernel_rfl) (by kernel_rfl)) ?_
  refine Wp.seq ?_
  refine Wp.seq ?_
  refine Wp.regionS (pOf []) (rhoOf []) (by kernel_rfl) ?_
  refine Runs.batch 4 (by kernel_rfl) ?_
  obtain ⟨r1, e_r1, h⟩ := bind_some h
  refine Runs.callK false 9 16 [] [.t (.sl 1 (p0.fB.map (eInt .u8))), .t (.sl 1 (p1.fB.map (eInt .u8)))] [.one (.t (.sl 1 (p0.fB.map (eInt .u8)))), .one (.t (.sl 1 (p1.fB.map (eInt .u8))))] (.one (.t (.bool r1))) [] rfl rfl (by kernel_rfl) (by kernel_rfl) (by kernel_rfl) (by kernel_rfl) (by kernel_rfl) (laws_eqByteS_ok u p0.fB p1.fB r1 e_r1) (by kernel_rfl) ?_
  refine Runs.all (by kernel_rfl) ?_
  refine thenN ?_
  refine Wp.le (Le.of (s := ⟨[(4, .t (.bool false)), (10, .t (.bool (!r1)))], [], []⟩) (mo := []) (mr := []) (by kernel_rfl) (by kernel_rfl) (by kernel_rfl) (by kernel_rfl)) ?_
  refine Wp.cond2 (b := !r1) (by kernel_rfl) (fun hc => ?_) (fun hc => ?_)
  · have h := cond_t h hc
    refine Wp.seq ?_
    refine Wp.regionS (pOf []) (rhoOf []) (by kernel_rfl) ?_
    refine Runs.all (by kernel_rfl) ?_
    refine thenN ?_
    refine Wp.le (Le.of (s := ⟨[(4, .t (.bool false))], [], []⟩) (mo := []) (mr := []) (by kernel_rfl) (by kernel_rfl) (by kernel_rfl) (by kernel_rfl)) ?_
    refine Wp.ret ?_
    refine thenR ?_
    have hr := Option.some.inj h
    subst hr
    exact RetK [.t (.bool false)] (.one (.t (.bool false))) [] (by kernel_rfl) (by kernel_rfl) (.refl _) .nil
  · have h := cond_f h hc
    refine Wp.skip ?_
    refine thenN ?_
    refine Wp.seq ?_
    refine Wp.regionS (pOf []) (rhoOf []) (by kernel_rfl) ?_
    refine Runs.all (by kernel_rfl) ?_
    refine thenN ?_
    refine Wp.le (Le.of (s := ⟨[(4, .t (.bool true))], [], []⟩) (mo := []) (mr := []) (by kernel_rfl) (by kernel_rfl) (by kernel_rfl) (by kernel_rfl)) ?_
    refine Wp.ret ?_
    have hr := Option.some.inj h
    subst hr
    exact RetK [.t (.bool true)] (.one (.t (.bool true))) [] (by kernel_rfl) (by kernel_rfl) (.refl _) .nil
theorem laws_eqImageS_ok (u : Nat) (p0 : List Image) (p1 : List Image) (r : Bool) (h : laws_eqImageS u p0 p1 = some r) : CallOK Try.prog 21 [.one (.t (.sl 1 (p0.map Image.enc))), .one (.t (.sl 1 (p1.map Image.enc)))] (.one (.t (.bool r))) [] := by
  unfold laws_eqImageS at h
  refine CallOK.of_bodyK (fn := Try.f21) (m := false) [.t (.sl 1 (p0.map Image.enc)), .t (.sl 1 (p1.map Image.enc))] (by kernel_rfl) rfl (by kernel_rfl) (by kernel_rfl) (by kernel_rfl) (by kernel_rfl) (by kernel_rfl) ?_
  refine Wp.seq ?_
  refine Wp.regionS (pOf []) (rhoOf []) (by kernel_rfl) ?_
  refine Runs.all (by kernel_rfl) ?_
  refine thenN ?_
  refine Wp.le (Le.of (s := ⟨[(0, .t (.sl 1 (p0.map Image.enc))), (1, .t (.sl 1 (p1.map Image.enc))), (4, .t (.bool false))], [], []⟩) (mo := []) (mr := []) (by kernel_rfl) (by kernel_rfl) (by kernel_rfl) (by kernel_rfl)) ?_
  refine Wp.seq ?_
  refine Wp.seq ?_
  refine Wp.regionS (pOf []) (rhoOf []) (by kernel_rfl) ?_
  refine Runs.batch 1 (by kernel_rfl) ?_
  refine Runs.lenT (y := .t (.sl 1 (p0.map Image.enc))) (e := 67) Image.enc p0 1 rfl rfl rfl (by kernel_rfl) (by kernel_rfl) (by kernel_rfl) (by kernel_rfl) (by kernel_rfl) ?_
  refine Runs.batch 1 (by kernel_rfl) ?_
  refine Runs.lenT (y := .t (.sl 1 (p1.map Image.enc))) (e := 67) Image.enc p1 1 rfl rfl rfl (by kernel_rfl) (by kernel_rfl) (by kernel_rfl) (by kernel_rfl) (by kernel_rfl) ?_
  refine Runs.all (by kernel_rfl) ?_
  refine thenN ?_
  refine Wp.le (Le.of (s := ⟨[(0, .t (.sl 1 (p0.map Image.enc))), (1, .t (.sl 1 (p1.map Image.enc))), (4, .t (.bool false)), (10, .t (.bool (((p0.length : Int)) != ((p1.length : Int)))))], [], []⟩) (mo := []) (mr := []) (by kernel_rfl) (by kernel_rfl) (by kernel_rfl) (by kernel_rfl)) ?_
  refine Wp.cond2 (b := ((p0.length : Int)) != ((p1.length : Int))) (by kernel_rfl) (fun hc => ?_) (fun hc => ?_)
  · have h := cond_t h hc
    refine Wp.seq ?_
    refine Wp.regionS (pOf []) (rhoOf []) (by kernel_rfl) ?_
    refine Runs.all (by kernel_rfl) ?_
    refine thenN ?_
    refine Wp.le (Le.of (s := ⟨[(0, .t (.sl 1 (p0.map Image.enc))), (1, .t (.sl 1 (p1.map Image.enc))), (4, .t (.bool false))], [], []⟩) (mo := []) (mr := []) (by kernel_rfl) (by kernel_rfl) (by kernel_rfl) (by kernel_rfl)) ?_
    refine Wp.ret ?_
    refine thenR ?_
    have hr := Option.some.inj h
    subst hr
    exact RetK [.t (.bool false)] (.one (.t (.bool false))) [] (by kernel_rfl) (by kernel_rfl) (.refl _) .nil
  · have h := cond_f h hc
    refine Wp.skip ?_
    refine thenN ?_
    refine Wp.seqJ (α := Unit) (fun a => ⟨[(4, .t (.bool false))], [], []⟩) (fun a => laws_eqImageS_j1 u = some r) ?_ ?_
    · rintro ⟨⟩ h
      change laws_eqImageS_j1 u = some r at h
      unfold laws_eqImageS_j1 at h
      refine Wp.seq ?_
      refine Wp.regionS (pOf []) (rhoOf []) (by kernel_rfl) ?_
      refine Runs.all (by kernel_rfl) ?_
      refine thenN ?_
      refine Wp.le (Le.of (s := ⟨[(4, .t (.bool true))], [], []⟩) (mo := []) (mr := []) (by kernel_rfl) (by kernel_rfl) (by kernel_rfl) (by kernel_rfl)) ?_
      refine Wp.ret ?_
      have hr := Option.some.inj h
      subst hr
      exact RetK [.t (.bool true)] (.one (.t (.bool true))) [] (by kernel_rfl) (by kernel_rfl) (.refl _) .nil
    · refine Wp.seq ?_
      refine Wp.regionS (pOf []) (rhoOf []) (by kernel_rfl) ?_
      refine Runs.all (by kernel_rfl) ?_
      refine thenN ?_
      refine Wp.le (Le.of (s := ⟨[(0, .t (.sl 1 (p0.map Image.enc))), (1, .t (.sl 1 (p1.map Image.enc))), (4, .t (.bool false)), (5, .t (.int .i64 0))], [], []⟩) (mo := []) (mr := []) (by kernel_rfl) (by kernel_rfl) (by kernel_rfl) (by kernel_rfl)) ?_
      refine Wp.block ?_
      refine Wp.loopF (α := (List Image) × (List Image) × Int) (fun a => ⟨[(0, .t (.sl 1 (a.1.map Image.enc))), (1, .t (.sl 1 (a.2.1.map Image.enc))), (4, .t (.bool false)), (5, .t (.int .i64 a.2.2))], [], []⟩) (fun k_laws_eqImageS_l2 a => laws_eqImageS_l2 u k_laws_eqImageS_l2 a.1 a.2.1 a.2.2 = some r) ?_ ?_ u (p0, p1, 0) h (Le.of (mo := []) (mr := []) (by kernel_rfl) (by kernel_rfl) (by kernel_rfl) (by kernel_rfl))
      · intro a h; unfold laws_eqImageS_l2 at h; cases h
      · rintro k_laws_eqImageS_l2 ⟨p0, p1, x2⟩ h
        change laws_eqImageS_l2 u (k_laws_eqImageS_l2 + 1) p0 p1 x2 = some r at h
        rw [laws_eqImageS_l2] at h
        refine Wp.seq ?_
        refine Wp.seq ?_
        refine Wp.regionS (pOf []) (rhoOf []) (by kernel_rfl) ?_
        refine Runs.batch 2 (by kernel_rfl) ?_
        refine Runs.lenT (y := .t (.sl 1 (p0.map Image.enc))) (e := 67) Image.enc p0 1 rfl rfl rfl (by kernel_rfl) (by kernel_rfl) (by kernel_rfl) (by kernel_rfl) (by kernel_rfl) ?_
        refine Runs.all (by kernel_rfl) ?_
        refine thenN ?_
        refine Wp.le (Le.of (s := ⟨[(0, .t (.sl 1 (p0.map Image.enc))), (1, .t (.sl 1 (p1.map Image.enc))), (4, .t (.bool false)), (5, .t (.int .i64 x2)), (11, .t (.int .i64 x2)), (12, .t (.sl 1 (p0.map Image.enc))), (13, .t (.int .i64 ((p0.length : Int)))), (14, .t (.bool (decide (x2 < ((p0.length : Int))))))], [], []⟩) (mo := []) (mr := []) (by kernel_rfl) (by kernel_rfl) (by kernel_rfl) (by kernel_rfl)) ?_
        refine Wp.cond2 (b := decide (x2 < ((p0.length : Int)))) (by kernel_rfl) (fun hc => ?_) (fun hc => ?_)
        · have h := cond_t h hc
          refine Wp.skip ?_
          refine thenN ?_
          refine Wp.seq ?_
          refine Wp.block ?_
          refine Wp.seq ?_
          refine Wp.regionA (pOf []) (rhoOf [(0, .frz), (1, .frz), (5, .frz), (17, .frz), (18, .frz), (19, .frz), (20, .frz), (21, .frz), (22, .frz), (23, .frz), (24, .frz), (25, .frz)]) (by kernel_rfl) (by kernel_rfl) ?_
          refine Runs.batch 2 (by kernel_rfl) ?_
          obtain ⟨y4, e_y4, h⟩ := bind_some h
          refine Runs.idxT (e := 67) (kk := .i64) (sz := 1) Image.enc p0 x2 rfl (by kernel_rfl) (by kernel_rfl) (by kernel_rfl) (by kernel_rfl) (by kernel_rfl) (by kernel_rfl) e_y4 ?_
          refine Runs.batch 3 (by kernel_rfl) ?_
          obtain ⟨y5, e_y5, h⟩ := bind_some h
          refine Runs.idxT (e := 67) (kk := .i64) (sz := 1) Image.enc p1 x2 rfl (by kernel_rfl) (by kernel_rfl) (by kernel_rfl) (by kernel_rfl) (by kernel_rfl) (by kernel_rfl) e_y5 ?_
          refine Runs.batch 1 (by kernel_rfl) ?_
          obtain ⟨r6, e_r6, h⟩ := bind_some h
          refine Runs.callK false 25 52 [] [.agg [.t (.sl 1 (y4.fB.map (eInt .u8)))], .agg [.t (.sl 1 (y5.fB.map (eInt .u8)))]] [.agg [.t (.sl 1 (y4.fB.map (eInt .u8)))], .agg [.t (.sl 1 (y5.fB.map (eInt .u8)))]] (.one (.t (.bool r6))) [] rfl rfl (by kernel_rfl) (by kernel_rfl) (by kernel_rfl) (by kernel_rfl) (by kernel_rfl) (laws_eqImage_ok u y4 y5 r6 e_r6) (by kernel_rfl) ?_
          refine Runs.all (by kernel_rfl) ?_
          refine thenN ?_
          refine Wp.le (Le.of (s := ⟨[(0, .t (.sl 1 (p0.map Image.enc))), (1, .t (.sl 1 (p1.map Image.enc))), (4, .t (.bool false)), (5, .t (.int .i64 x2)), (11, .t (.int .i64 x2)), (12, .t (.sl 1 (p0.map Image.enc))), (13, .t (.int .i64 ((p0.length : Int)))), (14, .t (.bool (decide (x2 < ((p0.length : Int)))))), (17, .t (.sl 1 (p0.map Image.enc))), (18, .t (.int .i64 x2)), (19, .fadr [.sl 1 (y4.fB.map (eInt .u8))]), (20, .agg [.t (.sl 1 (y4.fB.map (eInt .u8)))]), (21, .t (.sl 1 (p1.map Image.enc))), (22, .t (.int .i64 x2)), (23, .fadr [.sl 1 (y5.fB.map (eInt .u8))]), (24, .agg [.t (.sl 1 (y5.fB.map (eInt .u8)))]), (25, .t (.bool r6)), (26, .t (.bool (!r6)))], [], []⟩) (mo := []) (mr := []) (by kernel_rfl) (by kernel_rfl) (by kernel_rfl) (by kernel_rfl)) ?_
          refine Wp.cond2 (b := !r6) (by kernel_rfl) (fun hc => ?_) (fun hc => ?_)
          · have h := cond_t h hc
            refine Wp.seq ?_
            refine Wp.regionS (pOf []) (rhoOf []) (by kernel_rfl) ?_
            refine Runs.all (by kernel_rfl) ?_
            refine thenN ?_
            refine Wp.le (Le.of (s := ⟨[(0, .t (.sl 1 (p0.map Image.enc))), (1, .t (.sl 1 (p1.map Image.enc))), (4, .t (.bool false)), (5, .t (.int .i64 x2)), (11, .t (.int .i64 x2)), (12, .t (.sl 1 (p0.map Image.enc))), (13, .t (.int .i64 ((p0.length : Int)))), (14, .t (.bool (decide (x2 < ((p0.length : Int)))))), (17, .t (.sl 1 (p0.map Image.enc))), (18, .t (.int .i64 x2)), (19, .fadr [.sl 1 (y4.fB.map (eInt .u8))]), (20, .agg [.t (.sl 1 (y4.fB.map (eInt .u8)))]), (21, .t (.sl 1 (p1.map Image.enc))), (22, .t (.int .i64 x2)), (23, .fadr [.sl 1 (y5.fB.map (eInt .u8))]), (24, .agg [.t (.sl 1 (y5.fB.map (eInt .u8)))]), (25, .t (.bool r6)), (26, .t (.bool (!r6)))], [], []⟩) (mo := []) (mr := []) (by kernel_rfl) (by kernel_rfl) (by kernel_rfl) (by kernel_rfl)) ?_
            refine Wp.ret ?_
            refine blkR ?_
            refine thenR ?_
            refine thenR ?_
            refine blkR ?_
            refine thenR ?_
            have hr := Option.some.inj h
            subst hr
            exact RetK [.t (.bool false)] (.one (.t (.bool false))) [] (by kernel_rfl) (by kernel_rfl) (.refl _) .nil
          · have h := cond_f h hc
            refine Wp.skip ?_
            refine blkN ?_
            refine thenN ?_
            refine Wp.regionS (pOf []) (rhoOf []) (by kernel_rfl) ?_
            refine Runs.all (by kernel_rfl) ?_
            refine thenN ?_
            exact ⟨(p0, p1, bAdd .i64 x2 1), h, Le.of (mo := []) (mr := []) (by kernel_rfl) (by kernel_rfl) (by kernel_rfl) (by kernel_rfl)⟩
        · have h := cond_f h hc
          refine Wp.exit ?_
          refine thenE ?_
          refine thenE ?_
          refine blkE ?_
          refine thenN ?_
          exact ⟨(), h, Le.of (mo := []) (mr := []) (by kernel_rfl) (by kernel_rfl) (by kernel_rfl) (by kernel_rfl)⟩
theorem laws_eqSum_ok (u : Nat) (p0 : Sum) (p1 : Sum) (r : Bool) (h : laws_eqSum u p0 p1 = some r) : CallOK Try.prog 199 [.agg [.t (.int .i64 p0.fW), .t (.int .i64 p0.fS)], .agg [.t (.int .i64 p1.fW), .t (.int .i64 p1.fS)]] (.one (.t (.bool r))) [] := by
  unfold laws_eqSum at h
  refine CallOK.of_bodyK (fn := Try.f199) (m := false) [.agg [.t (.int .i64 p0.fW), .t (.int .i64 p0.fS)], .agg [.t (.int .i64 p1.fW), .t (.int .i64 p1.fS)]] (by kernel_rfl) rfl (by kernel_rfl) (by kernel_rfl) (by kernel_rfl) (by kernel_rfl) (by kernel_rfl) ?_
  refine Wp.seq ?_
  refine Wp.regionS (pOf []) (rhoOf []) (by kernel_rfl) ?_
  refine Runs.all (by kernel_rfl) ?_
  refine thenN ?_
  refine Wp.le (Le.of (s := ⟨[(2, .obj 2 0), (3, .obj 3 0), (4, .t (.bool false))], [(2, [.t (.int .i64 p0.fW), .t (.int .i64 p0.fS)]), (3, [.t (.int .i64 p1.fW), .t (.int .i64 p1.fS)])], []⟩) (mo := []) (mr := []) (by kernel_rfl) (by kernel_rfl) (by kernel_rfl) (by kernel_rfl)) ?_
  refine Wp.seq ?_
  refine Wp.seq ?_
  refine Wp.regionS (pOf []) (rhoOf []) (by kernel_rfl) ?_
  refine Runs.all (by kernel_rfl) ?_
  refine thenN ?_
  refine Wp.le (Le.of (s := ⟨[(2, .obj 2 0), (3, .obj 3 0), (4, .t (.bool false)), (9, .t (.bool (p0.fW != p1.fW)))], [(2, [.t (.int .i64 p0.fW), .t (.int .i64 p0.fS)]), (3, [.t (.int .i64 p1.fW), .t (.int .i64 p1.fS)])], []⟩) (mo := []) (mr := []) (by kernel_rfl) (by kernel_rfl) (by kernel_rfl) (by kernel_rfl)) ?_
  refine Wp.cond2 (b := p0.fW != p1.fW) (by kernel_rfl) (fun hc => ?_) (fun hc => ?_)
  · have h := cond_t h hc
    refine Wp.seq ?_
    refine Wp.regionS (pOf []) (rhoOf []) (by kernel_rfl) ?_
    refine Runs.all (by kernel_rfl) ?_
    refine thenN ?_
    refine Wp.le (Le.of (s := ⟨[(2, .obj 2 0), (3, .obj 3 0), (4, .t (.bool false))], [(2, [.t (.int .i64 p0.fW), .t (.int .i64 p0.fS)]), (3, [.t (.int .i64 p1.fW), .t (.int .i64 p1.fS)])], []⟩) (mo := []) (mr := []) (by kernel_rfl) (by kernel_rfl) (by kernel_rfl) (by kernel_rfl)) ?_
    refine Wp.ret ?_
    refine thenR ?_
    have hr := Option.some.inj h
    subst hr
    exact RetK [.t (.bool false)] (.one (.t (.bool false))) [] (by kernel_rfl) (by kernel_rfl) (.refl _) .nil
  · have h := cond_f h hc
    refine Wp.skip ?_
    refine thenN ?_
    refine Wp.seq ?_
    refine Wp.seq ?_
    refine Wp.regionS (pOf []) (rhoOf []) (by kernel_rfl) ?_
    refine Runs.all (by kernel_rfl) ?_
    refine thenN ?_
    refine Wp.le (Le.of (s := ⟨[(4, .t (.bool false)), (14, .t (.bool (p0.fS != p1.fS)))], [], []⟩) (mo := []) (mr := []) (by kernel_rfl) (by kernel_rfl) (by kernel_rfl) (by kernel_rfl)) ?_
    refine Wp.cond2 (b := p0.fS != p1.fS) (by kernel_rfl) (fun hc => ?_) (fun hc => ?_)
    · have h := cond_t h hc
      refine Wp.seq ?_
      refine Wp.regionS (pOf []) (rhoOf []) (by kernel_rfl) ?_
      refine Runs.all (by kernel_rfl) ?_
      refine thenN ?_
      refine Wp.le (Le.of (s := ⟨[(4, .t (.bool false))], [], []⟩) (mo := []) (mr := []) (by kernel_rfl) (by kernel_rfl) (by kernel_rfl) (by kernel_rfl)) ?_
      refine Wp.ret ?_
      refine thenR ?_
      have hr := Option.some.inj h
      subst hr
      exact RetK [.t (.bool false)] (.one (.t (.bool false))) [] (by kernel_rfl) (by kernel_rfl) (.refl _) .nil
    · have h := cond_f h hc
      refine Wp.skip ?_
      refine thenN ?_
      refine Wp.seq ?_
      refine Wp.regionS (pOf []) (rhoOf []) (by kernel_rfl) ?_
      refine Runs.all (by kernel_rfl) ?_
      refine thenN ?_
      refine Wp.le (Le.of (s := ⟨[(4, .t (.bool true))], [], []⟩) (mo := []) (mr := []) (by kernel_rfl) (by kernel_rfl) (by kernel_rfl) (by kernel_rfl)) ?_
      refine Wp.ret ?_
      have hr := Option.some.inj h
      subst hr
      exact RetK [.t (.bool true)] (.one (.t (.bool true))) [] (by kernel_rfl) (by kernel_rfl) (.refl _) .nil
theorem laws_eqSumS_ok (u : Nat) (p0 : List Sum) (p1 : List Sum) (r : Bool) (h : laws_eqSumS u p0 p1 = some r) : CallOK Try.prog 186 [.one (.t (.sl 2 (p0.map Sum.enc))), .one (.t (.sl 2 (p1.map Sum.enc)))] (.one (.t (.bool r))) [] := by
  unfold laws_eqSumS at h
  refine CallOK.of_bodyK (fn := Try.f186) (m := false) [.t (.sl 2 (p0.map Sum.enc)), .t (.sl 2 (p1.map Sum.enc))] (by kernel_rfl) rfl (by kernel_rfl) (by kernel_rfl) (by kernel_rfl) (by kernel_rfl) (by kernel_rfl) ?_
  refine Wp.seq ?_
  refine Wp.regionS (pOf []) (rhoOf []) (by kernel_rfl) ?_
  refine Runs.all (by kernel_rfl) ?_
  refine thenN ?_
  refine Wp.le (Le.of (s := ⟨[(0, .t (.sl 2 (p0.map Sum.enc))), (1, .t (.sl 2 (p1.map Sum.enc))), (4, .t (.bool false))], [], []⟩) (mo := []) (mr := []) (by kernel_rfl) (by kernel_rfl) (by kernel_rfl) (by kernel_rfl)) ?_
  refine Wp.seq ?_
  refine Wp.seq ?_
  refine Wp.regionS (pOf []) (rhoOf []) (by kernel_rfl) ?_
  refine Runs.batch 1 (by kernel_rfl) ?_
  refine Runs.lenT (y := .t (.sl 2 (p0.map Sum.enc))) (e := 166) Sum.enc p0 2 rfl rfl rfl (by kernel_rfl) (by kernel_rfl) (by kernel_rfl) (by kernel_rfl) (by kernel_rfl) ?_
  refine Runs.batch 1 (by kernel_rfl) ?_
  refine Runs.lenT (y := .t (.sl 2 (p1.map Sum.enc))) (e := 166) Sum.enc p1 2 rfl rfl rfl (by kernel_rfl) (by kernel_rfl) (by kernel_rfl) (by kernel_rfl) (by kernel_rfl) ?_
  refine Runs.all (by kernel_rfl) ?_
  refine thenN ?_
  refine Wp.le (Le.of (s := ⟨[(0, .t (.sl 2 (p0.map Sum.enc))), (1, .t (.sl 2 (p1.map Sum.enc))), (4, .t (.bool false)), (10, .t (.bool (((p0.length : Int)) != ((p1.length : Int)))))], [], []⟩) (mo := []) (mr := []) (by kernel_rfl) (by kernel_rfl) (by kernel_rfl) (by kernel_rfl)) ?_
  refine Wp.cond2 (b := ((p0.length : Int)) != ((p1.length : Int))) (by kernel_rfl) (fun hc => ?_) (fun hc => ?_)
  · have h := cond_t h hc
    refine Wp.seq ?_
    refine Wp.regionS (pOf []) (rhoOf []) (by kernel_rfl) ?_
    refine Runs.all (by kernel_rfl) ?_
    refine thenN ?_
    refine Wp.le (Le.of (s := ⟨[(0, .t (.sl 2 (p0.map Sum.enc))), (1, .t (.sl 2 (p1.map Sum.enc))), (4, .t (.bool false))], [], []⟩) (mo := []) (mr := []) (by kernel_rfl) (by kernel_rfl) (by kernel_rfl) (by kernel_rfl)) ?_
    refine Wp.ret ?_
    refine thenR ?_
    have hr := Option.some.inj h
    subst hr
    exact RetK [.t (.bool false)] (.one (.t (.bool false))) [] (by kernel_rfl) (by kernel_rfl) (.refl _) .nil
  · have h := cond_f h hc
    refine Wp.skip ?_
    refine thenN ?_
    refine Wp.seqJ (α := Unit) (fun a => ⟨[(4, .t (.bool false))], [], []⟩) (fun a => laws_eqSumS_j1 u = some r) ?_ ?_
    · rintro ⟨⟩ h
      change laws_eqSumS_j1 u = some r at h
      unfold laws_eqSumS_j1 at h
      refine Wp.seq ?_
      refine Wp.regionS (pOf []) (rhoOf []) (by kernel_rfl) ?_
      refine Runs.all (by kernel_rfl) ?_
      refine thenN ?_
      refine Wp.le (Le.of (s := ⟨[(4, .t (.bool true))], [], []⟩) (mo := []) (mr := []) (by kernel_rfl) (by kernel_rfl) (by kernel_rfl) (by kernel_rfl)) ?_
      refine Wp.ret ?_
      have hr := Option.some.inj h
      subst hr
      exact RetK [.t (.bool true)] (.one (.t (.bool true))) [] (by kernel_rfl) (by kernel_rfl) (.refl _) .nil
    · refine Wp.seq ?_
      refine Wp.regionS (pOf []) (rhoOf []) (by kernel_rfl) ?_
      refine Runs.all (by kernel_rfl) ?_
      refine thenN ?_
      refine Wp.le (Le.of (s := ⟨[(0, .t (.sl 2 (p0.map Sum.enc))), (1, .t (.sl 2 (p1.map Sum.enc))), (4, .t (.bool false)), (5, .t (.int .i64 0))], [], []⟩) (mo := []) (mr := []) (by kernel_rfl) (by kernel_rfl) (by kernel_rfl) (by kernel_rfl)) ?_
      refine Wp.block ?_
      refine Wp.loopF (α := (List Sum) × (List Sum) × Int) (fun a => ⟨[(0, .t (.sl 2 (a.1.map Sum.enc))), (1, .t (.sl 2 (a.2.1.map Sum.enc))), (4, .t (.bool false)), (5, .t (.int .i64 a.2.2))], [], []⟩) (fun k_laws_eqSumS_l2 a => laws_eqSumS_l2 u k_laws_eqSumS_l2 a.1 a.2.1 a.2.2 = some r) ?_ ?_ u (p0, p1, 0) h (Le.of (mo := []) (mr := []) (by kernel_rfl) (by kernel_rfl) (by kernel_rfl) (by kernel_rfl))
      · intro a h; unfold laws_eqSumS_l2 at h; cases h
      · rintro k_laws_eqSumS_l2 ⟨p0, p1, x2⟩ h
        change laws_eqSumS_l2 u (k_laws_eqSumS_l2 + 1) p0 p1 x2 = some r at h
        rw [laws_eqSumS_l2] at h
        refine Wp.seq ?_
        refine Wp.seq ?_
        refine Wp.regionS (pOf []) (rhoOf []) (by kernel_rfl) ?_
        refine Runs.batch 2 (by kernel_rfl) ?_
        refine Runs.lenT (y := .t (.sl 2 (p0.map Sum.enc))) (e := 166) Sum.enc p0 2 rfl rfl rfl (by kernel_rfl) (by kernel_rfl) (by kernel_rfl) (by kernel_rfl) (by kernel_rfl) ?_
        refine Runs.all (by kernel_rfl) ?_
        refine thenN ?_
        refine Wp.le (Le.of (s := ⟨[(0, .t (.sl 2 (p0.map Sum.enc))), (1, .t (.sl 2 (p1.map Sum.enc))), (4, .t (.bool false)), (5, .t (.int .i64 x2)), (11, .t (.int .i64 x2)), (12, .t (.sl 2 (p0.map Sum.enc))), (13, .t (.int .i64 ((p0.length : Int)))), (14, .t (.bool (decide (x2 < ((p0.length : Int))))))], [], []⟩) (mo := []) (mr := []) (by kernel_rfl) (by kernel_rfl) (by kernel_rfl) (by kernel_rfl)) ?_
        refine Wp.cond2 (b := decide (x2 < ((p0.length : Int)))) (by kernel_rfl) (fun hc => ?_) (fun hc => ?_)
        · have h := cond_t h hc
          refine Wp.skip ?_
          refine thenN ?_
          refine Wp.seq ?_
          refine Wp.block ?_
          refine Wp.seq ?_
          refine Wp.regionA (pOf []) (rhoOf [(0, .frz), (1, .frz), (5, .frz), (17, .frz), (18, .frz), (19, .frz), (20, .frz), (21, .frz), (22, .frz), (23, .frz), (24, .frz), (25, .frz)]) (by kernel_rfl) (by kernel_rfl) ?_
          refine Runs.batch 2 (by kernel_rfl) ?_
          obtain ⟨y4, e_y4, h⟩ := bind_some h
          refine Runs.idxT (e := 166) (kk := .i64) (sz := 2) Sum.enc p0 x2 rfl (by kernel_rfl) (by kernel_rfl) (by kernel_rfl) (by kernel_rfl) (by kernel_rfl) (by kernel_rfl) e_y4 ?_
          refine Runs.batch 3 (by kernel_rfl) ?_
          obtain ⟨y5, e_y5, h⟩ := bind_some h
          refine Runs.idxT (e := 166) (kk := .i64) (sz := 2) Sum.enc p1 x2 rfl (by kernel_rfl) (by kernel_rfl) (by kernel_rfl) (by kernel_rfl) (by kernel_rfl) (by kernel_rfl) e_y5 ?_
          refine Runs.batch 1 (by kernel_rfl) ?_
          obtain ⟨r6, e_r6, h⟩ := bind_some h
          refine Runs.callK false 25 199 [] [.agg [.t (.int .i64 y4.fW), .t (.int .i64 y4.fS)], .agg [.t (.int .i64 y5.fW), .t (.int .i64 y5.fS)]] [.agg [.t (.int .i64 y4.fW), .t (.int .i64 y4.fS)], .agg [.t (.int .i64 y5.fW), .t (.int .i64 y5.fS)]] (.one (.t (.bool r6))) [] rfl rfl (by kernel_rfl) (by kernel_rfl) (by kernel_rfl) (by kernel_rfl) (by kernel_rfl) (laws_eqSum_ok u y4 y5 r6 e_r6) (by kernel_rfl) ?_
          refine Runs.all (by kernel_rfl) ?_
          refine thenN ?_
          refine Wp.le (Le.of (s := ⟨[(0, .t (.sl 2 (p0.map Sum.enc))), (1, .t (.sl 2 (p1.map Sum.enc))), (4, .t (.bool false)), (5, .t (.int .i64 x2)), (11, .t (.int .i64 x2)), (12, .t (.sl 2 (p0.map Sum.enc))), (13, .t (.int .i64 ((p0.length : Int)))), (14, .t (.bool (decide (x2 < ((p0.length : Int)))))), (17, .t (.sl 2 (p0.map Sum.enc))), (18, .t (.int .i64 x2)), (19, .fadr [.int .i64 y4.fW, .int .i64 y4.fS]), (20, .agg [.t (.int .i64 y4.fW), .t (.int .i64 y4.fS)]), (21, .t (.sl 2 (p1.map Sum.enc))), (22, .t (.int .i64 x2)), (23, .fadr [.int .i64 y5.fW, .int .i64 y5.fS]), (24, .agg [.t (.int .i64 y5.fW), .t (.int .i64 y5.fS)]), (25, .t (.bool r6)), (26, .t (.bool (!r6)))], [], []⟩) (mo := []) (mr := []) (by kernel_rfl) (by kernel_rfl) (by kernel_rfl) (by kernel_rfl)) ?_
          refine Wp.cond2 (b := !r6) (by kernel_rfl) (fun hc => ?_) (fun hc => ?_)
          · have h := cond_t h hc
            refine Wp.seq ?_
            refine Wp.regionS (pOf []) (rhoOf []) (by kernel_rfl) ?_
            refine Runs.all (by kernel_rfl) ?_
            refine thenN ?_
            refine Wp.le (Le.of (s := ⟨[(0, .t (.sl 2 (p0.map Sum.enc))), (1, .t (.sl 2 (p1.map Sum.enc))), (4, .t (.bool false)), (5, .t (.int .i64 x2)), (11, .t (.int .i64 x2)), (12, .t (.sl 2 (p0.map Sum.enc))), (13, .t (.int .i64 ((p0.length : Int)))), (14, .t (.bool (decide (x2 < ((p0.length : Int)))))), (17, .t (.sl 2 (p0.map Sum.enc))), (18, .t (.int .i64 x2)), (19, .fadr [.int .i64 y4.fW, .int .i64 y4.fS]), (20, .agg [.t (.int .i64 y4.fW), .t (.int .i64 y4.fS)]), (21, .t (.sl 2 (p1.map Sum.enc))), (22, .t (.int .i64 x2)), (23, .fadr [.int .i64 y5.fW, .int .i64 y5.fS]), (24, .agg [.t (.int .i64 y5.fW), .t (.int .i64 y5.fS)]), (25, .t (.bool r6)), (26, .t (.bool (!r6)))], [], []⟩) (mo := []) (mr := []) (by kernel_rfl) (by kernel_rfl) (by kernel_rfl) (by kernel_rfl)) ?_
            refine Wp.ret ?_
            refine blkR ?_
            refine thenR ?_
            refine thenR ?_
            refine blkR ?_
            refine thenR ?_
            have hr := Option.some.inj h
            subst hr
            exact RetK [.t (.bool false)] (.one (.t (.bool false))) [] (by kernel_rfl) (by kernel_rfl) (.refl _) .nil
          · have h := cond_f h hc
            refine Wp.skip ?_
            refine blkN ?_
            refine thenN ?_
            refine Wp.regionS (pOf []) (rhoOf []) (by kernel_rfl) ?_
            refine Runs.all (by kernel_rfl) ?_
            refine thenN ?_
            exact ⟨(p0, p1, bAdd .i64 x2 1), h, Le.of (mo := []) (mr := []) (by kernel_rfl) (by kernel_rfl) (by kernel_rfl) (by kernel_rfl)⟩
        · have h := cond_f h hc
          refine Wp.exit ?_
          refine thenE ?_
          refine thenE ?_
          refine blkE ?_
          refine thenN ?_
          exact ⟨(), h, Le.of (mo := []) (mr := []) (by kernel_rfl) (by kernel_rfl) (by kernel_rfl) (by kernel_rfl)⟩
theorem laws_eqManifest_ok (u : Nat) (p0 : Manifest) (p1 : Manifest) (r : Bool) (h : laws_eqManifest u p0 p1 = some r) : CallOK Try.prog 158 [.agg [.t (.int .i64 p0.fGen), .t (.int .i64 p0.fSize), .t (.int .i64 p0.fLen), .t (.sl 2 (p0.fSums.map Sum.enc))], .agg [.t (.int .i64 p1.fGen), .t (.int .i64 p1.fSize), .t (.int .i64 p1.fLen), .t (.sl 2 (p1.fSums.map Sum.enc))]] (.one (.t (.bool r))) [] := by
  unfold laws_eqManifest at h
  refine CallOK.of_bodyK (fn := Try.f158) (m := false) [.agg [.t (.int .i64 p0.fGen), .t (.int .i64 p0.fSize), .t (.int .i64 p0.fLen), .t (.sl 2 (p0.fSums.map Sum.enc))], .agg [.t (.int .i64 p1.fGen), .t (.int .i64 p1.fSize), .t (.int .i64 p1.fLen), .t (.sl 2 (p1.fSums.map Sum.enc))]] (by kernel_rfl) rfl (by kernel_rfl) (by kernel_rfl) (by kernel_rfl) (by kernel_rfl) (by kernel_rfl) ?_
  refine Wp.seq ?_
  refine Wp.regionS (pOf []) (rhoOf []) (by kernel_rfl) ?_
  refine Runs.all (by kernel_rfl) ?_
  refine thenN ?_
  refine Wp.le (Le.of (s := ⟨[(2, .obj 2 0), (3, .obj 3 0), (4, .t (.bool false))], [(2, [.t (.int .i64 p0.fGen), .t (.int .i64 p0.fSize), .t (.int .i64 p0.fLen), .t (.sl 2 (p0.fSums.map Sum.enc))]), (3, [.t (.int .i64 p1.fGen), .t (.int .i64 p1.fSize), .t (.int .i64 p1.fLen), .t (.sl 2 (p1.fSums.map Sum.enc))])], []⟩) (mo := []) (mr := []) (by kernel_rfl) (by kernel_rfl) (by kernel_rfl) (by kernel_rfl)) ?_
  refine Wp.seq ?_
  refine Wp.seq ?_
  refine Wp.regionS (pOf []) (rhoOf []) (by kernel_rfl) ?_
  refine Runs.all (by kernel_rfl) ?_
  refine thenN ?_
  refine Wp.le (Le.of (s := ⟨[(2, .obj 2 0), (3, .obj 3 0), (4, .t (.bool false)), (9, .t (.bool (p0.fGen != p1.fGen)))], [(2, [.t (.int .i64 p0.fGen), .t (.int .i64 p0.fSize), .t (.int .i64 p0.fLen), .t (.sl 2 (p0.fSums.map Sum.enc))]), (3, [.t (.int .i64 p1.fGen), .t (.int .i64 p1.fSize), .t (.int .i64 p1.fLen), .t (.sl 2 (p1.fSums.map Sum.enc))])], []⟩) (mo := []) (mr := []) (by kernel_rfl) (by kernel_rfl) (by kernel_rfl) (by kernel_rfl)) ?_
  refine Wp.cond2 (b := p0.fGen != p1.fGen) (by kernel_rfl) (fun hc => ?_) (fun hc => ?_)
  · have h := cond_t h hc
    refine Wp.seq ?_
    refine Wp.regionS (pOf []) (rhoOf []) (by kernel_rfl) ?_
    refine Runs.all (by kernel_rfl) ?_
    refine thenN ?_
    refine Wp.le (Le.of (s := ⟨[(2, .obj 2 0), (3, .obj 3 0), (4, .t (.bool false))], [(2, [.t (.int .i64 p0.fGen), .t (.int .i64 p0.fSize), .t (.int .i64 p0.fLen), .t (.sl 2 (p0.fSums.map Sum.enc))]), (3, [.t (.int .i64 p1.fGen), .t (.int .i64 p1.fSize), .t (.int .i64 p1.fLen), .t (.sl 2 (p1.fSums.map Sum.enc))])], []⟩) (mo := []) (mr := []) (by kernel_rfl) (by kernel_rfl) (by kernel_rfl) (by kernel_rfl)) ?_
    refine Wp.ret ?_
    refine thenR ?_
    have hr := Option.some.inj h
    subst hr
    exact RetK [.t (.bool false)] (.one (.t (.bool false))) [] (by kernel_rfl) (by kernel_rfl) (.refl _) .nil
  · have h := cond_f h hc
    refine Wp.skip ?_
    refine thenN ?_
    refine Wp.seq ?_
    refine Wp.seq ?_
    refine Wp.regionS (pOf []) (rhoOf []) (by kernel_rfl) ?_
    refine Runs.all (by kernel_rfl) ?_
    refine thenN ?_
    refine Wp.le (Le.of (s := ⟨[(2, .obj 2 0), (3, .obj 3 0), (4, .t (.bool false)), (14, .t (.bool (p0.fSize != p1.fSize)))], [(2, [.t (.int .i64 p0.fGen), .t (.int .i64 p0.fSize), .t (.int .i64 p0.fLen), .t (.sl 2 (p0.fSums.map Sum.enc))]), (3, [.t (.int .i64 p1.fGen), .t (.int .i64 p1.fSize), .t (.int .i64 p1.fLen), .t (.sl 2 (p1.fSums.map Sum.enc))])], []⟩) (mo := []) (mr := []) (by kernel_rfl) (by kernel_rfl) (by kernel_rfl) (by kernel_rfl)) ?_
    refine Wp.cond2 (b := p0.fSize != p1.fSize) (by kernel_rfl) (fun hc => ?_) (fun hc => ?_)
    · have h := cond_t h hc
      refine Wp.seq ?_
      refine Wp.regionS (pOf []) (rhoOf []) (by kernel_rfl) ?_
      refine Runs.all (by kernel_rfl) ?_
      refine thenN ?_
      refine Wp.le (Le.of (s := ⟨[(2, .obj 2 0), (3, .obj 3 0), (4, .t (.bool false))], [(2, [.t (.int .i64 p0.fGen), .t (.int .i64 p0.fSize), .t (.int .i64 p0.fLen), .t (.sl 2 (p0.fSums.map Sum.enc))]), (3, [.t (.int .i64 p1.fGen), .t (.int .i64 p1.fSize), .t (.int .i64 p1.fLen), .t (.sl 2 (p1.fSums.map Sum.enc))])], []⟩) (mo := []) (mr := []) (by kernel_rfl) (by kernel_rfl) (by kernel_rfl) (by kernel_rfl)) ?_
      refine Wp.ret ?_
      refine thenR ?_
      have hr := Option.some.inj h
      subst hr
      exact RetK [.t (.bool false)] (.one (.t (.bool false))) [] (by kernel_rfl) (by kernel_rfl) (.refl _) .nil
    · have h := cond_f h hc
      refine Wp.skip ?_
      refine thenN ?_
      refine Wp.seq ?_
      refine Wp.seq ?_
      refine Wp.regionS (pOf []) (rhoOf []) (by kernel_rfl) ?_
      refine Runs.all (by kernel_rfl) ?_
      refine thenN ?_
      refine Wp.le (Le.of (s := ⟨[(2, .obj 2 0), (3, .obj 3 0), (4, .t (.bool false)), (19, .t (.bool (p0.fLen != p1.fLen)))], [(2, [.t (.int .i64 p0.fGen), .t (.int .i64 p0.fSize), .t (.int .i64 p0.fLen), .t (.sl 2 (p0.fSums.map Sum.enc))]), (3, [.t (.int .i64 p1.fGen), .t (.int .i64 p1.fSize), .t (.int .i64 p1.fLen), .t (.sl 2 (p1.fSums.map Sum.enc))])], []⟩) (mo := []) (mr := []) (by kernel_rfl) (by kernel_rfl) (by kernel_rfl) (by kernel_rfl)) ?_
      refine Wp.cond2 (b := p0.fLen != p1.fLen) (by kernel_rfl) (fun hc => ?_) (fun hc => ?_)
      · have h := cond_t h hc
        refine Wp.seq ?_
        refine Wp.regionS (pOf []) (rhoOf []) (by kernel_rfl) ?_
        refine Runs.all (by kernel_rfl) ?_
        refine thenN ?_
        refine Wp.le (Le.of (s := ⟨[(2, .obj 2 0), (3, .obj 3 0), (4, .t (.bool false))], [(2, [.t (.int .i64 p0.fGen), .t (.int .i64 p0.fSize), .t (.int .i64 p0.fLen), .t (.sl 2 (p0.fSums.map Sum.enc))]), (3, [.t (.int .i64 p1.fGen), .t (.int .i64 p1.fSize), .t (.int .i64 p1.fLen), .t (.sl 2 (p1.fSums.map Sum.enc))])], []⟩) (mo := []) (mr := []) (by kernel_rfl) (by kernel_rfl) (by kernel_rfl) (by kernel_rfl)) ?_
        refine Wp.ret ?_
        refine thenR ?_
        have hr := Option.some.inj h
        subst hr
        exact RetK [.t (.bool false)] (.one (.t (.bool false))) [] (by kernel_rfl) (by kernel_rfl) (.refl _) .nil
      · have h := cond_f h hc
        refine Wp.skip ?_
        refine thenN ?_
        refine Wp.seq ?_
        refine Wp.seq ?_
        refine Wp.regionS (pOf []) (rhoOf []) (by kernel_rfl) ?_
        refine Runs.batch 4 (by kernel_rfl) ?_
        obtain ⟨r1, e_r1, h⟩ := bind_some h
        refine Runs.callK false 24 186 [] [.t (.sl 2 (p0.fSums.map Sum.enc)), .t (.sl 2 (p1.fSums.map Sum.enc))] [.one (.t (.sl 2 (p0.fSums.map Sum.enc))), .one (.t (.sl 2 (p1.fSums.map Sum.enc)))] (.one (.t (.bool r1))) [] rfl rfl (by kernel_rfl) (by kernel_rfl) (by kernel_rfl) (by kernel_rfl) (by kernel_rfl) (laws_eqSumS_ok u p0.fSums p1.fSums r1 e_r1) (by kernel_rfl) ?_
        refine Runs.all (by kernel_rfl) ?_
        refine thenN ?_
        refine Wp.le (Le.of (s := ⟨[(4, .t (.bool false)), (25, .t (.bool (!r1)))], [], []⟩) (mo := []) (mr := []) (by kernel_rfl) (by kernel_rfl) (by kernel_rfl) (by kernel_rfl)) ?_
        refine Wp.cond2 (b := !r1) (by kernel_rfl) (fun hc => ?_) (fun hc => ?_)
        · have h := cond_t h hc
          refine Wp.seq ?_
          refine Wp.regionS (pOf []) (rhoOf []) (by kernel_rfl) ?_
          refine Runs.all (by kernel_rfl) ?_
          refine thenN ?_
          refine Wp.le (Le.of (s := ⟨[(4, .t (.bool false))], [], []⟩) (mo := []) (mr := []) (by kernel_rfl) (by kernel_rfl) (by kernel_rfl) (by kernel_rfl)) ?_
          refine Wp.ret ?_
          refine thenR ?_
          have hr := Option.some.inj h
          subst hr
          exact RetK [.t (.bool false)] (.one (.t (.bool false))) [] (by kernel_rfl) (by kernel_rfl) (.refl _) .nil
        · have h := cond_f h hc
          refine Wp.skip ?_
          refine thenN ?_
          refine Wp.seq ?_
          refine Wp.regionS (pOf []) (rhoOf []) (by kernel_rfl) ?_
          refine Runs.all (by kernel_rfl) ?_
          refine thenN ?_
          refine Wp.le (Le.of (s := ⟨[(4, .t (.bool true))], [], []⟩) (mo := []) (mr := []) (by kernel_rfl) (by kernel_rfl) (by kernel_rfl) (by kernel_rfl)) ?_
          refine Wp.ret ?_
          have hr := Option.some.inj h
          subst hr
          exact RetK [.t (.bool true)] (.one (.t (.bool true))) [] (by kernel_rfl) (by kernel_rfl) (.refl _) .nil
theorem laws_eqBuild_ok (u : Nat) (p0 : Build) (p1 : Build) (r : Bool) (h : laws_eqBuild u p0 p1 = some r) : CallOK Try.prog 159 [.agg [.t (.int .i64 p0.fHave), .t (.sl 1 (p0.fBuf.map (eInt .u8)))], .agg [.t (.int .i64 p1.fHave), .t (.sl 1 (p1.fBuf.map (eInt .u8)))]] (.one (.t (.bool r))) [] := by
  unfold laws_eqBuild at h
  refine CallOK.of_bodyK (fn := Try.f159) (m := false) [.agg [.t (.int .i64 p0.fHave), .t (.sl 1 (p0.fBuf.map (eInt .u8)))], .agg [.t (.int .i64 p1.fHave), .t (.sl 1 (p1.fBuf.map (eInt .u8)))]] (by kernel_rfl) rfl (by kernel_rfl) (by kernel_rfl) (by kernel_rfl) (by kernel_rfl) (by kernel_rfl) ?_
  refine Wp.seq ?_
  refine Wp.regionS (pOf []) (rhoOf []) (by kernel_rfl) ?_
  refine Runs.all (by kernel_rfl) ?_
  refine thenN ?_
  refine Wp.le (Le.of (s := ⟨[(2, .obj 2 0), (3, .obj 3 0), (4, .t (.bool false))], [(2, [.t (.int .i64 p0.fHave), .t (.sl 1 (p0.fBuf.map (eInt .u8)))]), (3, [.t (.int .i64 p1.fHave), .t (.sl 1 (p1.fBuf.map (eInt .u8)))])], []⟩) (mo := []) (mr := []) (by kernel_rfl) (by kernel_rfl) (by kernel_rfl) (by kernel_rfl)) ?_
  refine Wp.seq ?_
  refine Wp.seq ?_
  refine Wp.regionS (pOf []) (rhoOf []) (by kernel_rfl) ?_
  refine Runs.all (by kernel_rfl) ?_
  refine thenN ?_
  refine Wp.le (Le.of (s := ⟨[(2, .obj 2 0), (3, .obj 3 0), (4, .t (.bool false)), (9, .t (.bool (p0.fHave != p1.fHave)))], [(2, [.t (.int .i64 p0.fHave), .t (.sl 1 (p0.fBuf.map (eInt .u8)))]), (3, [.t (.int .i64 p1.fHave), .t (.sl 1 (p1.fBuf.map (eInt .u8)))])], []⟩) (mo := []) (mr := []) (by kernel_rfl) (by kernel_rfl) (by kernel_rfl) (by kernel_rfl)) ?_
  refine Wp.cond2 (b := p0.fHave != p1.fHave) (by kernel_rfl) (fun hc => ?_) (fun hc => ?_)
  · have h := cond_t h hc
    refine Wp.seq ?_
    refine Wp.regionS (pOf []) (rhoOf []) (by kernel_rfl) ?_
    refine Runs.all (by kernel_rfl) ?_
    refine thenN ?_
    refine Wp.le (Le.of (s := ⟨[(2, .obj 2 0), (3, .obj 3 0), (4, .t (.bool false))], [(2, [.t (.int .i64 p0.fHave), .t (.sl 1 (p0.fBuf.map (eInt .u8)))]), (3, [.t (.int .i64 p1.fHave), .t (.sl 1 (p1.fBuf.map (eInt .u8)))])], []⟩) (mo := []) (mr := []) (by kernel_rfl) (by kernel_rfl) (by kernel_rfl) (by kernel_rfl)) ?_
    refine Wp.ret ?_
    refine thenR ?_
    have hr := Option.some.inj h
    subst hr
    exact RetK [.t (.bool false)] (.one (.t (.bool false))) [] (by kernel_rfl) (by kernel_rfl) (.refl _) .nil
  · have h := cond_f h hc
    refine Wp.skip ?_
    refine thenN ?_
    refine Wp.seq ?_
    refine Wp.seq ?_
    refine Wp.regionS (pOf []) (rhoOf []) (by kernel_rfl) ?_
    refine Runs.batch 4 (by kernel_rfl) ?_
    obtain ⟨r1, e_r1, h⟩ := bind_some h
    refine Runs.callK false 14 16 [] [.t (.sl 1 (p0.fBuf.map (eInt .u8))), .t (.sl 1 (p1.fBuf.map (eInt .u8)))] [.one (.t (.sl 1 (p0.fBuf.map (eInt .u8)))), .one (.t (.sl 1 (p1.fBuf.map (eInt .u8))))] (.one (.t (.bool r1))) [] rfl rfl (by kernel_rfl) (by kernel_rfl) (by kernel_rfl) (by kernel_rfl) (by kernel_rfl) (laws_eqByteS_ok u p0.fBuf p1.fBuf r1 e_r1) (by kernel_rfl) ?_
    refine Runs.all (by kernel_rfl) ?_
    refine thenN ?_
    refine Wp.le (Le.of (s := ⟨[(4, .t (.bool false)), (15, .t (.bool (!r1)))], [], []⟩) (mo := []) (mr := []) (by kernel_rfl) (by kernel_rfl) (by kernel_rfl) (by kernel_rfl)) ?_
    refine Wp.cond2 (b := !r1) (by kernel_rfl) (fun hc => ?_) (fun hc => ?_)
    · have h := cond_t h hc
      refine Wp.seq ?_
      refine Wp.regionS (pOf []) (rhoOf []) (by kernel_rfl) ?_
      refine Runs.all (by kernel_rfl) ?_
      refine thenN ?_
      refine Wp.le (Le.of (s := ⟨[(4, .t (.bool false))], [], []⟩) (mo := []) (mr := []) (by kernel_rfl) (by kernel_rfl) (by kernel_rfl) (by kernel_rfl)) ?_
      refine Wp.ret ?_
      refine thenR ?_
      have hr := Option.some.inj h
      subst hr
      exact RetK [.t (.bool false)] (.one (.t (.bool false))) [] (by kernel_rfl) (by kernel_rfl) (.refl _) .nil
    · have h := cond_f h hc
      refine Wp.skip ?_
      refine thenN ?_
      refine Wp.seq ?_
      refine Wp.regionS (pOf []) (rhoOf []) (by kernel_rfl) ?_
      refine Runs.all (by kernel_rfl) ?_
      refine thenN ?_
      refine Wp.le (Le.of (s := ⟨[(4, .t (.bool true))], [], []⟩) (mo := []) (mr := []) (by kernel_rfl) (by kernel_rfl) (by kernel_rfl) (by kernel_rfl)) ?_
      refine Wp.ret ?_
      have hr := Option.some.inj h
      subst hr
      exact RetK [.t (.bool true)] (.one (.t (.bool true))) [] (by kernel_rfl) (by kernel_rfl) (.refl _) .nil
theorem laws_eqKid_ok (u : Nat) (p0 : Kid) (p1 : Kid) (r : Bool) (h : laws_eqKid u p0 p1 = some r) : CallOK Try.prog 187 [.agg [.t (.int .i64 p0.fId), .t (.int .i64 p0.fWant), .t (.int .i64 p0.fDone), .t (.int .i64 p0.fAge), .t (.int .i64 p0.fSent)], .agg [.t (.int .i64 p1.fId), .t (.int .i64 p1.fWant), .t (.int .i64 p1.fDone), .t (.int .i64 p1.fAge), .t (.int .i64 p1.fSent)]] (.one (.t (.bool r))) [] := by
  unfold laws_eqKid at h
  refine CallOK.of_bodyK (fn := Try.f187) (m := false) [.agg [.t (.int .i64 p0.fId), .t (.int .i64 p0.fWant), .t (.int .i64 p0.fDone), .t (.int .i64 p0.fAge), .t (.int .i64 p0.fSent)], .agg [.t (.int .i64 p1.fId), .t (.int .i64 p1.fWant), .t (.int .i64 p1.fDone), .t (.int .i64 p1.fAge), .t (.int .i64 p1.fSent)]] (by kernel_rfl) rfl (by kernel_rfl) (by kernel_rfl) (by kernel_rfl) (by kernel_rfl) (by kernel_rfl) ?_
  refine Wp.seq ?_
  refine Wp.regionS (pOf []) (rhoOf []) (by kernel_rfl) ?_
  refine Runs.all (by kernel_rfl) ?_
  refine thenN ?_
  refine Wp.le (Le.of (s := ⟨[(2, .obj 2 0), (3, .obj 3 0), (4, .t (.bool false))], [(2, [.t (.int .i64 p0.fId), .t (.int .i64 p0.fWant), .t (.int .i64 p0.fDone), .t (.int .i64 p0.fAge), .t (.int .i64 p0.fSent)]), (3, [.t (.int .i64 p1.fId), .t (.int .i64 p1.fWant), .t (.int .i64 p1.fDone), .t (.int .i64 p1.fAge), .t (.int .i64 p1.fSent)])], []⟩) (mo := []) (mr := []) (by kernel_rfl) (by kernel_rfl) (by kernel_rfl) (by kernel_rfl)) ?_
  refine Wp.seq ?_
  refine Wp.seq ?_
  refine Wp.regionS (pOf []) (rhoOf []) (by kernel_rfl) ?_
  refine Runs.all (by kernel_rfl) ?_
  refine thenN ?_
  refine Wp.le (Le.of (s := ⟨[(2, .obj 2 0), (3, .obj 3 0), (4, .t (.bool false)), (9, .t (.bool (p0.fId != p1.fId)))], [(2, [.t (.int .i64 p0.fId), .t (.int .i64 p0.fWant), .t (.int .i64 p0.fDone), .t (.int .i64 p0.fAge), .t (.int .i64 p0.fSent)]), (3, [.t (.int .i64 p1.fId), .t (.int .i64 p1.fWant), .t (.int .i64 p1.fDone), .t (.int .i64 p1.fAge), .t (.int .i64 p1.fSent)])], []⟩) (mo := []) (mr := []) (by kernel_rfl) (by kernel_rfl) (by kernel_rfl) (by kernel_rfl)) ?_
  refine Wp.cond2 (b := p0.fId != p1.fId) (by kernel_rfl) (fun hc => ?_) (fun hc => ?_)
  · have h := cond_t h hc
    refine Wp.seq ?_
    refine Wp.regionS (pOf []) (rhoOf []) (by kernel_rfl) ?_
    refine Runs.all (by kernel_rfl) ?_
    refine thenN ?_
    refine Wp.le (Le.of (s := ⟨[(2, .obj 2 0), (3, .obj 3 0), (4, .t (.bool false))], [(2, [.t (.int .i64 p0.fId), .t (.int .i64 p0.fWant), .t (.int .i64 p0.fDone), .t (.int .i64 p0.fAge), .t (.int .i64 p0.fSent)]), (3, [.t (.int .i64 p1.fId), .t (.int .i64 p1.fWant), .t (.int .i64 p1.fDone), .t (.int .i64 p1.fAge), .t (.int .i64 p1.fSent)])], []⟩) (mo := []) (mr := []) (by kernel_rfl) (by kernel_rfl) (by kernel_rfl) (by kernel_rfl)) ?_
    refine Wp.ret ?_
    refine thenR ?_
    have hr := Option.some.inj h
    subst hr
    exact RetK [.t (.bool false)] (.one (.t (.bool false))) [] (by kernel_rfl) (by kernel_rfl) (.refl _) .nil
  · have h := cond_f h hc
    refine Wp.skip ?_
    refine thenN ?_
    refine Wp.seq ?_
    refine Wp.seq ?_
    refine Wp.regionS (pOf []) (rhoOf []) (by kernel_rfl) ?_
    refine Runs.all (by kernel_rfl) ?_
    refine thenN ?_
    refine Wp.le (Le.of (s := ⟨[(2, .obj 2 0), (3, .obj 3 0), (4, .t (.bool false)), (14, .t (.bool (p0.fWant != p1.fWant)))], [(2, [.t (.int .i64 p0.fId), .t (.int .i64 p0.fWant), .t (.int .i64 p0.fDone), .t (.int .i64 p0.fAge), .t (.int .i64 p0.fSent)]), (3, [.t (.int .i64 p1.fId), .t (.int .i64 p1.fWant), .t (.int .i64 p1.fDone), .t (.int .i64 p1.fAge), .t (.int .i64 p1.fSent)])], []⟩) (mo := []) (mr := []) (by kernel_rfl) (by kernel_rfl) (by kernel_rfl) (by kernel_rfl)) ?_
    refine Wp.cond2 (b := p0.fWant != p1.fWant) (by kernel_rfl) (fun hc => ?_) (fun hc => ?_)
    · have h := cond_t h hc
      refine Wp.seq ?_
      refine Wp.regionS (pOf []) (rhoOf []) (by kernel_rfl) ?_
      refine Runs.all (by kernel_rfl) ?_
      refine thenN ?_
      refine Wp.le (Le.of (s := ⟨[(2, .obj 2 0), (3, .obj 3 0), (4, .t (.bool false))], [(2, [.t (.int .i64 p0.fId), .t (.int .i64 p0.fWant), .t (.int .i64 p0.fDone), .t (.int .i64 p0.fAge), .t (.int .i64 p0.fSent)]), (3, [.t (.int .i64 p1.fId), .t (.int .i64 p1.fWant), .t (.int .i64 p1.fDone), .t (.int .i64 p1.fAge), .t (.int .i64 p1.fSent)])], []⟩) (mo := []) (mr := []) (by kernel_rfl) (by kernel_rfl) (by kernel_rfl) (by kernel_rfl)) ?_
      refine Wp.ret ?_
      refine thenR ?_
      have hr := Option.some.inj h
      subst hr
      exact RetK [.t (.bool false)] (.one (.t (.bool false))) [] (by kernel_rfl) (by kernel_rfl) (.refl _) .nil
    · have h := cond_f h hc
      refine Wp.skip ?_
      refine thenN ?_
      refine Wp.seq ?_
      refine Wp.seq ?_
      refine Wp.regionS (pOf []) (rhoOf []) (by kernel_rfl) ?_
      refine Runs.all (by kernel_rfl) ?_
      refine thenN ?_
      refine Wp.le (Le.of (s := ⟨[(2, .obj 2 0), (3, .obj 3 0), (4, .t (.bool false)), (19, .t (.bool (p0.fDone != p1.fDone)))], [(2, [.t (.int .i64 p0.fId), .t (.int .i64 p0.fWant), .t (.int .i64 p0.fDone), .t (.int .i64 p0.fAge), .t (.int .i64 p0.fSent)]), (3, [.t (.int .i64 p1.fId), .t (.int .i64 p1.fWant), .t (.int .i64 p1.fDone), .t (.int .i64 p1.fAge), .t (.int .i64 p1.fSent)])], []⟩) (mo := []) (mr := []) (by kernel_rfl) (by kernel_rfl) (by kernel_rfl) (by kernel_rfl)) ?_
      refine Wp.cond2 (b := p0.fDone != p1.fDone) (by kernel_rfl) (fun hc => ?_) (fun hc => ?_)
      · have h := cond_t h hc
        refine Wp.seq ?_
        refine Wp.regionS (pOf []) (rhoOf []) (by kernel_rfl) ?_
        refine Runs.all (by kernel_rfl) ?_
        refine thenN ?_
        refine Wp.le (Le.of (s := ⟨[(2, .obj 2 0), (3, .obj 3 0), (4, .t (.bool false))], [(2, [.t (.int .i64 p0.fId), .t (.int .i64 p0.fWant), .t (.int .i64 p0.fDone), .t (.int .i64 p0.fAge), .t (.int .i64 p0.fSent)]), (3, [.t (.int .i64 p1.fId), .t (.int .i64 p1.fWant), .t (.int .i64 p1.fDone), .t (.int .i64 p1.fAge), .t (.int .i64 p1.fSent)])], []⟩) (mo := []) (mr := []) (by kernel_rfl) (by kernel_rfl) (by kernel_rfl) (by kernel_rfl)) ?_
        refine Wp.ret ?_
        refine thenR ?_
        have hr := Option.some.inj h
        subst hr
        exact RetK [.t (.bool false)] (.one (.t (.bool false))) [] (by kernel_rfl) (by kernel_rfl) (.refl _) .nil
      · have h := cond_f h hc
        refine Wp.skip ?_
        refine thenN ?_
        refine Wp.seq ?_
        refine Wp.seq ?_
        refine Wp.regionS (pOf []) (rhoOf []) (by kernel_rfl) ?_
        refine Runs.all (by kernel_rfl) ?_
        refine thenN ?_
        refine Wp.le (Le.of (s := ⟨[(2, .obj 2 0), (3, .obj 3 0), (4, .t (.bool false)), (24, .t (.bool (p0.fAge != p1.fAge)))], [(2, [.t (.int .i64 p0.fId), .t (.int .i64 p0.fWant), .t (.int .i64 p0.fDone), .t (.int .i64 p0.fAge), .t (.int .i64 p0.fSent)]), (3, [.t (.int .i64 p1.fId), .t (.int .i64 p1.fWant), .t (.int .i64 p1.fDone), .t (.int .i64 p1.fAge), .t (.int .i64 p1.fSent)])], []⟩) (mo := []) (mr := []) (by kernel_rfl) (by kernel_rfl) (by kernel_rfl) (by kernel_rfl)) ?_
        refine Wp.cond2 (b := p0.fAge != p1.fAge) (by kernel_rfl) (fun hc => ?_) (fun hc => ?_)
        · have h := cond_t h hc
          refine Wp.seq ?_
          refine Wp.regionS (pOf []) (rhoOf []) (by kernel_rfl) ?_
          refine Runs.all (by kernel_rfl) ?_
          refine thenN ?_
          refine Wp.le (Le.of (s := ⟨[(2, .obj 2 0), (3, .obj 3 0), (4, .t (.bool false))], [(2, [.t (.int .i64 p0.fId), .t (.int .i64 p0.fWant), .t (.int .i64 p0.fDone), .t (.int .i64 p0.fAge), .t (.int .i64 p0.fSent)]), (3, [.t (.int .i64 p1.fId), .t (.int .i64 p1.fWant), .t (.int .i64 p1.fDone), .t (.int .i64 p1.fAge), .t (.int .i64 p1.fSent)])], []⟩) (mo := []) (mr := []) (by kernel_rfl) (by kernel_rfl) (by kernel_rfl) (by kernel_rfl)) ?_
          refine Wp.ret ?_
          refine thenR ?_
          have hr := Option.some.inj h
          subst hr
          exact RetK [.t (.bool false)] (.one (.t (.bool false))) [] (by kernel_rfl) (by kernel_rfl) (.refl _) .nil
        · have h := cond_f h hc
          refine Wp.skip ?_
          refine thenN ?_
          refine Wp.seq ?_
          refine Wp.seq ?_
          refine Wp.regionS (pOf []) (rhoOf []) (by kernel_rfl) ?_
          refine Runs.all (by kernel_rfl) ?_
          refine thenN ?_
          refine Wp.le (Le.of (s := ⟨[(4, .t (.bool false)), (29, .t (.bool (p0.fSent != p1.fSent)))], [], []⟩) (mo := []) (mr := []) (by kernel_rfl) (by kernel_rfl) (by kernel_rfl) (by kernel_rfl)) ?_
          refine Wp.cond2 (b := p0.fSent != p1.fSent) (by kernel_rfl) (fun hc => ?_) (fun hc => ?_)
          · have h := cond_t h hc
            refine Wp.seq ?_
            refine Wp.regionS (pOf []) (rhoOf []) (by kernel_rfl) ?_
            refine Runs.all (by kernel_rfl) ?_
            refine thenN ?_
            refine Wp.le (Le.of (s := ⟨[(4, .t (.bool false))], [], []⟩) (mo := []) (mr := []) (by kernel_rfl) (by kernel_rfl) (by kernel_rfl) (by kernel_rfl)) ?_
            refine Wp.ret ?_
            refine thenR ?_
            have hr := Option.some.inj h
            subst hr
            exact RetK [.t (.bool false)] (.one (.t (.bool false))) [] (by kernel_rfl) (by kernel_rfl) (.refl _) .nil
          · have h := cond_f h hc
            refine Wp.skip ?_
            refine thenN ?_
            refine Wp.seq ?_
            refine Wp.regionS (pOf []) (rhoOf []) (by kernel_rfl) ?_
            refine Runs.all (by kernel_rfl) ?_
            refine thenN ?_
            refine Wp.le (Le.of (s := ⟨[(4, .t (.bool true))], [], []⟩) (mo := []) (mr := []) (by kernel_rfl) (by kernel_rfl) (by kernel_rfl) (by kernel_rfl)) ?_
            refine Wp.ret ?_
            have hr := Option.some.inj h
            subst hr
            exact RetK [.t (.bool true)] (.one (.t (.bool true))) [] (by kernel_rfl) (by kernel_rfl) (.refl _) .nil
theorem laws_eqKidS_ok (u : Nat) (p0 : List Kid) (p1 : List Kid) (r : Bool) (h : laws_eqKidS u p0 p1 = some r) : CallOK Try.prog 160 [.one (.t (.sl 5 (p0.map Kid.enc))), .one (.t (.sl 5 (p1.map Kid.enc)))] (.one (.t (.bool r))) [] := by
  unfold laws_eqKidS at h
  refine CallOK.of_bodyK (fn := Try.f160) (m := false) [.t (.sl 5 (p0.map Kid.enc)), .t (.sl 5 (p1.map Kid.enc))] (by kernel_rfl) rfl (by kernel_rfl) (by kernel_rfl) (by kernel_rfl) (by kernel_rfl) (by kernel_rfl) ?_
  refine Wp.seq ?_
  refine Wp.regionS (pOf []) (rhoOf []) (by kernel_rfl) ?_
  refine Runs.all (by kernel_rfl) ?_
  refine thenN ?_
  refine Wp.le (Le.of (s := ⟨[(0, .t (.sl 5 (p0.map Kid.enc))), (1, .t (.sl 5 (p1.map Kid.enc))), (4, .t (.bool false))], [], []⟩) (mo := []) (mr := []) (by kernel_rfl) (by kernel_rfl) (by kernel_rfl) (by kernel_rfl)) ?_
  refine Wp.seq ?_
  refine Wp.seq ?_
  refine Wp.regionS (pOf []) (rhoOf []) (by kernel_rfl) ?_
  refine Runs.batch 1 (by kernel_rfl) ?_
  refine Runs.lenT (y := .t (.sl 5 (p0.map Kid.enc))) (e := 156) Kid.enc p0 5 rfl rfl rfl (by kernel_rfl) (by kernel_rfl) (by kernel_rfl) (by kernel_rfl) (by kernel_rfl) ?_
  refine Runs.batch 1 (by kernel_rfl) ?_
  refine Runs.lenT (y := .t (.sl 5 (p1.map Kid.enc))) (e := 156) Kid.enc p1 5 rfl rfl rfl (by kernel_rfl) (by kernel_rfl) (by kernel_rfl) (by kernel_rfl) (by kernel_rfl) ?_
  refine Runs.all (by kernel_rfl) ?_
  refine thenN ?_
  refine Wp.le (Le.of (s := ⟨[(0, .t (.sl 5 (p0.map Kid.enc))), (1, .t (.sl 5 (p1.map Kid.enc))), (4, .t (.bool false)), (10, .t (.bool (((p0.length : Int)) != ((p1.length : Int)))))], [], []⟩) (mo := []) (mr := []) (by kernel_rfl) (by kernel_rfl) (by kernel_rfl) (by kernel_rfl)) ?_
  refine Wp.cond2 (b := ((p0.length : Int)) != ((p1.length : Int))) (by kernel_rfl) (fun hc => ?_) (fun hc => ?_)
  · have h := cond_t h hc
    refine Wp.seq ?_
    refine Wp.regionS (pOf []) (rhoOf []) (by kernel_rfl) ?_
    refine Runs.all (by kernel_rfl) ?_
    refine thenN ?_
    refine Wp.le (Le.of (s := ⟨[(0, .t (.sl 5 (p0.map Kid.enc))), (1, .t (.sl 5 (p1.map Kid.enc))), (4, .t (.bool false))], [], []⟩) (mo := []) (mr := []) (by kernel_rfl) (by kernel_rfl) (by kernel_rfl) (by kernel_rfl)) ?_
    refine Wp.ret ?_
    refine thenR ?_
    have hr := Option.some.inj h
    subst hr
    exact RetK [.t (.bool false)] (.one (.t (.bool false))) [] (by kernel_rfl) (by kernel_rfl) (.refl _) .nil
  · have h := cond_f h hc
    refine Wp.skip ?_
    refine thenN ?_
    refine Wp.seqJ (α := Unit) (fun a => ⟨[(4, .t (.bool false))], [], []⟩) (fun a => laws_eqKidS_j1 u = some r) ?_ ?_
    · rintro ⟨⟩ h
      change laws_eqKidS_j1 u = some r at h
      unfold laws_eqKidS_j1 at h
      refine Wp.seq ?_
      refine Wp.regionS (pOf []) (rhoOf []) (by kernel_rfl) ?_
      refine Runs.all (by kernel_rfl) ?_
      refine thenN ?_
      refine Wp.le (Le.of (s := ⟨[(4, .t (.bool true))], [], []⟩) (mo := []) (mr := []) (by kernel_rfl) (by kernel_rfl) (by kernel_rfl) (by kernel_rfl)) ?_
      refine Wp.ret ?_
      have hr := Option.some.inj h
      subst hr
      exact RetK [.t (.bool true)] (.one (.t (.bool true))) [] (by kernel_rfl) (by kernel_rfl) (.refl _) .nil
    · refine Wp.seq ?_
      refine Wp.regionS (pOf []) (rhoOf []) (by kernel_rfl) ?_
      refine Runs.all (by kernel_rfl) ?_
      refine thenN ?_
      refine Wp.le (Le.of (s := ⟨[(0, .t (.sl 5 (p0.map Kid.enc))), (1, .t (.sl 5 (p1.map Kid.enc))), (4, .t (.bool false)), (5, .t (.int .i64 0))], [], []⟩) (mo := []) (mr := []) (by kernel_rfl) (by kernel_rfl) (by kernel_rfl) (by kernel_rfl)) ?_
      refine Wp.block ?_
      refine Wp.loopF (α := (List Kid) × (List Kid) × Int) (fun a => ⟨[(0, .t (.sl 5 (a.1.map Kid.enc))), (1, .t (.sl 5 (a.2.1.map Kid.enc))), (4, .t (.bool false)), (5, .t (.int .i64 a.2.2))], [], []⟩) (fun k_laws_eqKidS_l2 a => laws_eqKidS_l2 u k_laws_eqKidS_l2 a.1 a.2.1 a.2.2 = some r) ?_ ?_ u (p0, p1, 0) h (Le.of (mo := []) (mr := []) (by kernel_rfl) (by kernel_rfl) (by kernel_rfl) (by kernel_rfl))
      · intro a h; unfold laws_eqKidS_l2 at h; cases h
      · rintro k_laws_eqKidS_l2 ⟨p0, p1, x2⟩ h
        change laws_eqKidS_l2 u (k_laws_eqKidS_l2 + 1) p0 p1 x2 = some r at h
        rw [laws_eqKidS_l2] at h
        refine Wp.seq ?_
        refine Wp.seq ?_
        refine Wp.regionS (pOf []) (rhoOf []) (by kernel_rfl) ?_
        refine Runs.batch 2 (by kernel_rfl) ?_
        refine Runs.lenT (y := .t (.sl 5 (p0.map Kid.enc))) (e := 156) Kid.enc p0 5 rfl rfl rfl (by kernel_rfl) (by kernel_rfl) (by kernel_rfl) (by kernel_rfl) (by kernel_rfl) ?_
        refine Runs.all (by kernel_rfl) ?_
        refine thenN ?_
        refine Wp.le (Le.of (s := ⟨[(0, .t (.sl 5 (p0.map Kid.enc))), (1, .t (.sl 5 (p1.map Kid.enc))), (4, .t (.bool false)), (5, .t (.int .i64 x2)), (11, .t (.int .i64 x2)), (12, .t (.sl 5 (p0.map Kid.enc))), (13, .t (.int .i64 ((p0.length : Int)))), (14, .t (.bool (decide (x2 < ((p0.length : Int))))))], [], []⟩) (mo := []) (mr := []) (by kernel_rfl) (by kernel_rfl) (by kernel_rfl) (by kernel_rfl)) ?_
        refine Wp.cond2 (b := decide (x2 < ((p0.length : Int)))) (by kernel_rfl) (fun hc => ?_) (fun hc => ?_)
        · have h := cond_t h hc
          refine Wp.skip ?_
          refine thenN ?_
          refine Wp.seq ?_
          refine Wp.block ?_
          refine Wp.seq ?_
          refine Wp.regionA (pOf []) (rhoOf [(0, .frz), (1, .frz), (5, .frz), (17, .frz), (18, .frz), (19, .frz), (20, .frz), (21, .frz), (22, .frz), (23, .frz), (24, .frz), (25, .frz)]) (by kernel_rfl) (by kernel_rfl) ?_
          refine Runs.batch 2 (by kernel_rfl) ?_
          obtain ⟨y4, e_y4, h⟩ := bind_some h
          refine Runs.idxT (e := 156) (kk := .i64) (sz := 5) Kid.enc p0 x2 rfl (by kernel_rfl) (by kernel_rfl) (by kernel_rfl) (by kernel_rfl) (by kernel_rfl) (by kernel_rfl) e_y4 ?_
          refine Runs.batch 3 (by kernel_rfl) ?_
          obtain ⟨y5, e_y5, h⟩ := bind_some h
          refine Runs.idxT (e := 156) (kk := .i64) (sz := 5) Kid.enc p1 x2 rfl (by kernel_rfl) (by kernel_rfl) (by kernel_rfl) (by kernel_rfl) (by kernel_rfl) (by kernel_rfl) e_y5 ?_
          refine Runs.batch 1 (by kernel_rfl) ?_
          obtain ⟨r6, e_r6, h⟩ := bind_some h
          refine Runs.callK false 25 187 [] [.agg [.t (.int .i64 y4.fId), .t (.int .i64 y4.fWant), .t (.int .i64 y4.fDone), .t (.int .i64 y4.fAge), .t (.int .i64 y4.fSent)], .agg [.t (.int .i64 y5.fId), .t (.int .i64 y5.fWant), .t (.int .i64 y5.fDone), .t (.int .i64 y5.fAge), .t (.int .i64 y5.fSent)]] [.agg [.t (.int .i64 y4.fId), .t (.int .i64 y4.fWant), .t (.int .i64 y4.fDone), .t (.int .i64 y4.fAge), .t (.int .i64 y4.fSent)], .agg [.t (.int .i64 y5.fId), .t (.int .i64 y5.fWant), .t (.int .i64 y5.fDone), .t (.int .i64 y5.fAge), .t (.int .i64 y5.fSent)]] (.one (.t (.bool r6))) [] rfl rfl (by kernel_rfl) (by kernel_rfl) (by kernel_rfl) (by kernel_rfl) (by kernel_rfl) (laws_eqKid_ok u y4 y5 r6 e_r6) (by kernel_rfl) ?_
          refine Runs.all (by kernel_rfl) ?_
          refine thenN ?_
          refine Wp.le (Le.of (s := ⟨[(0, .t (.sl 5 (p0.map Kid.enc))), (1, .t (.sl 5 (p1.map Kid.enc))), (4, .t (.bool false)), (5, .t (.int .i64 x2)), (11, .t (.int .i64 x2)), (12, .t (.sl 5 (p0.map Kid.enc))), (13, .t (.int .i64 ((p0.length : Int)))), (14, .t (.bool (decide (x2 < ((p0.length : Int)))))), (17, .t (.sl 5 (p0.map Kid.enc))), (18, .t (.int .i64 x2)), (19, .fadr [.int .i64 y4.fId, .int .i64 y4.fWant, .int .i64 y4.fDone, .int .i64 y4.fAge, .int .i64 y4.fSent]), (20, .agg [.t (.int .i64 y4.fId), .t (.int .i64 y4.fWant), .t (.int .i64 y4.fDone), .t (.int .i64 y4.fAge), .t (.int .i64 y4.fSent)]), (21, .t (.sl 5 (p1.map Kid.enc))), (22, .t (.int .i64 x2)), (23, .fadr [.int .i64 y5.fId, .int .i64 y5.fWant, .int .i64 y5.fDone, .int .i64 y5.fAge, .int .i64 y5.fSent]), (24, .agg [.t (.int .i64 y5.fId), .t (.int .i64 y5.fWant), .t (.int .i64 y5.fDone), .t (.int .i64 y5.fAge), .t (.int .i64 y5.fSent)]), (25, .t (.bool r6)), (26, .t (.bool (!r6)))], [], []⟩) (mo := []) (mr := []) (by kernel_rfl) (by kernel_rfl) (by kernel_rfl) (by kernel_rfl)) ?_
          refine Wp.cond2 (b := !r6) (by kernel_rfl) (fun hc => ?_) (fun hc => ?_)
          · have h := cond_t h hc
            refine Wp.seq ?_
            refine Wp.regionS (pOf []) (rhoOf []) (by kernel_rfl) ?_
            refine Runs.all (by kernel_rfl) ?_
            refine thenN ?_
            refine Wp.le (Le.of (s := ⟨[(0, .t (.sl 5 (p0.map Kid.enc))), (1, .t (.sl 5 (p1.map Kid.enc))), (4, .t (.bool false)), (5, .t (.int .i64 x2)), (11, .t (.int .i64 x2)), (12, .t (.sl 5 (p0.map Kid.enc))), (13, .t (.int .i64 ((p0.length : Int)))), (14, .t (.bool (decide (x2 < ((p0.length : Int)))))), (17, .t (.sl 5 (p0.map Kid.enc))), (18, .t (.int .i64 x2)), (19, .fadr [.int .i64 y4.fId, .int .i64 y4.fWant, .int .i64 y4.fDone, .int .i64 y4.fAge, .int .i64 y4.fSent]), (20, .agg [.t (.int .i64 y4.fId), .t (.int .i64 y4.fWant), .t (.int .i64 y4.fDone), .t (.int .i64 y4.fAge), .t (.int .i64 y4.fSent)]), (21, .t (.sl 5 (p1.map Kid.enc))), (22, .t (.int .i64 x2)), (23, .fadr [.int .i64 y5.fId, .int .i64 y5.fWant, .int .i64 y5.fDone, .int .i64 y5.fAge, .int .i64 y5.fSent]), (24, .agg [.t (.int .i64 y5.fId), .t (.int .i64 y5.fWant), .t (.int .i64 y5.fDone), .t (.int .i64 y5.fAge), .t (.int .i64 y5.fSent)]), (25, .t (.bool r6)), (26, .t (.bool (!r6)))], [], []⟩) (mo := []) (mr := []) (by kernel_rfl) (by kernel_rfl) (by kernel_rfl) (by kernel_rfl)) ?_
            refine Wp.ret ?_
            refine blkR ?_
            refine thenR ?_
            refine thenR ?_
            refine blkR ?_
            refine thenR ?_
            have hr := Option.some.inj h
            subst hr
            exact RetK [.t (.bool false)] (.one (.t (.bool false))) [] (by kernel_rfl) (by kernel_rfl) (.refl _) .nil
          · have h := cond_f h hc
            refine Wp.skip ?_
            refine blkN ?_
            refine thenN ?_
            refine Wp.regionS (pOf []) (rhoOf []) (by kernel_rfl) ?_
            refine Runs.all (by kernel_rfl) ?_
            refine thenN ?_
            exact ⟨(p0, p1, bAdd .i64 x2 1), h, Le.of (mo := []) (mr := []) (by kernel_rfl) (by kernel_rfl) (by kernel_rfl) (by kernel_rfl)⟩
        · have h := cond_f h hc
          refine Wp.exit ?_
          refine thenE ?_
          refine thenE ?_
          refine blkE ?_
          refine thenN ?_
          exact ⟨(), h, Le.of (mo := []) (mr := []) (by kernel_rfl) (by kernel_rfl) (by kernel_rfl) (by kernel_rfl)⟩
theorem laws_eqNode_ok (u : Nat) (p0 : Node) (p1 : Node) (r : Bool) (h : laws_eqNode u p0 p1 = some r) : CallOK Try.prog 117 [.agg [.t (.bool p0.fOn), .t (.int .i64 p0.fBoss), .t (.int .i64 p0.fQuiet), .t (.int .i64 p0.fMan.fGen), .t (.int .i64 p0.fMan.fSize), .t (.int .i64 p0.fMan.fLen), .t (.sl 2 (p0.fMan.fSums.map Sum.enc)), .t (.int .i64 p0.fBld.fHave), .t (.sl 1 (p0.fBld.fBuf.map (eInt .u8))), .t (.int .i64 p0.fPhase), .t (.sl 5 (p0.fKids.map Kid.enc)), .t (.int .i64 p0.fDrops)], .agg [.t (.bool p1.fOn), .t (.int .i64 p1.fBoss), .t (.int .i64 p1.fQuiet), .t (.int .i64 p1.fMan.fGen), .t (.int .i64 p1.fMan.fSize), .t (.int .i64 p1.fMan.fLen), .t (.sl 2 (p1.fMan.fSums.map Sum.enc)), .t (.int .i64 p1.fBld.fHave), .t (.sl 1 (p1.fBld.fBuf.map (eInt .u8))), .t (.int .i64 p1.fPhase), .t (.sl 5 (p1.fKids.map Kid.enc)), .t (.int .i64 p1.fDrops)]] (.one (.t (.bool r))) [] := by
  unfold laws_eqNode at h
  refine CallOK.of_bodyK (fn := Try.f117) (m := false) [.agg [.t (.bool p0.fOn), .t (.int .i64 p0.fBoss), .t (.int .i64 p0.fQuiet), .t (.int .i64 p0.fMan.fGen), .t (.int .i64 p0.fMan.fSize), .t (.int .i64 p0.fMan.fLen), .t (.sl 2 (p0.fMan.fSums.map Sum.enc)), .t (.int .i64 p0.fBld.fHave), .t (.sl 1 (p0.fBld.fBuf.map (eInt .u8))), .t (.int .i64 p0.fPhase), .t (.sl 5 (p0.fKids.map Kid.enc)), .t (.int .i64 p0.fDrops)], .agg [.t (.bool p1.fOn), .t (.int .i64 p1.fBoss), .t (.int .i64 p1.fQuiet), .t (.int .i64 p1.fMan.fGen), .t (.int .i64 p1.fMan.fSize), .t (.int .i64 p1.fMan.fLen), .t (.sl 2 (p1.fMan.fSums.map Sum.enc)), .t (.int .i64 p1.fBld.fHave), .t (.sl 1 (p1.fBld.fBuf.map (eInt .u8))), .t (.int .i64 p1.fPhase), .t (.sl 5 (p1.fKids.map Kid.enc)), .t (.int .i64 p1.fDrops)]] (by kernel_rfl) rfl (by kernel_rfl) (by kernel_rfl) (by kernel_rfl) (by kernel_rfl) (by kernel_rfl) ?_
  refine Wp.seq ?_
  refine Wp.regionS (pOf []) (rhoOf []) (by kernel_rfl) ?_
  refine Runs.all (by kernel_rfl) ?_
  refine thenN ?_
  refine Wp.le (Le.of (s := ⟨[(2, .obj 2 0), (3, .obj 3 0), (4, .t (.bool false))], [(2, [.t (.bool p0.fOn), .t (.int .i64 p0.fBoss), .t (.int .i64 p0.fQuiet), .t (.int .i64 p0.fMan.fGen), .t (.int .i64 p0.fMan.fSize), .t (.int .i64 p0.fMan.fLen), .t (.sl 2 (p0.fMan.fSums.map Sum.enc)), .t (.int .i64 p0.fBld.fHave), .t (.sl 1 (p0.fBld.fBuf.map (eInt .u8))), .t (.int .i64 p0.fPhase), .t (.sl 5 (p0.fKids.map Kid.enc)), .t (.int .i64 p0.fDrops)]), (3, [.t (.bool p1.fOn), .t (.int .i64 p1.fBoss), .t (.int .i64 p1.fQuiet), .t (.int .i64 p1.fMan.fGen), .t (.int .i64 p1.fMan.fSize), .t (.int .i64 p1.fMan.fLen), .t (.sl 2 (p1.fMan.fSums.map Sum.enc)), .t (.int .i64 p1.fBld.fHave), .t (.sl 1 (p1.fBld.fBuf.map (eInt .u8))), .t (.int .i64 p1.fPhase), .t (.sl 5 (p1.fKids.map Kid.enc)), .t (.int .i64 p1.fDrops)])], []⟩) (mo := []) (mr := []) (by kernel_rfl) (by kernel_rfl) (by kernel_rfl) (by kernel_rfl)) ?_
  refine Wp.seq ?_
  refine Wp.seq ?_
  refine Wp.regionS (pOf []) (rhoOf []) (by kernel_rfl) ?_
  refine Runs.all (by kernel_rfl) ?_
  refine thenN ?_
  refine Wp.le (Le.of (s := ⟨[(2, .obj 2 0), (3, .obj 3 0), (4, .t (.bool false)), (9, .t (.bool (!(p0.fOn == p1.fOn))))], [(2, [.t (.bool p0.fOn), .t (.int .i64 p0.fBoss), .t (.int .i64 p0.fQuiet), .t (.int .i64 p0.fMan.fGen), .t (.int .i64 p0.fMan.fSize), .t (.int .i64 p0.fMan.fLen), .t (.sl 2 (p0.fMan.fSums.map Sum.enc)), .t (.int .i64 p0.fBld.fHave), .t (.sl 1 (p0.fBld.fBuf.map (eInt .u8))), .t (.int .i64 p0.fPhase), .t (.sl 5 (p0.fKids.map Kid.enc)), .t (.int .i64 p0.fDrops)]), (3, [.t (.bool p1.fOn), .t (.int .i64 p1.fBoss), .t (.int .i64 p1.fQuiet), .t (.int .i64 p1.fMan.fGen), .t (.int .i64 p1.fMan.fSize), .t (.int .i64 p1.fMan.fLen), .t (.sl 2 (p1.fMan.fSums.map Sum.enc)), .t (.int .i64 p1.fBld.fHave), .t (.sl 1 (p1.fBld.fBuf.map (eInt .u8))), .t (.int .i64 p1.fPhase), .t (.sl 5 (p1.fKids.map Kid.enc)), .t (.int .i64 p1.fDrops)])], []⟩) (mo := []) (mr := []) (by kernel_rfl) (by kernel_rfl) (by kernel_rfl) (by kernel_rfl)) ?_
  refine Wp.cond2 (b := !(p0.fOn == p1.fOn)) (by kernel_rfl) (fun hc => ?_) (fun hc => ?_)
  · have h := cond_t h hc
    refine Wp.seq ?_
    refine Wp.regionS (pOf []) (rhoOf []) (by kernel_rfl) ?_
    refine Runs.all (by kernel_rfl) ?_
    refine thenN ?_
    refine Wp.le (Le.of (s := ⟨[(2, .obj 2 0), (3, .obj 3 0), (4, .t (.bool false))], [(2, [.t (.bool p0.fOn), .t (.int .i64 p0.fBoss), .t (.int .i64 p0.fQuiet), .t (.int .i64 p0.fMan.fGen), .t (.int .i64 p0.fMan.fSize), .t (.int .i64 p0.fMan.fLen), .t (.sl 2 (p0.fMan.fSums.map Sum.enc)), .t (.int .i64 p0.fBld.fHave), .t (.sl 1 (p0.fBld.fBuf.map (eInt .u8))), .t (.int .i64 p0.fPhase), .t (.sl 5 (p0.fKids.map Kid.enc)), .t (.int .i64 p0.fDrops)]), (3, [.t (.bool p1.fOn), .t (.int .i64 p1.fBoss), .t (.int .i64 p1.fQuiet), .t (.int .i64 p1.fMan.fGen), .t (.int .i64 p1.fMan.fSize), .t (.int .i64 p1.fMan.fLen), .t (.sl 2 (p1.fMan.fSums.map Sum.enc)), .t (.int .i64 p1.fBld.fHave), .t (.sl 1 (p1.fBld.fBuf.map (eInt .u8))), .t (.int .i64 p1.fPhase), .t (.sl 5 (p1.fKids.map Kid.enc)), .t (.int .i64 p1.fDrops)])], []⟩) (mo := []) (mr := []) (by kernel_rfl) (by kernel_rfl) (by kernel_rfl) (by kernel_rfl)) ?_
    refine Wp.ret ?_
    refine thenR ?_
    have hr := Option.some.inj h
    subst hr
    exact RetK [.t (.bool false)] (.one (.t (.bool false))) [] (by kernel_rfl) (by kernel_rfl) (.refl _) .nil
  · have h := cond_f h hc
    refine Wp.skip ?_
    refine thenN ?_
    refine Wp.seq ?_
    refine Wp.seq ?_
    refine Wp.regionS (pOf []) (rhoOf []) (by kernel_rfl) ?_
    refine Runs.all (by kernel_rfl) ?_
    refine thenN ?_
    refine Wp.le (Le.of (s := ⟨[(2, .obj 2 0), (3, .obj 3 0), (4, .t (.bool false)), (14, .t (.bool (p0.fBoss != p1.fBoss)))], [(2, [.t (.bool p0.fOn), .t (.int .i64 p0.fBoss), .t (.int .i64 p0.fQuiet), .t (.int .i64 p0.fMan.fGen), .t (.int .i64 p0.fMan.fSize), .t (.int .i64 p0.fMan.fLen), .t (.sl 2 (p0.fMan.fSums.map Sum.enc)), .t (.int .i64 p0.fBld.fHave), .t (.sl 1 (p0.fBld.fBuf.map (eInt .u8))), .t (.int .i64 p0.fPhase), .t (.sl 5 (p0.fKids.map Kid.enc)), .t (.int .i64 p0.fDrops)]), (3, [.t (.bool p1.fOn), .t (.int .i64 p1.fBoss), .t (.int .i64 p1.fQuiet), .t (.int .i64 p1.fMan.fGen), .t (.int .i64 p1.fMan.fSize), .t (.int .i64 p1.fMan.fLen), .t (.sl 2 (p1.fMan.fSums.map Sum.enc)), .t (.int .i64 p1.fBld.fHave), .t (.sl 1 (p1.fBld.fBuf.map (eInt .u8))), .t (.int .i64 p1.fPhase), .t (.sl 5 (p1.fKids.map Kid.enc)), .t (.int .i64 p1.fDrops)])], []⟩) (mo := []) (mr := []) (by kernel_rfl) (by kernel_rfl) (by kernel_rfl) (by kernel_rfl)) ?_
    refine Wp.cond2 (b := p0.fBoss != p1.fBoss) (by kernel_rfl) (fun hc => ?_) (fun hc => ?_)
    · have h := cond_t h hc
      refine Wp.seq ?_
      refine Wp.regionS (pOf []) (rhoOf []) (by kernel_rfl) ?_
      refine Runs.all (by kernel_rfl) ?_
      refine thenN ?_
      refine Wp.le (Le.of (s := ⟨[(2, .obj 2 0), (3, .obj 3 0), (4, .t (.bool false))], [(2, [.t (.bool p0.fOn), .t (.int .i64 p0.fBoss), .t (.int .i64 p0.fQuiet), .t (.int .i64 p0.fMan.fGen), .t (.int .i64 p0.fMan.fSize), .t (.int .i64 p0.fMan.fLen), .t (.sl 2 (p0.fMan.fSums.map Sum.enc)), .t (.int .i64 p0.fBld.fHave), .t (.sl 1 (p0.fBld.fBuf.map (eInt .u8))), .t (.int .i64 p0.fPhase), .t (.sl 5 (p0.fKids.map Kid.enc)), .t (.int .i64 p0.fDrops)]), (3, [.t (.bool p1.fOn), .t (.int .i64 p1.fBoss), .t (.int .i64 p1.fQuiet), .t (.int .i64 p1.fMan.fGen), .t (.int .i64 p1.fMan.fSize), .t (.int .i64 p1.fMan.fLen), .t (.sl 2 (p1.fMan.fSums.map Sum.enc)), .t (.int .i64 p1.fBld.fHave), .t (.sl 1 (p1.fBld.fBuf.map (eInt .u8))), .t (.int .i64 p1.fPhase), .t (.sl 5 (p1.fKids.map Kid.enc)), .t (.int .i64 p1.fDrops)])], []⟩) (mo := []) (mr := []) (by kernel_rfl) (by kernel_rfl) (by kernel_rfl) (by kernel_rfl)) ?_
      refine Wp.ret ?_
      refine thenR ?_
      have hr := Option.some.inj h
      subst hr
      exact RetK [.t (.bool false)] (.one (.t (.bool false))) [] (by kernel_rfl) (by kernel_rfl) (.refl _) .nil
    · have h := cond_f h hc
      refine Wp.skip ?_
      refine thenN ?_
      refine Wp.seq ?_
      refine Wp.seq ?_
      refine Wp.regionS (pOf []) (rhoOf []) (by kernel_rfl) ?_
      refine Runs.all (by kernel_rfl) ?_
      refine thenN ?_
      refine Wp.le (Le.of (s := ⟨[(2, .obj 2 0), (3, .obj 3 0), (4, .t (.bool false)), (19, .t (.bool (p0.fQuiet != p1.fQuiet)))], [(2, [.t (.bool p0.fOn), .t (.int .i64 p0.fBoss), .t (.int .i64 p0.fQuiet), .t (.int .i64 p0.fMan.fGen), .t (.int .i64 p0.fMan.fSize), .t (.int .i64 p0.fMan.fLen), .t (.sl 2 (p0.fMan.fSums.map Sum.enc)), .t (.int .i64 p0.fBld.fHave), .t (.sl 1 (p0.fBld.fBuf.map (eInt .u8))), .t (.int .i64 p0.fPhase), .t (.sl 5 (p0.fKids.map Kid.enc)), .t (.int .i64 p0.fDrops)]), (3, [.t (.bool p1.fOn), .t (.int .i64 p1.fBoss), .t (.int .i64 p1.fQuiet), .t (.int .i64 p1.fMan.fGen), .t (.int .i64 p1.fMan.fSize), .t (.int .i64 p1.fMan.fLen), .t (.sl 2 (p1.fMan.fSums.map Sum.enc)), .t (.int .i64 p1.fBld.fHave), .t (.sl 1 (p1.fBld.fBuf.map (eInt .u8))), .t (.int .i64 p1.fPhase), .t (.sl 5 (p1.fKids.map Kid.enc)), .t (.int .i64 p1.fDrops)])], []⟩) (mo := []) (mr := []) (by kernel_rfl) (by kernel_rfl) (by kernel_rfl) (by kernel_rfl)) ?_
      refine Wp.cond2 (b := p0.fQuiet != p1.fQuiet) (by kernel_rfl) (fun hc => ?_) (fun hc => ?_)
      · have h := cond_t h hc
        refine Wp.seq ?_
        refine Wp.regionS (pOf []) (rhoOf []) (by kernel_rfl) ?_
        refine Runs.all (by kernel_rfl) ?_
        refine thenN ?_
        refine Wp.le (Le.of (s := ⟨[(2, .obj 2 0), (3, .obj 3 0), (4, .t (.bool false))], [(2, [.t (.bool p0.fOn), .t (.int .i64 p0.fBoss), .t (.int .i64 p0.fQuiet), .t (.int .i64 p0.fMan.fGen), .t (.int .i64 p0.fMan.fSize), .t (.int .i64 p0.fMan.fLen), .t (.sl 2 (p0.fMan.fSums.map Sum.enc)), .t (.int .i64 p0.fBld.fHave), .t (.sl 1 (p0.fBld.fBuf.map (eInt .u8))), .t (.int .i64 p0.fPhase), .t (.sl 5 (p0.fKids.map Kid.enc)), .t (.int .i64 p0.fDrops)]), (3, [.t (.bool p1.fOn), .t (.int .i64 p1.fBoss), .t (.int .i64 p1.fQuiet), .t (.int .i64 p1.fMan.fGen), .t (.int .i64 p1.fMan.fSize), .t (.int .i64 p1.fMan.fLen), .t (.sl 2 (p1.fMan.fSums.map Sum.enc)), .t (.int .i64 p1.fBld.fHave), .t (.sl 1 (p1.fBld.fBuf.map (eInt .u8))), .t (.int .i64 p1.fPhase), .t (.sl 5 (p1.fKids.map Kid.enc)), .t (.int .i64 p1.fDrops)])], []⟩) (mo := []) (mr := []) (by kernel_rfl) (by kernel_rfl) (by kernel_rfl) (by kernel_rfl)) ?_
        refine Wp.ret ?_
        refine thenR ?_
        have hr := Option.some.inj h
        subst hr
        exact RetK [.t (.bool false)] (.one (.t (.bool false))) [] (by kernel_rfl) (by kernel_rfl) (.refl _) .nil
      · have h := cond_f h hc
        refine Wp.skip ?_
        refine thenN ?_
        refine Wp.seq ?_
        refine Wp.seq ?_
        refine Wp.regionS (pOf []) (rhoOf []) (by kernel_rfl) ?_
        refine Runs.batch 4 (by kernel_rfl) ?_
        obtain ⟨r1, e_r1, h⟩ := bind_some h
        refine Runs.callK false 24 158 [] [.agg [.t (.int .i64 p0.fMan.fGen), .t (.int .i64 p0.fMan.fSize), .t (.int .i64 p0.fMan.fLen), .t (.sl 2 (p0.fMan.fSums.map Sum.enc))], .agg [.t (.int .i64 p1.fMan.fGen), .t (.int .i64 p1.fMan.fSize), .t (.int .i64 p1.fMan.fLen), .t (.sl 2 (p1.fMan.fSums.map Sum.enc))]] [.agg [.t (.int .i64 p0.fMan.fGen), .t (.int .i64 p0.fMan.fSize), .t (.int .i64 p0.fMan.fLen), .t (.sl 2 (p0.fMan.fSums.map Sum.enc))], .agg [.t (.int .i64 p1.fMan.fGen), .t (.int .i64 p1.fMan.fSize), .t (.int .i64 p1.fMan.fLen), .t (.sl 2 (p1.fMan.fSums.map Sum.enc))]] (.one (.t (.bool r1))) [] rfl rfl (by kernel_rfl) (by kernel_rfl) (by kernel_rfl) (by kernel_rfl) (by kernel_rfl) (laws_eqManifest_ok u p0.fMan p1.fMan r1 e_r1) (by kernel_rfl) ?_
        refine Runs.all (by kernel_rfl) ?_
        refine thenN ?_
        refine Wp.le (Le.of (s := ⟨[(2, .obj 2 0), (3, .obj 3 0), (4, .t (.bool false)), (25, .t (.bool (!r1)))], [(2, [.t (.bool p0.fOn), .t (.int .i64 p0.fBoss), .t (.int .i64 p0.fQuiet), .t (.int .i64 p0.fMan.fGen), .t (.int .i64 p0.fMan.fSize), .t (.int .i64 p0.fMan.fLen), .t (.sl 2 (p0.fMan.fSums.map Sum.enc)), .t (.int .i64 p0.fBld.fHave), .t (.sl 1 (p0.fBld.fBuf.map (eInt .u8))), .t (.int .i64 p0.fPhase), .t (.sl 5 (p0.fKids.map Kid.enc)), .t (.int .i64 p0.fDrops)]), (3, [.t (.bool p1.fOn), .t (.int .i64 p1.fBoss), .t (.int .i64 p1.fQuiet), .t (.int .i64 p1.fMan.fGen), .t (.int .i64 p1.fMan.fSize), .t (.int .i64 p1.fMan.fLen), .t (.sl 2 (p1.fMan.fSums.map Sum.enc)), .t (.int .i64 p1.fBld.fHave), .t (.sl 1 (p1.fBld.fBuf.map (eInt .u8))), .t (.int .i64 p1.fPhase), .t (.sl 5 (p1.fKids.map Kid.enc)), .t (.int .i64 p1.fDrops)])], []⟩) (mo := []) (mr := []) (by kernel_rfl) (by kernel_rfl) (by kernel_rfl) (by kernel_rfl)) ?_
        refine Wp.cond2 (b := !r1) (by kernel_rfl) (fun hc => ?_) (fun hc => ?_)
        · have h := cond_t h hc
          refine Wp.seq ?_
          refine Wp.regionS (pOf []) (rhoOf []) (by kernel_rfl) ?_
          refine Runs.all (by kernel_rfl) ?_
          refine thenN ?_
          refine Wp.le (Le.of (s := ⟨[(2, .obj 2 0), (3, .obj 3 0), (4, .t (.bool false))], [(2, [.t (.bool p0.fOn), .t (.int .i64 p0.fBoss), .t (.int .i64 p0.fQuiet), .t (.int .i64 p0.fMan.fGen), .t (.int .i64 p0.fMan.fSize), .t (.int .i64 p0.fMan.fLen), .t (.sl 2 (p0.fMan.fSums.map Sum.enc)), .t (.int .i64 p0.fBld.fHave), .t (.sl 1 (p0.fBld.fBuf.map (eInt .u8))), .t (.int .i64 p0.fPhase), .t (.sl 5 (p0.fKids.map Kid.enc)), .t (.int .i64 p0.fDrops)]), (3, [.t (.bool p1.fOn), .t (.int .i64 p1.fBoss), .t (.int .i64 p1.fQuiet), .t (.int .i64 p1.fMan.fGen), .t (.int .i64 p1.fMan.fSize), .t (.int .i64 p1.fMan.fLen), .t (.sl 2 (p1.fMan.fSums.map Sum.enc)), .t (.int .i64 p1.fBld.fHave), .t (.sl 1 (p1.fBld.fBuf.map (eInt .u8))), .t (.int .i64 p1.fPhase), .t (.sl 5 (p1.fKids.map Kid.enc)), .t (.int .i64 p1.fDrops)])], []⟩) (mo := []) (mr := []) (by kernel_rfl) (by kernel_rfl) (by kernel_rfl) (by kernel_rfl)) ?_
          refine Wp.ret ?_
          refine thenR ?_
          have hr := Option.some.inj h
          subst hr
          exact RetK [.t (.bool false)] (.one (.t (.bool false))) [] (by kernel_rfl) (by kernel_rfl) (.refl _) .nil
        · have h := cond_f h hc
          refine Wp.skip ?_
          refine thenN ?_
          refine Wp.seq ?_
          refine Wp.seq ?_
          refine Wp.regionS (pOf []) (rhoOf []) (by kernel_rfl) ?_
          refine Runs.batch 4 (by kernel_rfl) ?_
          obtain ⟨r2, e_r2, h⟩ := bind_some h
          refine Runs.callK false 30 159 [] [.agg [.t (.int .i64 p0.fBld.fHave), .t (.sl 1 (p0.fBld.fBuf.map (eInt .u8)))], .agg [.t (.int .i64 p1.fBld.fHave), .t (.sl 1 (p1.fBld.fBuf.map (eInt .u8)))]] [.agg [.t (.int .i64 p0.fBld.fHave), .t (.sl 1 (p0.fBld.fBuf.map (eInt .u8)))], .agg [.t (.int .i64 p1.fBld.fHave), .t (.sl 1 (p1.fBld.fBuf.map (eInt .u8)))]] (.one (.t (.bool r2))) [] rfl rfl (by kernel_rfl) (by kernel_rfl) (by kernel_rfl) (by kernel_rfl) (by kernel_rfl) (laws_eqBuild_ok u p0.fBld p1.fBld r2 e_r2) (by kernel_rfl) ?_
          refine Runs.all (by kernel_rfl) ?_
          refine thenN ?_
          refine Wp.le (Le.of (s := ⟨[(2, .obj 2 0), (3, .obj 3 0), (4, .t (.bool false)), (31, .t (.bool (!r2)))], [(2, [.t (.bool p0.fOn), .t (.int .i64 p0.fBoss), .t (.int .i64 p0.fQuiet), .t (.int .i64 p0.fMan.fGen), .t (.int .i64 p0.fMan.fSize), .t (.int .i64 p0.fMan.fLen), .t (.sl 2 (p0.fMan.fSums.map Sum.enc)), .t (.int .i64 p0.fBld.fHave), .t (.sl 1 (p0.fBld.fBuf.map (eInt .u8))), .t (.int .i64 p0.fPhase), .t (.sl 5 (p0.fKids.map Kid.enc)), .t (.int .i64 p0.fDrops)]), (3, [.t (.bool p1.fOn), .t (.int .i64 p1.fBoss), .t (.int .i64 p1.fQuiet), .t (.int .i64 p1.fMan.fGen), .t (.int .i64 p1.fMan.fSize), .t (.int .i64 p1.fMan.fLen), .t (.sl 2 (p1.fMan.fSums.map Sum.enc)), .t (.int .i64 p1.fBld.fHave), .t (.sl 1 (p1.fBld.fBuf.map (eInt .u8))), .t (.int .i64 p1.fPhase), .t (.sl 5 (p1.fKids.map Kid.enc)), .t (.int .i64 p1.fDrops)])], []⟩) (mo := []) (mr := []) (by kernel_rfl) (by kernel_rfl) (by kernel_rfl) (by kernel_rfl)) ?_
          refine Wp.cond2 (b := !r2) (by kernel_rfl) (fun hc => ?_) (fun hc => ?_)
          · have h := cond_t h hc
            refine Wp.seq ?_
            refine Wp.regionS (pOf []) (rhoOf []) (by kernel_rfl) ?_
            refine Runs.all (by kernel_rfl) ?_
            refine thenN ?_
            refine Wp.le (Le.of (s := ⟨[(2, .obj 2 0), (3, .obj 3 0), (4, .t (.bool false))], [(2, [.t (.bool p0.fOn), .t (.int .i64 p0.fBoss), .t (.int .i64 p0.fQuiet), .t (.int .i64 p0.fMan.fGen), .t (.int .i64 p0.fMan.fSize), .t (.int .i64 p0.fMan.fLen), .t (.sl 2 (p0.fMan.fSums.map Sum.enc)), .t (.int .i64 p0.fBld.fHave), .t (.sl 1 (p0.fBld.fBuf.map (eInt .u8))), .t (.int .i64 p0.fPhase), .t (.sl 5 (p0.fKids.map Kid.enc)), .t (.int .i64 p0.fDrops)]), (3, [.t (.bool p1.fOn), .t (.int .i64 p1.fBoss), .t (.int .i64 p1.fQuiet), .t (.int .i64 p1.fMan.fGen), .t (.int .i64 p1.fMan.fSize), .t (.int .i64 p1.fMan.fLen), .t (.sl 2 (p1.fMan.fSums.map Sum.enc)), .t (.int .i64 p1.fBld.fHave), .t (.sl 1 (p1.fBld.fBuf.map (eInt .u8))), .t (.int .i64 p1.fPhase), .t (.sl 5 (p1.fKids.map Kid.enc)), .t (.int .i64 p1.fDrops)])], []⟩) (mo := []) (mr := []) (by kernel_rfl) (by kernel_rfl) (by kernel_rfl) (by kernel_rfl)) ?_
            refine Wp.ret ?_
            refine thenR ?_
            have hr := Option.some.inj h
            subst hr
            exact RetK [.t (.bool false)] (.one (.t (.bool false))) [] (by kernel_rfl) (by kernel_rfl) (.refl _) .nil
          · have h := cond_f h hc
            refine Wp.skip ?_
            refine thenN ?_
            refine Wp.seq ?_
            refine Wp.seq ?_
            refine Wp.regionS (pOf []) (rhoOf []) (by kernel_rfl) ?_
            refine Runs.all (by kernel_rfl) ?_
            refine thenN ?_
            refine Wp.le (Le.of (s := ⟨[(2, .obj 2 0), (3, .obj 3 0), (4, .t (.bool false)), (36, .t (.bool (p0.fPhase != p1.fPhase)))], [(2, [.t (.bool p0.fOn), .t (.int .i64 p0.fBoss), .t (.int .i64 p0.fQuiet), .t (.int .i64 p0.fMan.fGen), .t (.int .i64 p0.fMan.fSize), .t (.int .i64 p0.fMan.fLen), .t (.sl 2 (p0.fMan.fSums.map Sum.enc)), .t (.int .i64 p0.fBld.fHave), .t (.sl 1 (p0.fBld.fBuf.map (eInt .u8))), .t (.int .i64 p0.fPhase), .t (.sl 5 (p0.fKids.map Kid.enc)), .t (.int .i64 p0.fDrops)]), (3, [.t (.bool p1.fOn), .t (.int .i64 p1.fBoss), .t (.int .i64 p1.fQuiet), .t (.int .i64 p1.fMan.fGen), .t (.int .i64 p1.fMan.fSize), .t (.int .i64 p1.fMan.fLen), .t (.sl 2 (p1.fMan.fSums.map Sum.enc)), .t (.int .i64 p1.fBld.fHave), .t (.sl 1 (p1.fBld.fBuf.map (eInt .u8))), .t (.int .i64 p1.fPhase), .t (.sl 5 (p1.fKids.map Kid.enc)), .t (.int .i64 p1.fDrops)])], []⟩) (mo := []) (mr := []) (by kernel_rfl) (by kernel_rfl) (by kernel_rfl) (by kernel_rfl)) ?_
            refine Wp.cond2 (b := p0.fPhase != p1.fPhase) (by kernel_rfl) (fun hc => ?_) (fun hc => ?_)
            · have h := cond_t h hc
              refine Wp.seq ?_
              refine Wp.regionS (pOf []) (rhoOf []) (by kernel_rfl) ?_
              refine Runs.all (by kernel_rfl) ?_
              refine thenN ?_
              refine Wp.le (Le.of (s := ⟨[(2, .obj 2 0), (3, .obj 3 0), (4, .t (.bool false))], [(2, [.t (.bool p0.fOn), .t (.int .i64 p0.fBoss), .t (.int .i64 p0.fQuiet), .t (.int .i64 p0.fMan.fGen), .t (.int .i64 p0.fMan.fSize), .t (.int .i64 p0.fMan.fLen), .t (.sl 2 (p0.fMan.fSums.map Sum.enc)), .t (.int .i64 p0.fBld.fHave), .t (.sl 1 (p0.fBld.fBuf.map (eInt .u8))), .t (.int .i64 p0.fPhase), .t (.sl 5 (p0.fKids.map Kid.enc)), .t (.int .i64 p0.fDrops)]), (3, [.t (.bool p1.fOn), .t (.int .i64 p1.fBoss), .t (.int .i64 p1.fQuiet), .t (.int .i64 p1.fMan.fGen), .t (.int .i64 p1.fMan.fSize), .t (.int .i64 p1.fMan.fLen), .t (.sl 2 (p1.fMan.fSums.map Sum.enc)), .t (.int .i64 p1.fBld.fHave), .t (.sl 1 (p1.fBld.fBuf.map (eInt .u8))), .t (.int .i64 p1.fPhase), .t (.sl 5 (p1.fKids.map Kid.enc)), .t (.int .i64 p1.fDrops)])], []⟩) (mo := []) (mr := []) (by kernel_rfl) (by kernel_rfl) (by kernel_rfl) (by kernel_rfl)) ?_
              refine Wp.ret ?_
              refine thenR ?_
              have hr := Option.some.inj h
              subst hr
              exact RetK [.t (.bool false)] (.one (.t (.bool false))) [] (by kernel_rfl) (by kernel_rfl) (.refl _) .nil
            · have h := cond_f h hc
              refine Wp.skip ?_
              refine thenN ?_
              refine Wp.seq ?_
              refine Wp.seq ?_
              refine Wp.regionS (pOf []) (rhoOf []) (by kernel_rfl) ?_
              refine Runs.batch 4 (by kernel_rfl) ?_
              obtain ⟨r3, e_r3, h⟩ := bind_some h
              refine Runs.callK false 41 160 [] [.t (.sl 5 (p0.fKids.map Kid.enc)), .t (.sl 5 (p1.fKids.map Kid.enc))] [.one (.t (.sl 5 (p0.fKids.map Kid.enc))), .one (.t (.sl 5 (p1.fKids.map Kid.enc)))] (.one (.t (.bool r3))) [] rfl rfl (by kernel_rfl) (by kernel_rfl) (by kernel_rfl) (by kernel_rfl) (by kernel_rfl) (laws_eqKidS_ok u p0.fKids p1.fKids r3 e_r3) (by kernel_rfl) ?_
              refine Runs.all (by kernel_rfl) ?_
              refine thenN ?_
              refine Wp.le (Le.of (s := ⟨[(2, .obj 2 0), (3, .obj 3 0), (4, .t (.bool false)), (42, .t (.bool (!r3)))], [(2, [.t (.bool p0.fOn), .t (.int .i64 p0.fBoss), .t (.int .i64 p0.fQuiet), .t (.int .i64 p0.fMan.fGen), .t (.int .i64 p0.fMan.fSize), .t (.int .i64 p0.fMan.fLen), .t (.sl 2 (p0.fMan.fSums.map Sum.enc)), .t (.int .i64 p0.fBld.fHave), .t (.sl 1 (p0.fBld.fBuf.map (eInt .u8))), .t (.int .i64 p0.fPhase), .t (.sl 5 (p0.fKids.map Kid.enc)), .t (.int .i64 p0.fDrops)]), (3, [.t (.bool p1.fOn), .t (.int .i64 p1.fBoss), .t (.int .i64 p1.fQuiet), .t (.int .i64 p1.fMan.fGen), .t (.int .i64 p1.fMan.fSize), .t (.int .i64 p1.fMan.fLen), .t (.sl 2 (p1.fMan.fSums.map Sum.enc)), .t (.int .i64 p1.fBld.fHave), .t (.sl 1 (p1.fBld.fBuf.map (eInt .u8))), .t (.int .i64 p1.fPhase), .t (.sl 5 (p1.fKids.map Kid.enc)), .t (.int .i64 p1.fDrops)])], []⟩) (mo := []) (mr := []) (by kernel_rfl) (by kernel_rfl) (by kernel_rfl) (by kernel_rfl)) ?_
              refine Wp.cond2 (b := !r3) (by kernel_rfl) (fun hc => ?_) (fun hc => ?_)
              · have h := cond_t h hc
                refine Wp.seq ?_
                refine Wp.regionS (pOf []) (rhoOf []) (by kernel_rfl) ?_
                refine Runs.all (by kernel_rfl) ?_
                refine thenN ?_
                refine Wp.le (Le.of (s := ⟨[(2, .obj 2 0), (3, .obj 3 0), (4, .t (.bool false))], [(2, [.t (.bool p0.fOn), .t (.int .i64 p0.fBoss), .t (.int .i64 p0.fQuiet), .t (.int .i64 p0.fMan.fGen), .t (.int .i64 p0.fMan.fSize), .t (.int .i64 p0.fMan.fLen), .t (.sl 2 (p0.fMan.fSums.map Sum.enc)), .t (.int .i64 p0.fBld.fHave), .t (.sl 1 (p0.fBld.fBuf.map (eInt .u8))), .t (.int .i64 p0.fPhase), .t (.sl 5 (p0.fKids.map Kid.enc)), .t (.int .i64 p0.fDrops)]), (3, [.t (.bool p1.fOn), .t (.int .i64 p1.fBoss), .t (.int .i64 p1.fQuiet), .t (.int .i64 p1.fMan.fGen), .t (.int .i64 p1.fMan.fSize), .t (.int .i64 p1.fMan.fLen), .t (.sl 2 (p1.fMan.fSums.map Sum.enc)), .t (.int .i64 p1.fBld.fHave), .t (.sl 1 (p1.fBld.fBuf.map (eInt .u8))), .t (.int .i64 p1.fPhase), .t (.sl 5 (p1.fKids.map Kid.enc)), .t (.int .i64 p1.fDrops)])], []⟩) (mo := []) (mr := []) (by kernel_rfl) (by kernel_rfl) (by kernel_rfl) (by kernel_rfl)) ?_
                refine Wp.ret ?_
                refine thenR ?_
                have hr := Option.some.inj h
                subst hr
                exact RetK [.t (.bool false)] (.one (.t (.bool false))) [] (by kernel_rfl) (by kernel_rfl) (.refl _) .nil
              · have h := cond_f h hc
                refine Wp.skip ?_
                refine thenN ?_
                refine Wp.seq ?_
                refine Wp.seq ?_
                refine Wp.regionS (pOf []) (rhoOf []) (by kernel_rfl) ?_
                refine Runs.all (by kernel_rfl) ?_
                refine thenN ?_
                refine Wp.le (Le.of (s := ⟨[(4, .t (.bool false)), (47, .t (.bool (p0.fDrops != p1.fDrops)))], [], []⟩) (mo := []) (mr := []) (by kernel_rfl) (by kernel_rfl) (by kernel_rfl) (by kernel_rfl)) ?_
                refine Wp.cond2 (b := p0.fDrops != p1.fDrops) (by kernel_rfl) (fun hc => ?_) (fun hc => ?_)
                · have h := cond_t h hc
                  refine Wp.seq ?_
                  refine Wp.regionS (pOf []) (rhoOf []) (by kernel_rfl) ?_
                  refine Runs.all (by kernel_rfl) ?_
                  refine thenN ?_
                  refine Wp.le (Le.of (s := ⟨[(4, .t (.bool false))], [], []⟩) (mo := []) (mr := []) (by kernel_rfl) (by kernel_rfl) (by kernel_rfl) (by kernel_rfl)) ?_
                  refine Wp.ret ?_
                  refine thenR ?_
                  have hr := Option.some.inj h
                  subst hr
                  exact RetK [.t (.bool false)] (.one (.t (.bool false))) [] (by kernel_rfl) (by kernel_rfl) (.refl _) .nil
                · have h := cond_f h hc
                  refine Wp.skip ?_
                  refine thenN ?_
                  refine Wp.seq ?_
                  refine Wp.regionS (pOf []) (rhoOf []) (by kernel_rfl) ?_
                  refine Runs.all (by kernel_rfl) ?_
                  refine thenN ?_
                  refine Wp.le (Le.of (s := ⟨[(4, .t (.bool true))], [], []⟩) (mo := []) (mr := []) (by kernel_rfl) (by kernel_rfl) (by kernel_rfl) (by kernel_rfl)) ?_
                  refine Wp.ret ?_
                  have hr := Option.some.inj h
                  subst hr
                  exact RetK [.t (.bool true)] (.one (.t (.bool true))) [] (by kernel_rfl) (by kernel_rfl) (.refl _) .nil
theorem laws_eqNodeS_ok (u : Nat) (p0 : List Node) (p1 : List Node) (r : Bool) (h : laws_eqNodeS u p0 p1 = some r) : CallOK Try.prog 67 [.one (.t (.sl 12 (p0.map Node.enc))), .one (.t (.sl 12 (p1.map Node.enc)))] (.one (.t (.bool r))) [] := by
  unfold laws_eqNodeS at h
  refine CallOK.of_bodyK (fn := Try.f67) (m := false) [.t (.sl 12 (p0.map Node.enc)), .t (.sl 12 (p1.map Node.enc))] (by kernel_rfl) rfl (by kernel_rfl) (by kernel_rfl) (by kernel_rfl) (by kernel_rfl) (by kernel_rfl) ?_
  refine Wp.seq ?_
  refine Wp.regionS (pOf []) (rhoOf []) (by kernel_rfl) ?_
  refine Runs.all (by kernel_rfl) ?_
  refine thenN ?_
  refine Wp.le (Le.of (s := ⟨[(0, .t (.sl 12 (p0.map Node.enc))), (1, .t (.sl 12 (p1.map Node.enc))), (4, .t (.bool false))], [], []⟩) (mo := []) (mr := []) (by kernel_rfl) (by kernel_rfl) (by kernel_rfl) (by kernel_rfl)) ?_
  refine Wp.seq ?_
  refine Wp.seq ?_
  refine Wp.regionS (pOf []) (rhoOf []) (by kernel_rfl) ?_
  refine Runs.batch 1 (by kernel_rfl) ?_
  refine Runs.lenT (y := .t (.sl 12 (p0.map Node.enc))) (e := 114) Node.enc p0 12 rfl rfl rfl (by kernel_rfl) (by kernel_rfl) (by kernel_rfl) (by kernel_rfl) (by kernel_rfl) ?_
  refine Runs.batch 1 (by kernel_rfl) ?_
  refine Runs.lenT (y := .t (.sl 12 (p1.map Node.enc))) (e := 114) Node.enc p1 12 rfl rfl rfl (by kernel_rfl) (by kernel_rfl) (by kernel_rfl) (by kernel_rfl) (by kernel_rfl) ?_
  refine Runs.all (by kernel_rfl) ?_
  refine thenN ?_
  refine Wp.le (Le.of (s := ⟨[(0, .t (.sl 12 (p0.map Node.enc))), (1, .t (.sl 12 (p1.map Node.enc))), (4, .t (.bool false)), (10, .t (.bool (((p0.length : Int)) != ((p1.length : Int)))))], [], []⟩) (mo := []) (mr := []) (by kernel_rfl) (by kernel_rfl) (by kernel_rfl) (by kernel_rfl)) ?_
  refine Wp.cond2 (b := ((p0.length : Int)) != ((p1.length : Int))) (by kernel_rfl) (fun hc => ?_) (fun hc => ?_)
  · have h := cond_t h hc
    refine Wp.seq ?_
    refine Wp.regionS (pOf []) (rhoOf []) (by kernel_rfl) ?_
    refine Runs.all (by kernel_rfl) ?_
    refine thenN ?_
    refine Wp.le (Le.of (s := ⟨[(0, .t (.sl 12 (p0.map Node.enc))), (1, .t (.sl 12 (p1.map Node.enc))), (4, .t (.bool false))], [], []⟩) (mo := []) (mr := []) (by kernel_rfl) (by kernel_rfl) (by kernel_rfl) (by kernel_rfl)) ?_
    refine Wp.ret ?_
    refine thenR ?_
    have hr := Option.some.inj h
    subst hr
    exact RetK [.t (.bool false)] (.one (.t (.bool false))) [] (by kernel_rfl) (by kernel_rfl) (.refl _) .nil
  · have h := cond_f h hc
    refine Wp.skip ?_
    refine thenN ?_
    refine Wp.seqJ (α := Unit) (fun a => ⟨[(4, .t (.bool false))], [], []⟩) (fun a => laws_eqNodeS_j1 u = some r) ?_ ?_
    · rintro ⟨⟩ h
      change laws_eqNodeS_j1 u = some r at h
      unfold laws_eqNodeS_j1 at h
      refine Wp.seq ?_
      refine Wp.regionS (pOf []) (rhoOf []) (by kernel_rfl) ?_
      refine Runs.all (by kernel_rfl) ?_
      refine thenN ?_
      refine Wp.le (Le.of (s := ⟨[(4, .t (.bool true))], [], []⟩) (mo := []) (mr := []) (by kernel_rfl) (by kernel_rfl) (by kernel_rfl) (by kernel_rfl)) ?_
      refine Wp.ret ?_
      have hr := Option.some.inj h
      subst hr
      exact RetK [.t (.bool true)] (.one (.t (.bool true))) [] (by kernel_rfl) (by kernel_rfl) (.refl _) .nil
    · refine Wp.seq ?_
      refine Wp.regionS (pOf []) (rhoOf []) (by kernel_rfl) ?_
      refine Runs.all (by kernel_rfl) ?_
      refine thenN ?_
      refine Wp.le (Le.of (s := ⟨[(0, .t (.sl 12 (p0.map Node.enc))), (1, .t (.sl 12 (p1.map Node.enc))), (4, .t (.bool false)), (5, .t (.int .i64 0))], [], []⟩) (mo := []) (mr := []) (by kernel_rfl) (by kernel_rfl) (by kernel_rfl) (by kernel_rfl)) ?_
      refine Wp.block ?_
      refine Wp.loopF (α := (List Node) × (List Node) × Int) (fun a => ⟨[(0, .t (.sl 12 (a.1.map Node.enc))), (1, .t (.sl 12 (a.2.1.map Node.enc))), (4, .t (.bool false)), (5, .t (.int .i64 a.2.2))], [], []⟩) (fun k_laws_eqNodeS_l2 a => laws_eqNodeS_l2 u k_laws_eqNodeS_l2 a.1 a.2.1 a.2.2 = some r) ?_ ?_ u (p0, p1, 0) h (Le.of (mo := []) (mr := []) (by kernel_rfl) (by kernel_rfl) (by kernel_rfl) (by kernel_rfl))
      · intro a h; unfold laws_eqNodeS_l2 at h; cases h
      · rintro k_laws_eqNodeS_l2 ⟨p0, p1, x2⟩ h
        change laws_eqNodeS_l2 u (k_laws_eqNodeS_l2 + 1) p0 p1 x2 = some r at h
        rw [laws_eqNodeS_l2] at h
        refine Wp.seq ?_
        refine Wp.seq ?_
        refine Wp.regionS (pOf []) (rhoOf []) (by kernel_rfl) ?_
        refine Runs.batch 2 (by kernel_rfl) ?_
        refine Runs.lenT (y := .t (.sl 12 (p0.map Node.enc))) (e := 114) Node.enc p0 12 rfl rfl rfl (by kernel_rfl) (by kernel_rfl) (by kernel_rfl) (by kernel_rfl) (by kernel_rfl) ?_
        refine Runs.all (by kernel_rfl) ?_
        refine thenN ?_
        refine Wp.le (Le.of (s := ⟨[(0, .t (.sl 12 (p0.map Node.enc))), (1, .t (.sl 12 (p1.map Node.enc))), (4, .t (.bool false)), (5, .t (.int .i64 x2)), (11, .t (.int .i64 x2)), (12, .t (.sl 12 (p0.map Node.enc))), (13, .t (.int .i64 ((p0.length : Int)))), (14, .t (.bool (decide (x2 < ((p0.length : Int))))))], [], []⟩) (mo := []) (mr := []) (by kernel_rfl) (by kernel_rfl) (by kernel_rfl) (by kernel_rfl)) ?_
        refine Wp.cond2 (b := decide (x2 < ((p0.length : Int)))) (by kernel_rfl) (fun hc => ?_) (fun hc => ?_)
        · have h := cond_t h hc
          refine Wp.skip ?_
          refine thenN ?_
          refine Wp.seq ?_
          refine Wp.block ?_
          refine Wp.seq ?_
          refine Wp.regionA (pOf []) (rhoOf [(0, .frz), (1, .frz), (5, .frz), (17, .frz), (18, .frz), (19, .frz), (20, .frz), (21, .frz), (22, .frz), (23, .frz), (24, .frz), (25, .frz)]) (by kernel_rfl) (by kernel_rfl) ?_
          refine Runs.batch 2 (by kernel_rfl) ?_
          obtain ⟨y4, e_y4, h⟩ := bind_some h
          refine Runs.idxT (e := 114) (kk := .i64) (sz := 12) Node.enc p0 x2 rfl (by kernel_rfl) (by kernel_rfl) (by kernel_rfl) (by kernel_rfl) (by kernel_rfl) (by kernel_rfl) e_y4 ?_
          refine Runs.batch 3 (by kernel_rfl) ?_
          obtain ⟨y5, e_y5, h⟩ := bind_some h
          refine Runs.idxT (e := 114) (kk := .i64) (sz := 12) Node.enc p1 x2 rfl (by kernel_rfl) (by kernel_rfl) (by kernel_rfl) (by kernel_rfl) (by kernel_rfl) (by kernel_rfl) e_y5 ?_
          refine Runs.batch 1 (by kernel_rfl) ?_
          obtain ⟨r6, e_r6, h⟩ := bind_some h
          refine Runs.callK false 25 117 [] [.agg [.t (.bool y4.fOn), .t (.int .i64 y4.fBoss), .t (.int .i64 y4.fQuiet), .t (.int .i64 y4.fMan.fGen), .t (.int .i64 y4.fMan.fSize), .t (.int .i64 y4.fMan.fLen), .t (.sl 2 (y4.fMan.fSums.map Sum.enc)), .t (.int .i64 y4.fBld.fHave), .t (.sl 1 (y4.fBld.fBuf.map (eInt .u8))), .t (.int .i64 y4.fPhase), .t (.sl 5 (y4.fKids.map Kid.enc)), .t (.int .i64 y4.fDrops)], .agg [.t (.bool y5.fOn), .t (.int .i64 y5.fBoss), .t (.int .i64 y5.fQuiet), .t (.int .i64 y5.fMan.fGen), .t (.int .i64 y5.fMan.fSize), .t (.int .i64 y5.fMan.fLen), .t (.sl 2 (y5.fMan.fSums.map Sum.enc)), .t (.int .i64 y5.fBld.fHave), .t (.sl 1 (y5.fBld.fBuf.map (eInt .u8))), .t (.int .i64 y5.fPhase), .t (.sl 5 (y5.fKids.map Kid.enc)), .t (.int .i64 y5.fDrops)]] [.agg [.t (.bool y4.fOn), .t (.int .i64 y4.fBoss), .t (.int .i64 y4.fQuiet), .t (.int .i64 y4.fMan.fGen), .t (.int .i64 y4.fMan.fSize), .t (.int .i64 y4.fMan.fLen), .t (.sl 2 (y4.fMan.fSums.map Sum.enc)), .t (.int .i64 y4.fBld.fHave), .t (.sl 1 (y4.fBld.fBuf.map (eInt .u8))), .t (.int .i64 y4.fPhase), .t (.sl 5 (y4.fKids.map Kid.enc)), .t (.int .i64 y4.fDrops)], .agg [.t (.bool y5.fOn), .t (.int .i64 y5.fBoss), .t (.int .i64 y5.fQuiet), .t (.int .i64 y5.fMan.fGen), .t (.int .i64 y5.fMan.fSize), .t (.int .i64 y5.fMan.fLen), .t (.sl 2 (y5.fMan.fSums.map Sum.enc)), .t (.int .i64 y5.fBld.fHave), .t (.sl 1 (y5.fBld.fBuf.map (eInt .u8))), .t (.int .i64 y5.fPhase), .t (.sl 5 (y5.fKids.map Kid.enc)), .t (.int .i64 y5.fDrops)]] (.one (.t (.bool r6))) [] rfl rfl (by kernel_rfl) (by kernel_rfl) (by kernel_rfl) (by kernel_rfl) (by kernel_rfl) (laws_eqNode_ok u y4 y5 r6 e_r6) (by kernel_rfl) ?_
          refine Runs.all (by kernel_rfl) ?_
          refine thenN ?_
          refine Wp.le (Le.of (s := ⟨[(0, .t (.sl 12 (p0.map Node.enc))), (1, .t (.sl 12 (p1.map Node.enc))), (4, .t (.bool false)), (5, .t (.int .i64 x2)), (11, .t (.int .i64 x2)), (12, .t (.sl 12 (p0.map Node.enc))), (13, .t (.int .i64 ((p0.length : Int)))), (14, .t (.bool (decide (x2 < ((p0.length : Int)))))), (17, .t (.sl 12 (p0.map Node.enc))), (18, .t (.int .i64 x2)), (19, .fadr [.bool y4.fOn, .int .i64 y4.fBoss, .int .i64 y4.fQuiet, .int .i64 y4.fMan.fGen, .int .i64 y4.fMan.fSize, .int .i64 y4.fMan.fLen, .sl 2 (y4.fMan.fSums.map Sum.enc), .int .i64 y4.fBld.fHave, .sl 1 (y4.fBld.fBuf.map (eInt .u8)), .int .i64 y4.fPhase, .sl 5 (y4.fKids.map Kid.enc), .int .i64 y4.fDrops]), (20, .agg [.t (.bool y4.fOn), .t (.int .i64 y4.fBoss), .t (.int .i64 y4.fQuiet), .t (.int .i64 y4.fMan.fGen), .t (.int .i64 y4.fMan.fSize), .t (.int .i64 y4.fMan.fLen), .t (.sl 2 (y4.fMan.fSums.map Sum.enc)), .t (.int .i64 y4.fBld.fHave), .t (.sl 1 (y4.fBld.fBuf.map (eInt .u8))), .t (.int .i64 y4.fPhase), .t (.sl 5 (y4.fKids.map Kid.enc)), .t (.int .i64 y4.fDrops)]), (21, .t (.sl 12 (p1.map Node.enc))), (22, .t (.int .i64 x2)), (23, .fadr [.bool y5.fOn, .int .i64 y5.fBoss, .int .i64 y5.fQuiet, .int .i64 y5.fMan.fGen, .int .i64 y5.fMan.fSize, .int .i64 y5.fMan.fLen, .sl 2 (y5.fMan.fSums.map Sum.enc), .int .i64 y5.fBld.fHave, .sl 1 (y5.fBld.fBuf.map (eInt .u8)), .int .i64 y5.fPhase, .sl 5 (y5.fKids.map Kid.enc), .int .i64 y5.fDrops]), (24, .agg [.t (.bool y5.fOn), .t (.int .i64 y5.fBoss), .t (.int .i64 y5.fQuiet), .t (.int .i64 y5.fMan.fGen), .t (.int .i64 y5.fMan.fSize), .t (.int .i64 y5.fMan.fLen), .t (.sl 2 (y5.fMan.fSums.map Sum.enc)), .t (.int .i64 y5.fBld.fHave), .t (.sl 1 (y5.fBld.fBuf.map (eInt .u8))), .t (.int .i64 y5.fPhase), .t (.sl 5 (y5.fKids.map Kid.enc)), .t (.int .i64 y5.fDrops)]), (25, .t (.bool r6)), (26, .t (.bool (!r6)))], [], []⟩) (mo := []) (mr := []) (by kernel_rfl) (by kernel_rfl) (by kernel_rfl) (by kernel_rfl)) ?_
          refine Wp.cond2 (b := !r6) (by kernel_rfl) (fun hc => ?_) (fun hc => ?_)
          · have h := cond_t h hc
            refine Wp.seq ?_
            refine Wp.regionS (pOf []) (rhoOf []) (by kernel_rfl) ?_
            refine Runs.all (by kernel_rfl) ?_
            refine thenN ?_
            refine Wp.le (Le.of (s := ⟨[(0, .t (.sl 12 (p0.map Node.enc))), (1, .t (.sl 12 (p1.map Node.enc))), (4, .t (.bool false)), (5, .t (.int .i64 x2)), (11, .t (.int .i64 x2)), (12, .t (.sl 12 (p0.map Node.enc))), (13, .t (.int .i64 ((p0.length : Int)))), (14, .t (.bool (decide (x2 < ((p0.length : Int)))))), (17, .t (.sl 12 (p0.map Node.enc))), (18, .t (.int .i64 x2)), (19, .fadr [.bool y4.fOn, .int .i64 y4.fBoss, .int .i64 y4.fQuiet, .int .i64 y4.fMan.fGen, .int .i64 y4.fMan.fSize, .int .i64 y4.fMan.fLen, .sl 2 (y4.fMan.fSums.map Sum.enc), .int .i64 y4.fBld.fHave, .sl 1 (y4.fBld.fBuf.map (eInt .u8)), .int .i64 y4.fPhase, .sl 5 (y4.fKids.map Kid.enc), .int .i64 y4.fDrops]), (20, .agg [.t (.bool y4.fOn), .t (.int .i64 y4.fBoss), .t (.int .i64 y4.fQuiet), .t (.int .i64 y4.fMan.fGen), .t (.int .i64 y4.fMan.fSize), .t (.int .i64 y4.fMan.fLen), .t (.sl 2 (y4.fMan.fSums.map Sum.enc)), .t (.int .i64 y4.fBld.fHave), .t (.sl 1 (y4.fBld.fBuf.map (eInt .u8))), .t (.int .i64 y4.fPhase), .t (.sl 5 (y4.fKids.map Kid.enc)), .t (.int .i64 y4.fDrops)]), (21, .t (.sl 12 (p1.map Node.enc))), (22, .t (.int .i64 x2)), (23, .fadr [.bool y5.fOn, .int .i64 y5.fBoss, .int .i64 y5.fQuiet, .int .i64 y5.fMan.fGen, .int .i64 y5.fMan.fSize, .int .i64 y5.fMan.fLen, .sl 2 (y5.fMan.fSums.map Sum.enc), .int .i64 y5.fBld.fHave, .sl 1 (y5.fBld.fBuf.map (eInt .u8)), .int .i64 y5.fPhase, .sl 5 (y5.fKids.map Kid.enc), .int .i64 y5.fDrops]), (24, .agg [.t (.bool y5.fOn), .t (.int .i64 y5.fBoss), .t (.int .i64 y5.fQuiet), .t (.int .i64 y5.fMan.fGen), .t (.int .i64 y5.fMan.fSize), .t (.int .i64 y5.fMan.fLen), .t (.sl 2 (y5.fMan.fSums.map Sum.enc)), .t (.int .i64 y5.fBld.fHave), .t (.sl 1 (y5.fBld.fBuf.map (eInt .u8))), .t (.int .i64 y5.fPhase), .t (.sl 5 (y5.fKids.map Kid.enc)), .t (.int .i64 y5.fDrops)]), (25, .t (.bool r6)), (26, .t (.bool (!r6)))], [], []⟩) (mo := []) (mr := []) (by kernel_rfl) (by kernel_rfl) (by kernel_rfl) (by kernel_rfl)) ?_
            refine Wp.ret ?_
            refine blkR ?_
            refine thenR ?_
            refine thenR ?_
            refine blkR ?_
            refine thenR ?_
            have hr := Option.some.inj h
            subst hr
            exact RetK [.t (.bool false)] (.one (.t (.bool false))) [] (by kernel_rfl) (by kernel_rfl) (.refl _) .nil
          · have h := cond_f h hc
            refine Wp.skip ?_
            refine blkN ?_
            refine thenN ?_
            refine Wp.regionS (pOf []) (rhoOf []) (by kernel_rfl) ?_
            refine Runs.all (by kernel_rfl) ?_
            refine thenN ?_
            exact ⟨(p0, p1, bAdd .i64 x2 1), h, Le.of (mo := []) (mr := []) (by kernel_rfl) (by kernel_rfl) (by kernel_rfl) (by kernel_rfl)⟩
        · have h := cond_f h hc
          refine Wp.exit ?_
          refine thenE ?_
          refine thenE ?_
          refine blkE ?_
          refine thenN ?_
          exact ⟨(), h, Le.of (mo := []) (mr := []) (by kernel_rfl) (by kernel_rfl) (by kernel_rfl) (by kernel_rfl)⟩
theorem laws_eqRecord_ok (u : Nat) (p0 : Record) (p1 : Record) (r : Bool) (h : laws_eqRecord u p0 p1 = some r) : CallOK Try.prog 161 [.agg [.t (.int .i64 p0.fGen), .t (.int .i64 p0.fSlot), .t (.int .i64 p0.fLen)], .agg [.t (.int .i64 p1.fGen), .t (.int .i64 p1.fSlot), .t (.int .i64 p1.fLen)]] (.one (.t (.bool r))) [] := by
  unfold laws_eqRecord at h
  refine CallOK.of_bodyK (fn := Try.f161) (m := false) [.agg [.t (.int .i64 p0.fGen), .t (.int .i64 p0.fSlot), .t (.int .i64 p0.fLen)], .agg [.t (.int .i64 p1.fGen), .t (.int .i64 p1.fSlot), .t (.int .i64 p1.fLen)]] (by kernel_rfl) rfl (by kernel_rfl) (by kernel_rfl) (by kernel_rfl) (by kernel_rfl) (by kernel_rfl) ?_
  refine Wp.seq ?_
  refine Wp.regionS (pOf []) (rhoOf []) (by kernel_rfl) ?_
  refine Runs.all (by kernel_rfl) ?_
  refine thenN ?_
  refine Wp.le (Le.of (s := ⟨[(2, .obj 2 0), (3, .obj 3 0), (4, .t (.bool false))], [(2, [.t (.int .i64 p0.fGen), .t (.int .i64 p0.fSlot), .t (.int .i64 p0.fLen)]), (3, [.t (.int .i64 p1.fGen), .t (.int .i64 p1.fSlot), .t (.int .i64 p1.fLen)])], []⟩) (mo := []) (mr := []) (by kernel_rfl) (by kernel_rfl) (by kernel_rfl) (by kernel_rfl)) ?_
  refine Wp.seq ?_
  refine Wp.seq ?_
  refine Wp.regionS (pOf []) (rhoOf []) (by kernel_rfl) ?_
  refine Runs.all (by kernel_rfl) ?_
  refine thenN ?_
  refine Wp.le (Le.of (s := ⟨[(2, .obj 2 0), (3, .obj 3 0), (4, .t (.bool false)), (9, .t (.bool (p0.fGen != p1.fGen)))], [(2, [.t (.int .i64 p0.fGen), .t (.int .i64 p0.fSlot), .t (.int .i64 p0.fLen)]), (3, [.t (.int .i64 p1.fGen), .t (.int .i64 p1.fSlot), .t (.int .i64 p1.fLen)])], []⟩) (mo := []) (mr := []) (by kernel_rfl) (by kernel_rfl) (by kernel_rfl) (by kernel_rfl)) ?_
  refine Wp.cond2 (b := p0.fGen != p1.fGen) (by kernel_rfl) (fun hc => ?_) (fun hc => ?_)
  · have h := cond_t h hc
    refine Wp.seq ?_
    refine Wp.regionS (pOf []) (rhoOf []) (by kernel_rfl) ?_
    refine Runs.all (by kernel_rfl) ?_
    refine thenN ?_
    refine Wp.le (Le.of (s := ⟨[(2, .obj 2 0), (3, .obj 3 0), (4, .t (.bool false))], [(2, [.t (.int .i64 p0.fGen), .t (.int .i64 p0.fSlot), .t (.int .i64 p0.fLen)]), (3, [.t (.int .i64 p1.fGen), .t (.int .i64 p1.fSlot), .t (.int .i64 p1.fLen)])], []⟩) (mo := []) (mr := []) (by kernel_rfl) (by kernel_rfl) (by kernel_rfl) (by kernel_rfl)) ?_
    refine Wp.ret ?_
    refine thenR ?_
    have hr := Option.some.inj h
    subst hr
    exact RetK [.t (.bool false)] (.one (.t (.bool false))) [] (by kernel_rfl) (by kernel_rfl) (.refl _) .nil
  · have h := cond_f h hc
    refine Wp.skip ?_
    refine thenN ?_
    refine Wp.seq ?_
    refine Wp.seq ?_
    refine Wp.regionS (pOf []) (rhoOf []) (by kernel_rfl) ?_
    refine Runs.all (by kernel_rfl) ?_
    refine thenN ?_
    refine Wp.le (Le.of (s := ⟨[(2, .obj 2 0), (3, .obj 3 0), (4, .t (.bool false)), (14, .t (.bool (p0.fSlot != p1.fSlot)))], [(2, [.t (.int .i64 p0.fGen), .t (.int .i64 p0.fSlot), .t (.int .i64 p0.fLen)]), (3, [.t (.int .i64 p1.fGen), .t (.int .i64 p1.fSlot), .t (.int .i64 p1.fLen)])], []⟩) (mo := []) (mr := []) (by kernel_rfl) (by kernel_rfl) (by kernel_rfl) (by kernel_rfl)) ?_
    refine Wp.cond2 (b := p0.fSlot != p1.fSlot) (by kernel_rfl) (fun hc => ?_) (fun hc => ?_)
    · have h := cond_t h hc
      refine Wp.seq ?_
      refine Wp.regionS (pOf []) (rhoOf []) (by kernel_rfl) ?_
      refine Runs.all (by kernel_rfl) ?_
      refine thenN ?_
      refine Wp.le (Le.of (s := ⟨[(2, .obj 2 0), (3, .obj 3 0), (4, .t (.bool false))], [(2, [.t (.int .i64 p0.fGen), .t (.int .i64 p0.fSlot), .t (.int .i64 p0.fLen)]), (3, [.t (.int .i64 p1.fGen), .t (.int .i64 p1.fSlot), .t (.int .i64 p1.fLen)])], []⟩) (mo := []) (mr := []) (by kernel_rfl) (by kernel_rfl) (by kernel_rfl) (by kernel_rfl)) ?_
      refine Wp.ret ?_
      refine thenR ?_
      have hr := Option.some.inj h
      subst hr
      exact RetK [.t (.bool false)] (.one (.t (.bool false))) [] (by kernel_rfl) (by kernel_rfl) (.refl _) .nil
    · have h := cond_f h hc
      refine Wp.skip ?_
      refine thenN ?_
      refine Wp.seq ?_
      refine Wp.seq ?_
      refine Wp.regionS (pOf []) (rhoOf []) (by kernel_rfl) ?_
      refine Runs.all (by kernel_rfl) ?_
      refine thenN ?_
      refine Wp.le (Le.of (s := ⟨[(4, .t (.bool false)), (19, .t (.bool (p0.fLen != p1.fLen)))], [], []⟩) (mo := []) (mr := []) (by kernel_rfl) (by kernel_rfl) (by kernel_rfl) (by kernel_rfl)) ?_
      refine Wp.cond2 (b := p0.fLen != p1.fLen) (by kernel_rfl) (fun hc => ?_) (fun hc => ?_)
      · have h := cond_t h hc
        refine Wp.seq ?_
        refine Wp.regionS (pOf []) (rhoOf []) (by kernel_rfl) ?_
        refine Runs.all (by kernel_rfl) ?_
        refine thenN ?_
        refine Wp.le (Le.of (s := ⟨[(4, .t (.bool false))], [], []⟩) (mo := []) (mr := []) (by kernel_rfl) (by kernel_rfl) (by kernel_rfl) (by kernel_rfl)) ?_
        refine Wp.ret ?_
        refine thenR ?_
        have hr := Option.some.inj h
        subst hr
        exact RetK [.t (.bool false)] (.one (.t (.bool false))) [] (by kernel_rfl) (by kernel_rfl) (.refl _) .nil
      · have h := cond_f h hc
        refine Wp.skip ?_
        refine thenN ?_
        refine Wp.seq ?_
        refine Wp.regionS (pOf []) (rhoOf []) (by kernel_rfl) ?_
        refine Runs.all (by kernel_rfl) ?_
        refine thenN ?_
        refine Wp.le (Le.of (s := ⟨[(4, .t (.bool true))], [], []⟩) (mo := []) (mr := []) (by kernel_rfl) (by kernel_rfl) (by kernel_rfl) (by kernel_rfl)) ?_
        refine Wp.ret ?_
        have hr := Option.some.inj h
        subst hr
        exact RetK [.t (.bool true)] (.one (.t (.bool true))) [] (by kernel_rfl) (by kernel_rfl) (.refl _) .nil
theorem laws_eqPut_ok (u : Nat) (p0 : Put) (p1 : Put) (r : Bool) (h : laws_eqPut u p0 p1 = some r) : CallOK Try.prog 188 [.agg [.t (.int .i64 p0.fWhat), .t (.int .i64 p0.fAt), .t (.sl 1 (p0.fB.map (eInt .u8))), .t (.int .i64 p0.fR.fGen), .t (.int .i64 p0.fR.fSlot), .t (.int .i64 p0.fR.fLen)], .agg [.t (.int .i64 p1.fWhat), .t (.int .i64 p1.fAt), .t (.sl 1 (p1.fB.map (eInt .u8))), .t (.int .i64 p1.fR.fGen), .t (.int .i64 p1.fR.fSlot), .t (.int .i64 p1.fR.fLen)]] (.one (.t (.bool r))) [] := by
  unfold laws_eqPut at h
  refine CallOK.of_bodyK (fn := Try.f188) (m := false) [.agg [.t (.int .i64 p0.fWhat), .t (.int .i64 p0.fAt), .t (.sl 1 (p0.fB.map (eInt .u8))), .t (.int .i64 p0.fR.fGen), .t (.int .i64 p0.fR.fSlot), .t (.int .i64 p0.fR.fLen)], .agg [.t (.int .i64 p1.fWhat), .t (.int .i64 p1.fAt), .t (.sl 1 (p1.fB.map (eInt .u8))), .t (.int .i64 p1.fR.fGen), .t (.int .i64 p1.fR.fSlot), .t (.int .i64 p1.fR.fLen)]] (by kernel_rfl) rfl (by kernel_rfl) (by kernel_rfl) (by kernel_rfl) (by kernel_rfl) (by kernel_rfl) ?_
  refine Wp.seq ?_
  refine Wp.regionS (pOf []) (rhoOf []) (by kernel_rfl) ?_
  refine Runs.all (by kernel_rfl) ?_
  refine thenN ?_
  refine Wp.le (Le.of (s := ⟨[(2, .obj 2 0), (3, .obj 3 0), (4, .t (.bool false))], [(2, [.t (.int .i64 p0.fWhat), .t (.int .i64 p0.fAt), .t (.sl 1 (p0.fB.map (eInt .u8))), .t (.int .i64 p0.fR.fGen), .t (.int .i64 p0.fR.fSlot), .t (.int .i64 p0.fR.fLen)]), (3, [.t (.int .i64 p1.fWhat), .t (.int .i64 p1.fAt), .t (.sl 1 (p1.fB.map (eInt .u8))), .t (.int .i64 p1.fR.fGen), .t (.int .i64 p1.fR.fSlot), .t (.int .i64 p1.fR.fLen)])], []⟩) (mo := []) (mr := []) (by kernel_rfl) (by kernel_rfl) (by kernel_rfl) (by kernel_rfl)) ?_
  refine Wp.seq ?_
  refine Wp.seq ?_
  refine Wp.regionS (pOf []) (rhoOf []) (by kernel_rfl) ?_
  refine Runs.all (by kernel_rfl) ?_
  refine thenN ?_
  refine Wp.le (Le.of (s := ⟨[(2, .obj 2 0), (3, .obj 3 0), (4, .t (.bool false)), (9, .t (.bool (p0.fWhat != p1.fWhat)))], [(2, [.t (.int .i64 p0.fWhat), .t (.int .i64 p0.fAt), .t (.sl 1 (p0.fB.map (eInt .u8))), .t (.int .i64 p0.fR.fGen), .t (.int .i64 p0.fR.fSlot), .t (.int .i64 p0.fR.fLen)]), (3, [.t (.int .i64 p1.fWhat), .t (.int .i64 p1.fAt), .t (.sl 1 (p1.fB.map (eInt .u8))), .t (.int .i64 p1.fR.fGen), .t (.int .i64 p1.fR.fSlot), .t (.int .i64 p1.fR.fLen)])], []⟩) (mo := []) (mr := []) (by kernel_rfl) (by kernel_rfl) (by kernel_rfl) (by kernel_rfl)) ?_
  refine Wp.cond2 (b := p0.fWhat != p1.fWhat) (by kernel_rfl) (fun hc => ?_) (fun hc => ?_)
  · have h := cond_t h hc
    refine Wp.seq ?_
    refine Wp.regionS (pOf []) (rhoOf []) (by kernel_rfl) ?_
    refine Runs.all (by kernel_rfl) ?_
    refine thenN ?_
    refine Wp.le (Le.of (s := ⟨[(2, .obj 2 0), (3, .obj 3 0), (4, .t (.bool false))], [(2, [.t (.int .i64 p0.fWhat), .t (.int .i64 p0.fAt), .t (.sl 1 (p0.fB.map (eInt .u8))), .t (.int .i64 p0.fR.fGen), .t (.int .i64 p0.fR.fSlot), .t (.int .i64 p0.fR.fLen)]), (3, [.t (.int .i64 p1.fWhat), .t (.int .i64 p1.fAt), .t (.sl 1 (p1.fB.map (eInt .u8))), .t (.int .i64 p1.fR.fGen), .t (.int .i64 p1.fR.fSlot), .t (.int .i64 p1.fR.fLen)])], []⟩) (mo := []) (mr := []) (by kernel_rfl) (by kernel_rfl) (by kernel_rfl) (by kernel_rfl)) ?_
    refine Wp.ret ?_
    refine thenR ?_
    have hr := Option.some.inj h
    subst hr
    exact RetK [.t (.bool false)] (.one (.t (.bool false))) [] (by kernel_rfl) (by kernel_rfl) (.refl _) .nil
  · have h := cond_f h hc
    refine Wp.skip ?_
    refine thenN ?_
    refine Wp.seq ?_
    refine Wp.seq ?_
    refine Wp.regionS (pOf []) (rhoOf []) (by kernel_rfl) ?_
    refine Runs.all (by kernel_rfl) ?_
    refine thenN ?_
    refine Wp.le (Le.of (s := ⟨[(2, .obj 2 0), (3, .obj 3 0), (4, .t (.bool false)), (14, .t (.bool (p0.fAt != p1.fAt)))], [(2, [.t (.int .i64 p0.fWhat), .t (.int .i64 p0.fAt), .t (.sl 1 (p0.fB.map (eInt .u8))), .t (.int .i64 p0.fR.fGen), .t (.int .i64 p0.fR.fSlot), .t (.int .i64 p0.fR.fLen)]), (3, [.t (.int .i64 p1.fWhat), .t (.int .i64 p1.fAt), .t (.sl 1 (p1.fB.map (eInt .u8))), .t (.int .i64 p1.fR.fGen), .t (.int .i64 p1.fR.fSlot), .t (.int .i64 p1.fR.fLen)])], []⟩) (mo := []) (mr := []) (by kernel_rfl) (by kernel_rfl) (by kernel_rfl) (by kernel_rfl)) ?_
    refine Wp.cond2 (b := p0.fAt != p1.fAt) (by kernel_rfl) (fun hc => ?_) (fun hc => ?_)
    · have h := cond_t h hc
      refine Wp.seq ?_
      refine Wp.regionS (pOf []) (rhoOf []) (by kernel_rfl) ?_
      refine Runs.all (by kernel_rfl) ?_
      refine thenN ?_
      refine Wp.le (Le.of (s := ⟨[(2, .obj 2 0), (3, .obj 3 0), (4, .t (.bool false))], [(2, [.t (.int .i64 p0.fWhat), .t (.int .i64 p0.fAt), .t (.sl 1 (p0.fB.map (eInt .u8))), .t (.int .i64 p0.fR.fGen), .t (.int .i64 p0.fR.fSlot), .t (.int .i64 p0.fR.fLen)]), (3, [.t (.int .i64 p1.fWhat), .t (.int .i64 p1.fAt), .t (.sl 1 (p1.fB.map (eInt .u8))), .t (.int .i64 p1.fR.fGen), .t (.int .i64 p1.fR.fSlot), .t (.int .i64 p1.fR.fLen)])], []⟩) (mo := []) (mr := []) (by kernel_rfl) (by kernel_rfl) (by kernel_rfl) (by kernel_rfl)) ?_
      refine Wp.ret ?_
      refine thenR ?_
      have hr := Option.some.inj h
      subst hr
      exact RetK [.t (.bool false)] (.one (.t (.bool false))) [] (by kernel_rfl) (by kernel_rfl) (.refl _) .nil
    · have h := cond_f h hc
      refine Wp.skip ?_
      refine thenN ?_
      refine Wp.seq ?_
      refine Wp.seq ?_
      refine Wp.regionS (pOf []) (rhoOf []) (by kernel_rfl) ?_
      refine Runs.batch 4 (by kernel_rfl) ?_
      obtain ⟨r1, e_r1, h⟩ := bind_some h
      refine Runs.callK false 19 16 [] [.t (.sl 1 (p0.fB.map (eInt .u8))), .t (.sl 1 (p1.fB.map (eInt .u8)))] [.one (.t (.sl 1 (p0.fB.map (eInt .u8)))), .one (.t (.sl 1 (p1.fB.map (eInt .u8))))] (.one (.t (.bool r1))) [] rfl rfl (by kernel_rfl) (by kernel_rfl) (by kernel_rfl) (by kernel_rfl) (by kernel_rfl) (laws_eqByteS_ok u p0.fB p1.fB r1 e_r1) (by kernel_rfl) ?_
      refine Runs.all (by kernel_rfl) ?_
      refine thenN ?_
      refine Wp.le (Le.of (s := ⟨[(2, .obj 2 0), (3, .obj 3 0), (4, .t (.bool false)), (20, .t (.bool (!r1)))], [(2, [.t (.int .i64 p0.fWhat), .t (.int .i64 p0.fAt), .t (.sl 1 (p0.fB.map (eInt .u8))), .t (.int .i64 p0.fR.fGen), .t (.int .i64 p0.fR.fSlot), .t (.int .i64 p0.fR.fLen)]), (3, [.t (.int .i64 p1.fWhat), .t (.int .i64 p1.fAt), .t (.sl 1 (p1.fB.map (eInt .u8))), .t (.int .i64 p1.fR.fGen), .t (.int .i64 p1.fR.fSlot), .t (.int .i64 p1.fR.fLen)])], []⟩) (mo := []) (mr := []) (by kernel_rfl) (by kernel_rfl) (by kernel_rfl) (by kernel_rfl)) ?_
      refine Wp.cond2 (b := !r1) (by kernel_rfl) (fun hc => ?_) (fun hc => ?_)
      · have h := cond_t h hc
        refine Wp.seq ?_
        refine Wp.regionS (pOf []) (rhoOf []) (by kernel_rfl) ?_
        refine Runs.all (by kernel_rfl) ?_
        refine thenN ?_
        refine Wp.le (Le.of (s := ⟨[(2, .obj 2 0), (3, .obj 3 0), (4, .t (.bool false))], [(2, [.t (.int .i64 p0.fWhat), .t (.int .i64 p0.fAt), .t (.sl 1 (p0.fB.map (eInt .u8))), .t (.int .i64 p0.fR.fGen), .t (.int .i64 p0.fR.fSlot), .t (.int .i64 p0.fR.fLen)]), (3, [.t (.int .i64 p1.fWhat), .t (.int .i64 p1.fAt), .t (.sl 1 (p1.fB.map (eInt .u8))), .t (.int .i64 p1.fR.fGen), .t (.int .i64 p1.fR.fSlot), .t (.int .i64 p1.fR.fLen)])], []⟩) (mo := []) (mr := []) (by kernel_rfl) (by kernel_rfl) (by kernel_rfl) (by kernel_rfl)) ?_
        refine Wp.ret ?_
        refine thenR ?_
        have hr := Option.some.inj h
        subst hr
        exact RetK [.t (.bool false)] (.one (.t (.bool false))) [] (by kernel_rfl) (by kernel_rfl) (.refl _) .nil
      · have h := cond_f h hc
        refine Wp.skip ?_
        refine thenN ?_
        refine Wp.seq ?_
        refine Wp.seq ?_
        refine Wp.regionS (pOf []) (rhoOf []) (by kernel_rfl) ?_
        refine Runs.batch 4 (by kernel_rfl) ?_
        obtain ⟨r2, e_r2, h⟩ := bind_some h
        refine Runs.callK false 25 161 [] [.agg [.t (.int .i64 p0.fR.fGen), .t (.int .i64 p0.fR.fSlot), .t (.int .i64 p0.fR.fLen)], .agg [.t (.int .i64 p1.fR.fGen), .t (.int .i64 p1.fR.fSlot), .t (.int .i64 p1.fR.fLen)]] [.agg [.t (.int .i64 p0.fR.fGen), .t (.int .i64 p0.fR.fSlot), .t (.int .i64 p0.fR.fLen)], .agg [.t (.int .i64 p1.fR.fGen), .t (.int .i64 p1.fR.fSlot), .t (.int .i64 p1.fR.fLen)]] (.one (.t (.bool r2))) [] rfl rfl (by kernel_rfl) (by kernel_rfl) (by kernel_rfl) (by kernel_rfl) (by kernel_rfl) (laws_eqRecord_ok u p0.fR p1.fR r2 e_r2) (by kernel_rfl) ?_
        refine Runs.all (by kernel_rfl) ?_
        refine thenN ?_
        refine Wp.le (Le.of (s := ⟨[(4, .t (.bool false)), (26, .t (.bool (!r2)))], [], []⟩) (mo := []) (mr := []) (by kernel_rfl) (by kernel_rfl) (by kernel_rfl) (by kernel_rfl)) ?_
        refine Wp.cond2 (b := !r2) (by kernel_rfl) (fun hc => ?_) (fun hc => ?_)
        · have h := cond_t h hc
          refine Wp.seq ?_
          refine Wp.regionS (pOf []) (rhoOf []) (by kernel_rfl) ?_
          refine Runs.all (by kernel_rfl) ?_
          refine thenN ?_
          refine Wp.le (Le.of (s := ⟨[(4, .t (.bool false))], [], []⟩) (mo := []) (mr := []) (by kernel_rfl) (by kernel_rfl) (by kernel_rfl) (by kernel_rfl)) ?_
          refine Wp.ret ?_
          refine thenR ?_
          have hr := Option.some.inj h
          subst hr
          exact RetK [.t (.bool false)] (.one (.t (.bool false))) [] (by kernel_rfl) (by kernel_rfl) (.refl _) .nil
        · have h := cond_f h hc
          refine Wp.skip ?_
          refine thenN ?_
          refine Wp.seq ?_
          refine Wp.regionS (pOf []) (rhoOf []) (by kernel_rfl) ?_
          refine Runs.all (by kernel_rfl) ?_
          refine thenN ?_
          refine Wp.le (Le.of (s := ⟨[(4, .t (.bool true))], [], []⟩) (mo := []) (mr := []) (by kernel_rfl) (by kernel_rfl) (by kernel_rfl) (by kernel_rfl)) ?_
          refine Wp.ret ?_
          have hr := Option.some.inj h
          subst hr
          exact RetK [.t (.bool true)] (.one (.t (.bool true))) [] (by kernel_rfl) (by kernel_rfl) (.refl _) .nil
end Go.Tm
