/- The functions as they are translated do what the pure functions say (printed). -/
import Derived.Test.YtlhbkdaohjnjbaaCFnRecoversK1
import Derived.Test.YtlhbkdaohjnjbaaTm43
import Derived.Test.YtlhbkdaohjnjbaaProg
set_option maxRecDepth 100000
set_option maxHeartbeats 20000000
set_option linter.unusedVariables false
set_option linter.unusedSimpArgs false
namespace Go.Tm
open Go.Proofs
theorem spec_Fall_ok (u : Nat) (p0 : Disk) (p1 : Int) (r : Disk) (h : spec_Fall u p0 p1 = some r) : CallOK Try.prog 31 [.agg [.t (.sl 1 (p0.fA.map (eInt .u8))), .t (.sl 1 (p0.fB.map (eInt .u8))), .t (.int .i64 p0.fR.fGen), .t (.int .i64 p0.fR.fSlot), .t (.int .i64 p0.fR.fLen), .t (.sl 6 (p0.fP.map Put.enc))], .one (.t (.int .i64 p1))] (.agg [.ow 5 1 (r.fA.map (eInt .u8)), .ow 5 1 (r.fB.map (eInt .u8)), .t (.int .i64 r.fR.fGen), .t (.int .i64 r.fR.fSlot), .t (.int .i64 r.fR.fLen), .ow 48 6 (r.fP.map Put.enc)]) [] := by
  unfold spec_Fall at h
  refine CallOK.of_bodyK (fn := Try.f31) (m := true) [.agg ((Disk.enc p0).map .t), .t (.int .i64 p1)] kr rfl kr kr kr kr kr ?_
  refine Wp.srg [] [] ?_
  refine Runs.alln ?_
  refine Wp.fg ⟨[(1, .t (.int .i64 p1)), (2, .obj 2 0), (4, .obj 4 0)], [(2, ((Disk.enc p0).map .t)), (4, [.nil, .nil, .t (.int .i64 0), .t (.int .i64 0), .t (.int .i64 0), .nil])], []⟩ ?_
  refine Wp.srg [] [] ?_
  refine Runs.batch 1 kr ?_
  obtain ⟨r1, e_r1, h⟩ := bind_some h
  refine Runs.callK false 8 87 [] [.agg ((Disk.enc p0).map .t)] _ _ _ rfl rfl kr kr kr kr kr (spec_l9Copy_ok u p0 r1 e_r1) kr ?_
  refine Runs.alln ?_
  refine Wp.fg ⟨[(1, .t (.int .i64 p1)), (2, .obj 2 0), (4, .obj 4 0), (5, .obj 5 0)], [(2, ((Disk.enc p0).map .t)), (4, [.nil, .nil, .t (.int .i64 0), .t (.int .i64 0), .t (.int .i64 0), .nil]), (5, [.own 524288, .own 524289, .t (.int .i64 r1.fR.fGen), .t (.int .i64 r1.fR.fSlot), .t (.int .i64 r1.fR.fLen), .own 524293])], [(524288, .live 5 1 (r1.fA.map (eInt .u8))), (524289, .live 5 1 (r1.fB.map (eInt .u8))), (524293, .live 48 6 (r1.fP.map Put.enc))]⟩ ?_
  refine Wp.seq ?_
  refine Wp.srg [] [] ?_
  refine Runs.batch 1 kr ?_
  obtain ⟨r2, e_r2, h⟩ := bind_some h
  refine Runs.callK false 10 39 [] [.agg ((Disk.enc p0).map .t)] _ _ _ rfl rfl kr kr kr kr kr (spec_DiskOk_ok u p0 r2 e_r2) kr ?_
  refine Runs.alln ?_
  refine Wp.fg ⟨[(1, .t (.int .i64 p1)), (2, .obj 2 0), (4, .obj 4 0), (5, .obj 5 0), (11, .t (.bool (!r2)))], [(2, ((Disk.enc p0).map .t)), (4, [.nil, .nil, .t (.int .i64 0), .t (.int .i64 0), .t (.int .i64 0), .nil]), (5, [.own 524288, .own 524289, .t (.int .i64 r1.fR.fGen), .t (.int .i64 r1.fR.fSlot), .t (.int .i64 r1.fR.fLen), .own 524293])], [(524288, .live 5 1 (r1.fA.map (eInt .u8))), (524289, .live 5 1 (r1.fB.map (eInt .u8))), (524293, .live 48 6 (r1.fP.map Put.enc))]⟩ ?_
  refine Wp.cond2 (b := !r2) kr (fun hc => ?_) (fun hc => ?_)
  · have h := cond_t h hc
    refine Wp.srg [] [] ?_
    refine Runs.alln ?_
    refine Wp.fg ⟨[(1, .t (.int .i64 p1)), (2, .obj 2 0), (4, .obj 4 0), (5, .obj 5 0)], [(2, ((Disk.enc p0).map .t)), (4, [.own 524288, .own 524289, .t (.int .i64 r1.fR.fGen), .t (.int .i64 r1.fR.fSlot), .t (.int .i64 r1.fR.fLen), .own 524293]), (5, [.own 524288, .own 524289, .t (.int .i64 r1.fR.fGen), .t (.int .i64 r1.fR.fSlot), .t (.int .i64 r1.fR.fLen), .own 524293])], [(524288, .live 5 1 (r1.fA.map (eInt .u8))), (524289, .live 5 1 (r1.fB.map (eInt .u8))), (524293, .live 48 6 (r1.fP.map Put.enc))]⟩ ?_
    refine Wp.ret ?_
    refine thenR ?_
    obtain rfl := Option.some.inj h
    exact RetK [.agg [.own 524288, .own 524289, .t (.int .i64 r1.fR.fGen), .t (.int .i64 r1.fR.fSlot), .t (.int .i64 r1.fR.fLen), .own 524293]] _ [] kr kr (.refl _) .nil
  have h := cond_f h hc
  refine Wp.skip (thenN ?_)
  refine Wp.seqJ (α := (List Int) × (List Int) × Int × Int × Int × (List Put)) (fun a => ⟨[(4, .obj 4 0), (5, .obj 5 0)], [(4, [.nil, .nil, .t (.int .i64 0), .t (.int .i64 0), .t (.int .i64 0), .nil]), (5, [.own 328192, .own 328193, .t (.int .i64 a.2.2.1), .t (.int .i64 a.2.2.2.1), .t (.int .i64 a.2.2.2.2.1), .own 328197])], [(328192, .live 5 1 (a.1.map (eInt .u8))), (328193, .live 5 1 (a.2.1.map (eInt .u8))), (328197, .live 48 6 (a.2.2.2.2.2.map Put.enc))]⟩) (fun a => spec_Fall_j1 u a.1 a.2.1 a.2.2.1 a.2.2.2.1 a.2.2.2.2.1 a.2.2.2.2.2 = some r) ?_ ?_
  · rintro ⟨x33, x34, x35, x36, x37, x38⟩ h
    change spec_Fall_j1 u x33 x34 x35 x36 x37 x38 = some r at h
    unfold spec_Fall_j1 at h
    refine Wp.srg [] [] ?_
    refine Runs.alln ?_
    refine Wp.fg ⟨[(4, .obj 4 0), (5, .obj 5 0)], [(4, [.nil, .nil, .t (.int .i64 0), .t (.int .i64 0), .t (.int .i64 0), .nil]), (5, [.own 328192, .own 328193, .t (.int .i64 x35), .t (.int .i64 x36), .t (.int .i64 x37), .own 1966080])], [(328192, .live 5 1 (x33.map (eInt .u8))), (328193, .live 5 1 (x34.map (eInt .u8))), (1966080, .live 48 6 ((([] : List Put)).map Put.enc))]⟩ ?_
    refine Wp.srg [] [] ?_
    refine Runs.alln ?_
    refine Wp.fg ⟨[(4, .obj 4 0)], [(4, [.own 328192, .own 328193, .t (.int .i64 x35), .t (.int .i64 x36), .t (.int .i64 x37), .own 1966080])], [(328192, .live 5 1 (x33.map (eInt .u8))), (328193, .live 5 1 (x34.map (eInt .u8))), (1966080, .live 48 6 ((([] : List Put)).map Put.enc))]⟩ ?_
    refine Wp.ret ?_
    obtain rfl := Option.some.inj h
    exact RetK [.agg [.own 328192, .own 328193, .t (.int .i64 x35), .t (.int .i64 x36), .t (.int .i64 x37), .own 1966080]] _ [] kr kr (.refl _) .nil
  · refine Wp.srg [] [] ?_
    refine Runs.alln ?_
    refine Wp.fg ⟨[(1, .t (.int .i64 p1)), (2, .obj 2 0), (4, .obj 4 0), (5, .obj 5 0), (6, .t (.int .i64 0))], [(2, ((Disk.enc p0).map .t)), (4, [.nil, .nil, .t (.int .i64 0), .t (.int .i64 0), .t (.int .i64 0), .nil]), (5, [.own 524288, .own 524289, .t (.int .i64 r1.fR.fGen), .t (.int .i64 r1.fR.fSlot), .t (.int .i64 r1.fR.fLen), .own 524293])], [(524288, .live 5 1 (r1.fA.map (eInt .u8))), (524289, .live 5 1 (r1.fB.map (eInt .u8))), (524293, .live 48 6 (r1.fP.map Put.enc))]⟩ ?_
    refine Wp.block ?_
    refine Wp.loopF (α := Int × Int × Disk × (List Int) × (List Int) × Int × Int × Int × (List Put)) (fun a => ⟨[(1, .t (.int .i64 a.1)), (2, .obj 2 0), (4, .obj 4 0), (5, .obj 5 0), (6, .t (.int .i64 a.2.1))], [(2, ((Disk.enc a.2.2.1).map .t)), (4, [.nil, .nil, .t (.int .i64 0), .t (.int .i64 0), .t (.int .i64 0), .nil]), (5, [.own 328192, .own 328193, .t (.int .i64 a.2.2.2.2.2.1), .t (.int .i64 a.2.2.2.2.2.2.1), .t (.int .i64 a.2.2.2.2.2.2.2.1), .own 328197])], [(328192, .live 5 1 (a.2.2.2.1.map (eInt .u8))), (328193, .live 5 1 (a.2.2.2.2.1.map (eInt .u8))), (328197, .live 48 6 (a.2.2.2.2.2.2.2.2.map Put.enc))]⟩) (fun k_spec_Fall_l2 a => spec_Fall_l2 u k_spec_Fall_l2 a.1 a.2.1 a.2.2.1 a.2.2.2.1 a.2.2.2.2.1 a.2.2.2.2.2.1 a.2.2.2.2.2.2.1 a.2.2.2.2.2.2.2.1 a.2.2.2.2.2.2.2.2 = some r) ?_ ?_ u (p1, 0, p0, r1.fA, r1.fB, r1.fR.fGen, r1.fR.fSlot, r1.fR.fLen, r1.fP) h (Le.of (mo := []) (mr := [(328192, 524288), (328193, 524289), (328197, 524293)]) kr kr kr kr)
    · intro a h; unfold spec_Fall_l2 at h; cases h
    · rintro k_spec_Fall_l2 ⟨p1, x10, p0, x11, x12, x13, x14, x15, x16⟩ h
      change spec_Fall_l2 u (k_spec_Fall_l2 + 1) p1 x10 p0 x11 x12 x13 x14 x15 x16 = some r at h
      rw [spec_Fall_l2] at h
      refine Wp.seq ?_
      refine Wp.srg [] [] ?_
      refine Runs.batch 3 kr ?_
      refine Runs.lenT (y := .t (.sl 6 (p0.fP.map Put.enc))) (e := 48) Put.enc p0.fP 6 rfl rfl rfl kr kr kr kr kr ?_
      refine Runs.alln ?_
      refine Wp.fg ⟨[(1, .t (.int .i64 p1)), (2, .obj 2 0), (4, .obj 4 0), (5, .obj 5 0), (6, .t (.int .i64 x10)), (17, .t (.bool (decide (x10 < ((p0.fP.length : Int))))))], [(2, ((Disk.enc p0).map .t)), (4, [.nil, .nil, .t (.int .i64 0), .t (.int .i64 0), .t (.int .i64 0), .nil]), (5, [.own 328192, .own 328193, .t (.int .i64 x13), .t (.int .i64 x14), .t (.int .i64 x15), .own 328197])], [(328192, .live 5 1 (x11.map (eInt .u8))), (328193, .live 5 1 (x12.map (eInt .u8))), (328197, .live 48 6 (x16.map Put.enc))]⟩ ?_
      refine Wp.cond2 (b := decide (x10 < ((p0.fP.length : Int)))) kr (fun hc => ?_) (fun hc => ?_)
      · have h := cond_t h hc
        refine Wp.skip (thenN ?_)
        refine Wp.seqJ (α := Int × Int × Disk × (List Int) × (List Int) × Int × Int × Int × (List Put)) (fun a => ⟨[(1, .t (.int .i64 a.1)), (2, .obj 2 0), (4, .obj 4 0), (5, .obj 5 0), (6, .t (.int .i64 a.2.1))], [(2, ((Disk.enc a.2.2.1).map .t)), (4, [.nil, .nil, .t (.int .i64 0), .t (.int .i64 0), .t (.int .i64 0), .nil]), (5, [.own 328192, .own 328193, .t (.int .i64 a.2.2.2.2.2.1), .t (.int .i64 a.2.2.2.2.2.2.1), .t (.int .i64 a.2.2.2.2.2.2.2.1), .own 328197])], [(328192, .live 5 1 (a.2.2.2.1.map (eInt .u8))), (328193, .live 5 1 (a.2.2.2.2.1.map (eInt .u8))), (328197, .live 48 6 (a.2.2.2.2.2.2.2.2.map Put.enc))]⟩) (fun a => spec_Fall_j3 u (fun z0 z1 z2 z3 z4 z5 z6 z7 z8 => spec_Fall_l2 u k_spec_Fall_l2 z0 z1 z2 z3 z4 z5 z6 z7 z8) a.1 a.2.1 a.2.2.1 a.2.2.2.1 a.2.2.2.2.1 a.2.2.2.2.2.1 a.2.2.2.2.2.2.1 a.2.2.2.2.2.2.2.1 a.2.2.2.2.2.2.2.2 = some r) ?_ ?_
        · rintro ⟨p1, x10, p0, x27, x28, x29, x30, x31, x32⟩ h
          change spec_Fall_j3 u (fun z0 z1 z2 z3 z4 z5 z6 z7 z8 => spec_Fall_l2 u k_spec_Fall_l2 z0 z1 z2 z3 z4 z5 z6 z7 z8) p1 x10 p0 x27 x28 x29 x30 x31 x32 = some r at h
          unfold spec_Fall_j3 at h
          refine Wp.rg [] [] ?_
          refine Runs.alln ?_
          exact ⟨(p1, bAdd .i64 x10 1, p0, x27, x28, x29, x30, x31, x32), h, Le.of (mo := []) (mr := []) kr kr kr kr⟩
        · refine Wp.block ?_
          refine Wp.srg [] [] ?_
          refine Runs.batch 2 kr ?_
          obtain ⟨r24, e_r24, h⟩ := bind_some h
          refine Runs.callK false 22 92 [] [.t (.int .i64 p1), .t (.int .i64 x10)] _ _ _ rfl rfl kr kr kr kr kr (spec_InSet_ok u p1 x10 r24 e_r24) kr ?_
          refine Runs.done ?_
          refine thenN ?_
          refine Wp.fg ⟨[(1, .t (.int .i64 p1)), (2, .obj 2 0), (4, .obj 4 0), (5, .obj 5 0), (6, .t (.int .i64 x10)), (22, .t (.bool r24))], [(2, ((Disk.enc p0).map .t)), (4, [.nil, .nil, .t (.int .i64 0), .t (.int .i64 0), .t (.int .i64 0), .nil]), (5, [.own 328192, .own 328193, .t (.int .i64 x13), .t (.int .i64 x14), .t (.int .i64 x15), .own 328197])], [(328192, .live 5 1 (x11.map (eInt .u8))), (328193, .live 5 1 (x12.map (eInt .u8))), (328197, .live 48 6 (x16.map Put.enc))]⟩ ?_
          refine Wp.cond2 (b := r24) kr (fun hc => ?_) (fun hc => ?_)
          · have h := cond_t h hc
            refine Wp.le (Le.trans (Le.frzO 5 0 328192 5 1 [.own 328192, .own 328193, .t (.int .i64 x13), .t (.int .i64 x14), .t (.int .i64 x15), .own 328197] (x11.map (eInt .u8)) kr kr kr) (Le.trans (Le.frzO 5 1 328193 5 1 [.t (.sl 1 (x11.map (eInt .u8))), .own 328193, .t (.int .i64 x13), .t (.int .i64 x14), .t (.int .i64 x15), .own 328197] (x12.map (eInt .u8)) kr kr kr) (Le.trans (Le.frzO 5 5 328197 48 6 [.t (.sl 1 (x11.map (eInt .u8))), .t (.sl 1 (x12.map (eInt .u8))), .t (.int .i64 x13), .t (.int .i64 x14), .t (.int .i64 x15), .own 328197] (x16.map Put.enc) kr kr kr) (Le.of (s := ⟨[(1, .t (.int .i64 p1)), (2, .obj 2 0), (4, .obj 4 0), (5, .obj 5 0), (6, .t (.int .i64 x10))], [(2, ((Disk.enc p0).map .t)), (4, [.nil, .nil, .t (.int .i64 0), .t (.int .i64 0), .t (.int .i64 0), .nil]), (5, [.t (.sl 1 (x11.map (eInt .u8))), .t (.sl 1 (x12.map (eInt .u8))), .t (.int .i64 x13), .t (.int .i64 x14), .t (.int .i64 x15), .t (.sl 6 (x16.map Put.enc))])], []⟩) (mo := []) (mr := []) kr kr kr kr)))) ?_
            refine Wp.regionA (pOf []) (rhoOf [(2, .obj 2), (5, .obj 5), (6, .frz), (23, .frz), (24, .obj 2), (25, .frz), (26, .frz), (27, .frz), (28, .frz), (29, .own 29)]) kr kr ?_
            refine Runs.batch 4 kr ?_
            obtain ⟨y25, e_y25, h⟩ := bind_some h
            refine Runs.idxT (e := 48) (kk := .i64) (sz := 6) Put.enc p0.fP x10 rfl kr kr kr kr kr kr e_y25 ?_
            refine Runs.batch 1 kr ?_
            obtain ⟨r26, e_r26, h⟩ := bind_some h
            refine Runs.callK false 29 33 [] [.agg [.t (.sl 1 (x11.map (eInt .u8))), .t (.sl 1 (x12.map (eInt .u8))), .t (.int .i64 x13), .t (.int .i64 x14), .t (.int .i64 x15), .t (.sl 6 (x16.map Put.enc))], .agg ((Put.enc y25).map .t)] _ _ _ rfl rfl kr kr kr kr kr (spec_OnePut_ok u ((Disk.mk x11 x12 ((Record.mk x13 x14 x15)) x16)) y25 r26 e_r26) kr ?_
            refine Runs.all kr ?_
            refine blkN ?_
            refine thenN ?_
            exact ⟨(p1, x10, p0, r26.fA, r26.fB, r26.fR.fGen, r26.fR.fSlot, r26.fR.fLen, r26.fP), h, Le.of (mo := []) (mr := [(328192, 1900544), (328193, 1900545), (328197, 1900549)]) kr kr kr kr⟩
          have h := cond_f h hc
          refine Wp.skip ?_
          refine blkN ?_
          refine thenN ?_
          exact ⟨(p1, x10, p0, x11, x12, x13, x14, x15, x16), h, Le.of (mo := []) (mr := []) kr kr kr kr⟩
      have h := cond_f h hc
      refine Wp.exit ?_
      refine thenE ?_
      refine thenE ?_
      refine blkE ?_
      refine thenN ?_
      exact ⟨(x11, x12, x13, x14, x15, x16), h, Le.of (mo := []) (mr := []) kr kr kr kr⟩
theorem spec_AllFalls_ok (u : Nat) (p0 : Disk) (r : (List Disk)) (h : spec_AllFalls u p0 = some r) : CallOK Try.prog 49 [.agg [.t (.sl 1 (p0.fA.map (eInt .u8))), .t (.sl 1 (p0.fB.map (eInt .u8))), .t (.int .i64 p0.fR.fGen), .t (.int .i64 p0.fR.fSlot), .t (.int .i64 p0.fR.fLen), .t (.sl 6 (p0.fP.map Put.enc))]] (.one (.ow 43 6 (r.map Disk.enc))) [] := by
  unfold spec_AllFalls at h
  refine CallOK.of_bodyK (fn := Try.f49) (m := true) [.agg ((Disk.enc p0).map .t)] kr rfl kr kr kr kr kr ?_
  refine Wp.srg [] [] ?_
  refine Runs.alln ?_
  refine Wp.fg ⟨[(1, .obj 1 0), (2, .nil)], [(1, ((Disk.enc p0).map .t))], []⟩ ?_
  refine Wp.srg [] [] ?_
  refine Runs.alln ?_
  refine Wp.fg ⟨[(1, .obj 1 0), (2, .nil), (3, .own 458752)], [(1, ((Disk.enc p0).map .t))], [(458752, .live 43 6 ((([] : List Disk)).map Disk.enc))]⟩ ?_
  refine Wp.srg [] [] ?_
  refine Runs.batch 2 kr ?_
  refine Runs.lenT (y := .t (.sl 6 (p0.fP.map Put.enc))) (e := 48) Put.enc p0.fP 6 rfl rfl rfl kr kr kr kr kr ?_
  obtain ⟨r1, e_r1, h⟩ := bind_some h
  refine Runs.callK false 11 108 [] [.t (.int .i64 ((p0.fP.length : Int))), .t (.int .i64 6)] _ _ _ rfl rfl kr kr kr kr kr (spec_Least_ok u ((p0.fP.length : Int)) 6 r1 e_r1) kr ?_
  refine Runs.alln ?_
  refine Wp.fg ⟨[(1, .obj 1 0), (2, .nil), (3, .own 458752), (4, .t (.int .i64 r1))], [(1, ((Disk.enc p0).map .t))], [(458752, .live 43 6 ((([] : List Disk)).map Disk.enc))]⟩ ?_
  refine Wp.seqJ (α := (List Disk)) (fun a => ⟨[(2, .nil), (3, .own 196609)], [], [(196609, .live 43 6 (a.map Disk.enc))]⟩) (fun a => spec_AllFalls_j1 u a = some r) ?_ ?_
  · rintro x10 h
    change spec_AllFalls_j1 u x10 = some r at h
    unfold spec_AllFalls_j1 at h
    refine Wp.srg [] [] ?_
    refine Runs.alln ?_
    refine Wp.fg ⟨[(2, .own 196609)], [], [(196609, .live 43 6 (x10.map Disk.enc))]⟩ ?_
    refine Wp.ret ?_
    obtain rfl := Option.some.inj h
    exact RetK [.own 196609] _ [] kr kr (.refl _) .nil
  · refine Wp.srg [] [] ?_
    refine Runs.alln ?_
    refine Wp.fg ⟨[(1, .obj 1 0), (2, .nil), (3, .own 458752), (4, .t (.int .i64 r1)), (5, .t (.int .i64 0))], [(1, ((Disk.enc p0).map .t))], [(458752, .live 43 6 ((([] : List Disk)).map Disk.enc))]⟩ ?_
    refine Wp.block ?_
    refine Wp.loopF (α := (List Disk) × Int × Int × Disk) (fun a => ⟨[(1, .obj 1 0), (2, .nil), (3, .own 196609), (4, .t (.int .i64 a.2.1)), (5, .t (.int .i64 a.2.2.1))], [(1, ((Disk.enc a.2.2.2).map .t))], [(196609, .live 43 6 (a.1.map Disk.enc))]⟩) (fun k_spec_AllFalls_l2 a => spec_AllFalls_l2 u k_spec_AllFalls_l2 a.1 a.2.1 a.2.2.1 a.2.2.2 = some r) ?_ ?_ u (([] : List Disk), r1, 0, p0) h (Le.of (mo := []) (mr := [(196609, 458752)]) kr kr kr kr)
    · intro a h; unfold spec_AllFalls_l2 at h; cases h
    · rintro k_spec_AllFalls_l2 ⟨x4, r1, x5, p0⟩ h
      change spec_AllFalls_l2 u (k_spec_AllFalls_l2 + 1) x4 r1 x5 p0 = some r at h
      rw [spec_AllFalls_l2] at h
      refine Wp.seq ?_
      refine Wp.srg [] [] ?_
      refine Runs.batch 2 kr ?_
      obtain ⟨_, e_8, h⟩ := bind_some h
      refine Runs.num .shl (.int .i64 1) (.int .i64 r1) (.int .i64 (bShl .i64 1 r1)) rfl kr kr kr kr (bin_shl _ _ _ _ _ (chk_some e_8)) ?_
      refine Runs.alln ?_
      refine Wp.fg ⟨[(1, .obj 1 0), (2, .nil), (3, .own 196609), (4, .t (.int .i64 r1)), (5, .t (.int .i64 x5)), (15, .t (.bool (decide (x5 < (bShl .i64 1 r1)))))], [(1, ((Disk.enc p0).map .t))], [(196609, .live 43 6 (x4.map Disk.enc))]⟩ ?_
      refine Wp.cond2 (b := decide (x5 < (bShl .i64 1 r1))) kr (fun hc => ?_) (fun hc => ?_)
      · have h := cond_t h hc
        refine Wp.skip (thenN ?_)
        refine Wp.seq ?_
        refine Wp.block ?_
        refine Wp.srg [] [] ?_
        refine Runs.batch 2 kr ?_
        obtain ⟨r9, e_r9, h⟩ := bind_some h
        refine Runs.callK false 20 31 [] [.agg ((Disk.enc p0).map .t), .t (.int .i64 x5)] _ _ _ rfl rfl kr kr kr kr kr (spec_Fall_ok u p0 x5 r9 e_r9) kr ?_
        refine Runs.alln ?_
        refine Wp.fg ⟨[(1, .obj 1 0), (2, .nil), (3, .own 196609), (4, .t (.int .i64 r1)), (5, .t (.int .i64 x5)), (6, .obj 6 0)], [(1, ((Disk.enc p0).map .t)), (6, [.own 1310720, .own 1310721, .t (.int .i64 r9.fR.fGen), .t (.int .i64 r9.fR.fSlot), .t (.int .i64 r9.fR.fLen), .own 1310725])], [(196609, .live 43 6 (x4.map Disk.enc)), (1310720, .live 5 1 (r9.fA.map (eInt .u8))), (1310721, .live 5 1 (r9.fB.map (eInt .u8))), (1310725, .live 48 6 (r9.fP.map Put.enc))]⟩ ?_
        refine Wp.rg [] [] ?_
        refine Runs.batch 3 kr ?_
        obtain ⟨_, e_10, h⟩ := bind_some h
        refine Runs.appT (y := .own 1507328) Disk.enc 24 6 43 6 96 196609 x4 ([r9]) rfl rfl rfl rfl kr kr kr kr kr kr (.inl rfl) kr (of_decide_eq_true (chk_some e_10)) kr kr ?_
        refine Runs.all kr ?_
        refine blkN ?_
        refine thenN ?_
        refine Wp.rg [] [] ?_
        refine Runs.alln ?_
        exact ⟨(x4 ++ ([r9]), r1, bAdd .i64 x5 1, p0), h, Le.of (mo := []) (mr := [(196609, 1572864)]) kr kr kr kr⟩
      have h := cond_f h hc
      refine Wp.exit ?_
      refine thenE ?_
      refine thenE ?_
      refine blkE ?_
      refine thenN ?_
      exact ⟨x4, h, Le.of (mo := []) (mr := []) kr kr kr kr⟩
theorem laws_same_ok (u : Nat) (p0 : List Int) (p1 : List Int) (r : Bool) (h : laws_same u p0 p1 = some r) : CallOK Try.prog 42 [.one (.t (.sl 1 (p0.map (eInt .u8)))), .one (.t (.sl 1 (p1.map (eInt .u8))))] (.one (.t (.bool r))) [] := by
  unfold laws_same at h
  refine CallOK.of_bodyK (fn := Try.f42) (m := false) [.t (.sl 1 (p0.map (eInt .u8))), .t (.sl 1 (p1.map (eInt .u8)))] kr rfl kr kr kr kr kr ?_
  refine Wp.srg [] [] ?_
  refine Runs.alln ?_
  refine Wp.fg ⟨[(0, .t (.sl 1 (p0.map (eInt .u8)))), (1, .t (.sl 1 (p1.map (eInt .u8)))), (4, .t (.bool false))], [], []⟩ ?_
  refine Wp.seq ?_
  refine Wp.srg [] [] ?_
  refine Runs.batch 1 kr ?_
  refine Runs.lenT (y := .t (.sl 1 (p0.map (eInt .u8)))) (e := 5) (eInt .u8) p0 1 rfl rfl rfl kr kr kr kr kr ?_
  refine Runs.batch 1 kr ?_
  refine Runs.lenT (y := .t (.sl 1 (p1.map (eInt .u8)))) (e := 5) (eInt .u8) p1 1 rfl rfl rfl kr kr kr kr kr ?_
  refine Runs.alln ?_
  refine Wp.fg ⟨[(0, .t (.sl 1 (p0.map (eInt .u8)))), (1, .t (.sl 1 (p1.map (eInt .u8)))), (4, .t (.bool false)), (10, .t (.bool (((p0.length : Int)) != ((p1.length : Int)))))], [], []⟩ ?_
  refine Wp.cond2 (b := ((p0.length : Int)) != ((p1.length : Int))) kr (fun hc => ?_) (fun hc => ?_)
  · have h := cond_t h hc
    refine Wp.srg [] [] ?_
    refine Runs.alln ?_
    refine Wp.fg ⟨[(0, .t (.sl 1 (p0.map (eInt .u8)))), (1, .t (.sl 1 (p1.map (eInt .u8)))), (4, .t (.bool false))], [], []⟩ ?_
    refine Wp.ret ?_
    refine thenR ?_
    obtain rfl := Option.some.inj h
    exact RetK [.t (.bool false)] _ [] kr kr (.refl _) .nil
  have h := cond_f h hc
  refine Wp.skip (thenN ?_)
  refine Wp.seqJ (α := Unit) (fun a => ⟨[(4, .t (.bool false))], [], []⟩) (fun a => laws_same_j1 u = some r) ?_ ?_
  · rintro ⟨⟩ h
    change laws_same_j1 u = some r at h
    unfold laws_same_j1 at h
    refine Wp.srg [] [] ?_
    refine Runs.alln ?_
    refine Wp.fg ⟨[(4, .t (.bool true))], [], []⟩ ?_
    refine Wp.ret ?_
    obtain rfl := Option.some.inj h
    exact RetK [.t (.bool true)] _ [] kr kr (.refl _) .nil
  · refine Wp.srg [] [] ?_
    refine Runs.alln ?_
    refine Wp.fg ⟨[(0, .t (.sl 1 (p0.map (eInt .u8)))), (1, .t (.sl 1 (p1.map (eInt .u8)))), (4, .t (.bool false)), (5, .t (.int .i64 0))], [], []⟩ ?_
    refine Wp.block ?_
    refine Wp.loopF (α := (List Int) × (List Int) × Int) (fun a => ⟨[(0, .t (.sl 1 (a.1.map (eInt .u8)))), (1, .t (.sl 1 (a.2.1.map (eInt .u8)))), (4, .t (.bool false)), (5, .t (.int .i64 a.2.2))], [], []⟩) (fun k_laws_same_l2 a => laws_same_l2 u k_laws_same_l2 a.1 a.2.1 a.2.2 = some r) ?_ ?_ u (p0, p1, 0) h (Le.of (mo := []) (mr := []) kr kr kr kr)
    · intro a h; unfold laws_same_l2 at h; cases h
    · rintro k_laws_same_l2 ⟨p0, p1, x2⟩ h
      change laws_same_l2 u (k_laws_same_l2 + 1) p0 p1 x2 = some r at h
      rw [laws_same_l2] at h
      refine Wp.seq ?_
      refine Wp.srg [] [] ?_
      refine Runs.batch 2 kr ?_
      refine Runs.lenT (y := .t (.sl 1 (p0.map (eInt .u8)))) (e := 5) (eInt .u8) p0 1 rfl rfl rfl kr kr kr kr kr ?_
      refine Runs.alln ?_
      refine Wp.fg ⟨[(0, .t (.sl 1 (p0.map (eInt .u8)))), (1, .t (.sl 1 (p1.map (eInt .u8)))), (4, .t (.bool false)), (5, .t (.int .i64 x2)), (14, .t (.bool (decide (x2 < ((p0.length : Int))))))], [], []⟩ ?_
      refine Wp.cond2 (b := decide (x2 < ((p0.length : Int)))) kr (fun hc => ?_) (fun hc => ?_)
      · have h := cond_t h hc
        refine Wp.skip (thenN ?_)
        refine Wp.seq ?_
        refine Wp.block ?_
        refine Wp.seq ?_
        refine Wp.regionA (pOf []) (rhoOf [(0, .frz), (1, .frz), (5, .frz), (17, .frz), (18, .frz), (19, .frz), (20, .frz), (21, .frz), (22, .frz), (23, .frz), (24, .frz)]) kr kr ?_
        refine Runs.batch 2 kr ?_
        obtain ⟨y4, e_y4, h⟩ := bind_some h
        refine Runs.idxT (e := 5) (kk := .i64) (sz := 1) (eInt .u8) p0 x2 rfl kr kr kr kr kr kr e_y4 ?_
        refine Runs.batch 3 kr ?_
        obtain ⟨y5, e_y5, h⟩ := bind_some h
        refine Runs.idxT (e := 5) (kk := .i64) (sz := 1) (eInt .u8) p1 x2 rfl kr kr kr kr kr kr e_y5 ?_
        refine Runs.alln ?_
        refine Wp.fg ⟨[(0, .t (.sl 1 (p0.map (eInt .u8)))), (1, .t (.sl 1 (p1.map (eInt .u8)))), (4, .t (.bool false)), (5, .t (.int .i64 x2)), (25, .t (.bool (y4 != y5)))], [], []⟩ ?_
        refine Wp.cond2 (b := y4 != y5) kr (fun hc => ?_) (fun hc => ?_)
        · have h := cond_t h hc
          refine Wp.srg [] [] ?_
          refine Runs.alln ?_
          refine Wp.fg ⟨[(0, .t (.sl 1 (p0.map (eInt .u8)))), (1, .t (.sl 1 (p1.map (eInt .u8)))), (4, .t (.bool false)), (5, .t (.int .i64 x2))], [], []⟩ ?_
          refine Wp.ret ?_
          refine blkR ?_
          refine thenR ?_
          refine thenR ?_
          refine blkR ?_
          refine thenR ?_
          obtain rfl := Option.some.inj h
          exact RetK [.t (.bool false)] _ [] kr kr (.refl _) .nil
        have h := cond_f h hc
        refine Wp.skip ?_
        refine blkN ?_
        refine thenN ?_
        refine Wp.rg [] [] ?_
        refine Runs.alln ?_
        exact ⟨(p0, p1, bAdd .i64 x2 1), h, Le.of (mo := []) (mr := []) kr kr kr kr⟩
      have h := cond_f h hc
      refine Wp.exit ?_
      refine thenE ?_
      refine thenE ?_
      refine blkE ?_
      refine thenN ?_
      exact ⟨(), h, Le.of (mo := []) (mr := []) kr kr kr kr⟩
theorem bytes_Equal_ok (u : Nat) (p0 : List Int) (p1 : List Int) (r : Bool) (h : bytes_Equal u p0 p1 = some r) : CallOK Try.prog 144 [.one (.t (.sl 1 (p0.map (eInt .u8)))), .one (.t (.sl 1 (p1.map (eInt .u8))))] (.one (.t (.bool r))) [] := by
  unfold bytes_Equal at h
  refine CallOK.of_bodyK (fn := Try.f144) (m := false) [.t (.sl 1 (p0.map (eInt .u8))), .t (.sl 1 (p1.map (eInt .u8)))] kr rfl kr kr kr kr kr ?_
  refine Wp.srg [] [] ?_
  refine Runs.alln ?_
  refine Wp.fg ⟨[(0, .t (.sl 1 (p0.map (eInt .u8)))), (1, .t (.sl 1 (p1.map (eInt .u8)))), (4, .t (.bool false))], [], []⟩ ?_
  refine Wp.srg [] [] ?_
  refine Runs.batch 1 kr ?_
  refine Runs.bytesStr (y := .t (.sl 1 (p0.map (eInt .u8)))) (e := 5) p0 1 rfl kr kr kr kr kr kr kr ?_
  refine Runs.batch 1 kr ?_
  refine Runs.bytesStr (y := .t (.sl 1 (p1.map (eInt .u8)))) (e := 5) p1 1 rfl kr kr kr kr kr kr kr ?_
  refine Runs.alln ?_
  refine Wp.fg ⟨[(4, .t (.bool ((strOfNums p0).toList == (strOfNums p1).toList)))], [], []⟩ ?_
  refine Wp.ret ?_
  obtain rfl := Option.some.inj h
  exact RetK [.t (.bool ((strOfNums p0).toList == (strOfNums p1).toList))] _ [] kr kr (.refl _) .nil
theorem impl_SameBytes_ok (u : Nat) (p0 : List Int) (p1 : List Int) (r : Bool) (h : impl_SameBytes u p0 p1 = some r) : CallOK Try.prog 109 [.one (.t (.sl 1 (p0.map (eInt .u8)))), .one (.t (.sl 1 (p1.map (eInt .u8))))] (.one (.t (.bool r))) [] := by
  unfold impl_SameBytes at h
  refine CallOK.of_bodyK (fn := Try.f109) (m := false) [.t (.sl 1 (p0.map (eInt .u8))), .t (.sl 1 (p1.map (eInt .u8)))] kr rfl kr kr kr kr kr ?_
  refine Wp.srg [] [] ?_
  refine Runs.alln ?_
  refine Wp.fg ⟨[(0, .t (.sl 1 (p0.map (eInt .u8)))), (1, .t (.sl 1 (p1.map (eInt .u8)))), (4, .t (.bool false))], [], []⟩ ?_
  refine Wp.srg [] [] ?_
  refine Runs.batch 2 kr ?_
  obtain ⟨r1, e_r1, h⟩ := bind_some h
  refine Runs.callK false 7 144 [] [.t (.sl 1 (p0.map (eInt .u8))), .t (.sl 1 (p1.map (eInt .u8)))] _ _ _ rfl rfl kr kr kr kr kr (bytes_Equal_ok u p0 p1 r1 e_r1) kr ?_
  refine Runs.alln ?_
  refine Wp.fg ⟨[(4, .t (.bool r1))], [], []⟩ ?_
  refine Wp.ret ?_
  obtain rfl := Option.some.inj h
  exact RetK [.t (.bool r1)] _ [] kr kr (.refl _) .nil
theorem impl_Holds_ok (u : Nat) (p0 : Disk) (p1 : Int) (p2 : List Int) (r : Bool) (h : impl_Holds u p0 p1 p2 = some r) : CallOK Try.prog 50 [.agg [.t (.sl 1 (p0.fA.map (eInt .u8))), .t (.sl 1 (p0.fB.map (eInt .u8))), .t (.int .i64 p0.fR.fGen), .t (.int .i64 p0.fR.fSlot), .t (.int .i64 p0.fR.fLen), .t (.sl 6 (p0.fP.map Put.enc))], .one (.t (.int .i64 p1)), .one (.t (.sl 1 (p2.map (eInt .u8))))] (.one (.t (.bool r))) [] := by
  unfold impl_Holds at h
  refine CallOK.of_bodyK (fn := Try.f50) (m := false) [.agg ((Disk.enc p0).map .t), .t (.int .i64 p1), .t (.sl 1 (p2.map (eInt .u8)))] kr rfl kr kr kr kr kr ?_
  refine Wp.srg [] [] ?_
  refine Runs.alln ?_
  refine Wp.fg ⟨[(1, .t (.int .i64 p1)), (2, .t (.sl 1 (p2.map (eInt .u8)))), (3, .obj 3 0), (6, .t (.bool false))], [(3, ((Disk.enc p0).map .t))], []⟩ ?_
  refine Wp.srg [] [] ?_
  refine Runs.batch 1 kr ?_
  obtain ⟨r1, e_r1, h⟩ := bind_some h
  refine Runs.callK false 11 44 [] [.agg ((Disk.enc p0).map .t)] _ _ _ rfl rfl kr kr kr kr kr (impl_Recover_ok u p0 r1 e_r1) kr ?_
  refine Runs.alln ?_
  refine Wp.fg ⟨[(1, .t (.int .i64 p1)), (2, .t (.sl 1 (p2.map (eInt .u8)))), (6, .t (.bool false)), (7, .t (.int .i64 r1.1)), (8, .own 721920)], [], [(721920, .live 5 1 (r1.2.map (eInt .u8)))]⟩ ?_
  refine Wp.srg [] [] ?_
  refine Runs.batch 4 kr ?_
  rcases tf (r1.1 == p1) with hc | hc
  · have h := cond_t h hc
    refine Runs.known 17 (v := true) kr hc ?_
    refine Runs.batch 2 kr ?_
    obtain ⟨r2, e_r2, h⟩ := bind_some h
    refine Runs.callBK 20 109 [] [.own 721920, .t (.sl 1 (p2.map (eInt .u8)))] [.one (.t (.sl 1 (r1.2.map (eInt .u8)))), .one (.t (.sl 1 (p2.map (eInt .u8))))] (.one (.t (.bool r2))) rfl rfl kr kr kr kr kr (impl_SameBytes_ok u r1.2 p2 r2 e_r2) (by simp [V.plain, V.plains, C.plain, T.sc]) kr ?_
    refine Runs.alln ?_
    refine Wp.fg ⟨[(6, .t (.bool r2))], [], []⟩ ?_
    refine Wp.ret ?_
    obtain rfl := Option.some.inj h
    exact RetK [.t (.bool r2)] _ [] kr kr (.refl _) .nil
  have h := cond_f h hc
  refine Runs.known 17 (v := false) kr hc ?_
  refine Runs.alln ?_
  refine Wp.fg ⟨[(6, .t (.bool false))], [], []⟩ ?_
  refine Wp.ret ?_
  obtain rfl := Option.some.inj h
  exact RetK [.t (.bool false)] _ [] kr kr (.refl _) .nil
theorem spec_SameBytes_ok (u : Nat) (p0 : List Int) (p1 : List Int) (r : Bool) (h : spec_SameBytes u p0 p1 = some r) : CallOK Try.prog 110 [.one (.t (.sl 1 (p0.map (eInt .u8)))), .one (.t (.sl 1 (p1.map (eInt .u8))))] (.one (.t (.bool r))) [] := by
  unfold spec_SameBytes at h
  refine CallOK.of_bodyK (fn := Try.f110) (m := false) [.t (.sl 1 (p0.map (eInt .u8))), .t (.sl 1 (p1.map (eInt .u8)))] kr rfl kr kr kr kr kr ?_
  refine Wp.srg [] [] ?_
  refine Runs.alln ?_
  refine Wp.fg ⟨[(0, .t (.sl 1 (p0.map (eInt .u8)))), (1, .t (.sl 1 (p1.map (eInt .u8)))), (4, .t (.bool false))], [], []⟩ ?_
  refine Wp.srg [] [] ?_
  refine Runs.batch 1 kr ?_
  refine Runs.bytesStr (y := .t (.sl 1 (p0.map (eInt .u8)))) (e := 5) p0 1 rfl kr kr kr kr kr kr kr ?_
  refine Runs.batch 1 kr ?_
  refine Runs.bytesStr (y := .t (.sl 1 (p1.map (eInt .u8)))) (e := 5) p1 1 rfl kr kr kr kr kr kr kr ?_
  refine Runs.alln ?_
  refine Wp.fg ⟨[(4, .t (.bool ((strOfNums p0).toList == (strOfNums p1).toList)))], [], []⟩ ?_
  refine Wp.ret ?_
  obtain rfl := Option.some.inj h
  exact RetK [.t (.bool ((strOfNums p0).toList == (strOfNums p1).toList))] _ [] kr kr (.refl _) .nil
theorem spec_Holds_ok (u : Nat) (p0 : Disk) (p1 : Int) (p2 : List Int) (r : Bool) (h : spec_Holds u p0 p1 p2 = some r) : CallOK Try.prog 51 [.agg [.t (.sl 1 (p0.fA.map (eInt .u8))), .t (.sl 1 (p0.fB.map (eInt .u8))), .t (.int .i64 p0.fR.fGen), .t (.int .i64 p0.fR.fSlot), .t (.int .i64 p0.fR.fLen), .t (.sl 6 (p0.fP.map Put.enc))], .one (.t (.int .i64 p1)), .one (.t (.sl 1 (p2.map (eInt .u8))))] (.one (.t (.bool r))) [] := by
  unfold spec_Holds at h
  refine CallOK.of_bodyK (fn := Try.f51) (m := false) [.agg ((Disk.enc p0).map .t), .t (.int .i64 p1), .t (.sl 1 (p2.map (eInt .u8)))] kr rfl kr kr kr kr kr ?_
  refine Wp.srg [] [] ?_
  refine Runs.alln ?_
  refine Wp.fg ⟨[(1, .t (.int .i64 p1)), (2, .t (.sl 1 (p2.map (eInt .u8)))), (3, .obj 3 0), (6, .t (.bool false))], [(3, ((Disk.enc p0).map .t))], []⟩ ?_
  refine Wp.srg [] [] ?_
  refine Runs.batch 1 kr ?_
  obtain ⟨r1, e_r1, h⟩ := bind_some h
  refine Runs.callK false 11 45 [] [.agg ((Disk.enc p0).map .t)] _ _ _ rfl rfl kr kr kr kr kr (spec_Recover_ok u p0 r1 e_r1) kr ?_
  refine Runs.alln ?_
  refine Wp.fg ⟨[(1, .t (.int .i64 p1)), (2, .t (.sl 1 (p2.map (eInt .u8)))), (6, .t (.bool false)), (7, .t (.int .i64 r1.1)), (8, .own 721920)], [], [(721920, .live 5 1 (r1.2.map (eInt .u8)))]⟩ ?_
  refine Wp.srg [] [] ?_
  refine Runs.batch 4 kr ?_
  rcases tf (r1.1 == p1) with hc | hc
  · have h := cond_t h hc
    refine Runs.known 17 (v := true) kr hc ?_
    refine Runs.batch 2 kr ?_
    obtain ⟨r2, e_r2, h⟩ := bind_some h
    refine Runs.callBK 20 110 [] [.own 721920, .t (.sl 1 (p2.map (eInt .u8)))] [.one (.t (.sl 1 (r1.2.map (eInt .u8)))), .one (.t (.sl 1 (p2.map (eInt .u8))))] (.one (.t (.bool r2))) rfl rfl kr kr kr kr kr (spec_SameBytes_ok u r1.2 p2 r2 e_r2) (by simp [V.plain, V.plains, C.plain, T.sc]) kr ?_
    refine Runs.alln ?_
    refine Wp.fg ⟨[(6, .t (.bool r2))], [], []⟩ ?_
    refine Wp.ret ?_
    obtain rfl := Option.some.inj h
    exact RetK [.t (.bool r2)] _ [] kr kr (.refl _) .nil
  have h := cond_f h hc
  refine Runs.known 17 (v := false) kr hc ?_
  refine Runs.alln ?_
  refine Wp.fg ⟨[(6, .t (.bool false))], [], []⟩ ?_
  refine Wp.ret ?_
  obtain rfl := Option.some.inj h
  exact RetK [.t (.bool false)] _ [] kr kr (.refl _) .nil
theorem impl_HoldsAny_ok (u : Nat) (p0 : Disk) (p1 : List Int) (p2 : Int) (p3 : List Int) (r : Bool) (h : impl_HoldsAny u p0 p1 p2 p3 = some r) : CallOK Try.prog 52 [.agg [.t (.sl 1 (p0.fA.map (eInt .u8))), .t (.sl 1 (p0.fB.map (eInt .u8))), .t (.int .i64 p0.fR.fGen), .t (.int .i64 p0.fR.fSlot), .t (.int .i64 p0.fR.fLen), .t (.sl 6 (p0.fP.map Put.enc))], .one (.t (.sl 1 (p1.map (eInt .u8)))), .one (.t (.int .i64 p2)), .one (.t (.sl 1 (p3.map (eInt .u8))))] (.one (.t (.bool r))) [] := by
  unfold impl_HoldsAny at h
  refine CallOK.of_bodyK (fn := Try.f52) (m := false) [.agg ((Disk.enc p0).map .t), .t (.sl 1 (p1.map (eInt .u8))), .t (.int .i64 p2), .t (.sl 1 (p3.map (eInt .u8)))] kr rfl kr kr kr kr kr ?_
  refine Wp.srg [] [] ?_
  refine Runs.alln ?_
  refine Wp.fg ⟨[(1, .t (.sl 1 (p1.map (eInt .u8)))), (2, .t (.int .i64 p2)), (3, .t (.sl 1 (p3.map (eInt .u8)))), (4, .obj 4 0), (8, .t (.bool false))], [(4, ((Disk.enc p0).map .t))], []⟩ ?_
  refine Wp.srg [] [] ?_
  refine Runs.batch 2 kr ?_
  obtain ⟨r1, e_r1, h⟩ := bind_some h
  refine Runs.callK false 11 50 [] [.agg ((Disk.enc p0).map .t), .t (.int .i64 0), .t (.sl 1 (p1.map (eInt .u8)))] _ _ _ rfl rfl kr kr kr kr kr (impl_Holds_ok u p0 0 p1 r1 e_r1) kr ?_
  refine Runs.batch 1 kr ?_
  rcases tf (r1) with hc | hc
  · have h := cond_t h hc
    refine Runs.known 12 (v := true) kr hc ?_
    refine Runs.alln ?_
    refine Wp.fg ⟨[(8, .t (.bool true))], [], []⟩ ?_
    refine Wp.ret ?_
    obtain rfl := Option.some.inj h
    exact RetK [.t (.bool true)] _ [] kr kr (.refl _) .nil
  have h := cond_f h hc
  refine Runs.known 12 (v := false) kr hc ?_
  refine Runs.batch 3 kr ?_
  obtain ⟨r2, e_r2, h⟩ := bind_some h
  refine Runs.callK false 16 50 [] [.agg ((Disk.enc p0).map .t), .t (.int .i64 p2), .t (.sl 1 (p3.map (eInt .u8)))] _ _ _ rfl rfl kr kr kr kr kr (impl_Holds_ok u p0 p2 p3 r2 e_r2) kr ?_
  refine Runs.alln ?_
  refine Wp.fg ⟨[(8, .t (.bool r2))], [], []⟩ ?_
  refine Wp.ret ?_
  obtain rfl := Option.some.inj h
  exact RetK [.t (.bool r2)] _ [] kr kr (.refl _) .nil
theorem spec_HoldsAny_ok (u : Nat) (p0 : Disk) (p1 : List Int) (p2 : Int) (p3 : List Int) (r : Bool) (h : spec_HoldsAny u p0 p1 p2 p3 = some r) : CallOK Try.prog 53 [.agg [.t (.sl 1 (p0.fA.map (eInt .u8))), .t (.sl 1 (p0.fB.map (eInt .u8))), .t (.int .i64 p0.fR.fGen), .t (.int .i64 p0.fR.fSlot), .t (.int .i64 p0.fR.fLen), .t (.sl 6 (p0.fP.map Put.enc))], .one (.t (.sl 1 (p1.map (eInt .u8)))), .one (.t (.int .i64 p2)), .one (.t (.sl 1 (p3.map (eInt .u8))))] (.one (.t (.bool r))) [] := by
  unfold spec_HoldsAny at h
  refine CallOK.of_bodyK (fn := Try.f53) (m := false) [.agg ((Disk.enc p0).map .t), .t (.sl 1 (p1.map (eInt .u8))), .t (.int .i64 p2), .t (.sl 1 (p3.map (eInt .u8)))] kr rfl kr kr kr kr kr ?_
  refine Wp.srg [] [] ?_
  refine Runs.alln ?_
  refine Wp.fg ⟨[(1, .t (.sl 1 (p1.map (eInt .u8)))), (2, .t (.int .i64 p2)), (3, .t (.sl 1 (p3.map (eInt .u8)))), (4, .obj 4 0), (8, .t (.bool false))], [(4, ((Disk.enc p0).map .t))], []⟩ ?_
  refine Wp.srg [] [] ?_
  refine Runs.batch 2 kr ?_
  obtain ⟨r1, e_r1, h⟩ := bind_some h
  refine Runs.callK false 11 51 [] [.agg ((Disk.enc p0).map .t), .t (.int .i64 0), .t (.sl 1 (p1.map (eInt .u8)))] _ _ _ rfl rfl kr kr kr kr kr (spec_Holds_ok u p0 0 p1 r1 e_r1) kr ?_
  refine Runs.batch 1 kr ?_
  rcases tf (r1) with hc | hc
  · have h := cond_t h hc
    refine Runs.known 12 (v := true) kr hc ?_
    refine Runs.alln ?_
    refine Wp.fg ⟨[(8, .t (.bool true))], [], []⟩ ?_
    refine Wp.ret ?_
    obtain rfl := Option.some.inj h
    exact RetK [.t (.bool true)] _ [] kr kr (.refl _) .nil
  have h := cond_f h hc
  refine Runs.known 12 (v := false) kr hc ?_
  refine Runs.batch 3 kr ?_
  obtain ⟨r2, e_r2, h⟩ := bind_some h
  refine Runs.callK false 16 51 [] [.agg ((Disk.enc p0).map .t), .t (.int .i64 p2), .t (.sl 1 (p3.map (eInt .u8)))] _ _ _ rfl rfl kr kr kr kr kr (spec_Holds_ok u p0 p2 p3 r2 e_r2) kr ?_
  refine Runs.alln ?_
  refine Wp.fg ⟨[(8, .t (.bool r2))], [], []⟩ ?_
  refine Wp.ret ?_
  obtain rfl := Option.some.inj h
  exact RetK [.t (.bool r2)] _ [] kr kr (.refl _) .nil
theorem impl_SafeFall_1_ok (u : Nat) (p0 : Disk) (q0 : List Int) (q1 : Int) (q2 : List Int) (r : Bool) (h : impl_SafeFall_1 u p0 q0 q1 q2 = some r) : CallOK Try.prog 112 [.agg [.t (.sl 1 (p0.fA.map (eInt .u8))), .t (.sl 1 (p0.fB.map (eInt .u8))), .t (.int .i64 p0.fR.fGen), .t (.int .i64 p0.fR.fSlot), .t (.int .i64 p0.fR.fLen), .t (.sl 6 (p0.fP.map Put.enc))], .fptr [.sl 1 (q0.map (eInt .u8))], .fptr [.int .i64 q1], .fptr [.sl 1 (q2.map (eInt .u8))]] (.one (.t (.bool r))) [] := by
  unfold impl_SafeFall_1 at h
  refine CallOK.of_bodyK (fn := Try.f112) (m := false) [.agg ((Disk.enc p0).map .t), .fadr [.sl 1 (q0.map (eInt .u8))], .fadr [.int .i64 q1], .fadr [.sl 1 (q2.map (eInt .u8))]] kr rfl kr kr kr kr kr ?_
  refine Wp.srg [] [] ?_
  refine Runs.alln ?_
  refine Wp.fg ⟨[(1, .fadr [.sl 1 (q0.map (eInt .u8))]), (2, .fadr [.int .i64 q1]), (3, .fadr [.sl 1 (q2.map (eInt .u8))]), (4, .obj 4 0), (5, .t (.bool false))], [(4, ((Disk.enc p0).map .t))], []⟩ ?_
  refine Wp.srg [] [] ?_
  refine Runs.batch 4 kr ?_
  obtain ⟨r1, e_r1, h⟩ := bind_some h
  refine Runs.callK false 10 52 [] [.agg ((Disk.enc p0).map .t), .t (.sl 1 (q0.map (eInt .u8))), .t (.int .i64 q1), .t (.sl 1 (q2.map (eInt .u8)))] _ _ _ rfl rfl kr kr kr kr kr (impl_HoldsAny_ok u p0 q0 q1 q2 r1 e_r1) kr ?_
  refine Runs.alln ?_
  refine Wp.fg ⟨[(5, .t (.bool (!r1)))], [], []⟩ ?_
  refine Wp.ret ?_
  obtain rfl := Option.some.inj h
  exact RetK [.t (.bool (!r1))] _ [] kr kr (.refl _) .nil
theorem slices_IndexFunc___impl_Disk_impl_Disk__impl_SafeFall_1_ok (u : Nat) (p0 : List Disk) (p1_0 : List Int) (p1_1 : Int) (p1_2 : List Int) (r : Int) (h : slices_IndexFunc___impl_Disk_impl_Disk__impl_SafeFall_1 u p0 p1_0 p1_1 p1_2 = some r) : CallOK Try.prog 145 [.one (.t (.sl 6 (p0.map Disk.enc))), .clo 112 [.fptr [.sl 1 (p1_0.map (eInt .u8))], .fptr [.int .i64 p1_1], .fptr [.sl 1 (p1_2.map (eInt .u8))]]] (.one (.t (.int .i64 r))) [] := by
  unfold slices_IndexFunc___impl_Disk_impl_Disk__impl_SafeFall_1 at h
  refine CallOK.of_bodyK (fn := Try.f145) (m := false) [.t (.sl 6 (p0.map Disk.enc)), .clo 112 [.fadr [.sl 1 (p1_0.map (eInt .u8))], .fadr [.int .i64 p1_1], .fadr [.sl 1 (p1_2.map (eInt .u8))]]] kr rfl kr kr kr kr kr ?_
  refine Wp.srg [] [] ?_
  refine Runs.alln ?_
  refine Wp.fg ⟨[(0, .t (.sl 6 (p0.map Disk.enc))), (1, .clo 112 [.fadr [.sl 1 (p1_0.map (eInt .u8))], .fadr [.int .i64 p1_1], .fadr [.sl 1 (p1_2.map (eInt .u8))]]), (4, .t (.int .i64 0))], [], []⟩ ?_
  refine Wp.seqJ (α := Unit) (fun a => ⟨[(4, .t (.int .i64 0))], [], []⟩) (fun a => slices_IndexFunc___impl_Disk_impl_Disk__impl_SafeFall_1_j1 u = some r) ?_ ?_
  · rintro ⟨⟩ h
    change slices_IndexFunc___impl_Disk_impl_Disk__impl_SafeFall_1_j1 u = some r at h
    unfold slices_IndexFunc___impl_Disk_impl_Disk__impl_SafeFall_1_j1 at h
    refine Wp.srg [] [] ?_
    refine Runs.alln ?_
    refine Wp.fg ⟨[(4, .t (.int .i64 (-1)))], [], []⟩ ?_
    refine Wp.ret ?_
    obtain rfl := Option.some.inj h
    exact RetK [.t (.int .i64 (-1))] _ [] kr kr (.refl _) .nil
  · refine Wp.srg [] [] ?_
    refine Runs.batch 1 kr ?_
    refine Runs.lenT (y := .t (.sl 6 (p0.map Disk.enc))) (e := 43) Disk.enc p0 6 rfl rfl rfl kr kr kr kr kr ?_
    refine Runs.alln ?_
    refine Wp.fg ⟨[(0, .t (.sl 6 (p0.map Disk.enc))), (1, .clo 112 [.fadr [.sl 1 (p1_0.map (eInt .u8))], .fadr [.int .i64 p1_1], .fadr [.sl 1 (p1_2.map (eInt .u8))]]), (4, .t (.int .i64 0)), (7, .t (.int .i64 ((p0.length : Int)))), (8, .t (.int .i64 0))], [], []⟩ ?_
    refine Wp.block ?_
    refine Wp.loopF (α := (List Disk) × (List Int) × Int × (List Int) × Int) (fun a => ⟨[(0, .t (.sl 6 (a.1.map Disk.enc))), (1, .clo 112 [.fadr [.sl 1 (a.2.1.map (eInt .u8))], .fadr [.int .i64 a.2.2.1], .fadr [.sl 1 (a.2.2.2.1.map (eInt .u8))]]), (4, .t (.int .i64 0)), (7, .t (.int .i64 ((a.1.length : Int)))), (8, .t (.int .i64 a.2.2.2.2))], [], []⟩) (fun k_slices_IndexFunc___impl_Disk_impl_Disk__impl_SafeFall_1_l2 a => slices_IndexFunc___impl_Disk_impl_Disk__impl_SafeFall_1_l2 u k_slices_IndexFunc___impl_Disk_impl_Disk__impl_SafeFall_1_l2 a.1 a.2.1 a.2.2.1 a.2.2.2.1 a.2.2.2.2 = some r) ?_ ?_ u (p0, p1_0, p1_1, p1_2, 0) h (Le.of (mo := []) (mr := []) kr kr kr kr)
    · intro a h; unfold slices_IndexFunc___impl_Disk_impl_Disk__impl_SafeFall_1_l2 at h; cases h
    · rintro k_slices_IndexFunc___impl_Disk_impl_Disk__impl_SafeFall_1_l2 ⟨p0, p1_0, p1_1, p1_2, x2⟩ h
      change slices_IndexFunc___impl_Disk_impl_Disk__impl_SafeFall_1_l2 u (k_slices_IndexFunc___impl_Disk_impl_Disk__impl_SafeFall_1_l2 + 1) p0 p1_0 p1_1 p1_2 x2 = some r at h
      rw [slices_IndexFunc___impl_Disk_impl_Disk__impl_SafeFall_1_l2] at h
      refine Wp.srg [] [] ?_
      refine Runs.alln ?_
      refine Wp.fg ⟨[(0, .t (.sl 6 (p0.map Disk.enc))), (1, .clo 112 [.fadr [.sl 1 (p1_0.map (eInt .u8))], .fadr [.int .i64 p1_1], .fadr [.sl 1 (p1_2.map (eInt .u8))]]), (4, .t (.int .i64 0)), (7, .t (.int .i64 ((p0.length : Int)))), (8, .t (.int .i64 x2)), (9, .t (.bool (decide (x2 < ((p0.length : Int))))))], [], []⟩ ?_
      refine Wp.seq ?_
      refine Wp.cond2 (b := decide (x2 < ((p0.length : Int)))) kr (fun hc => ?_) (fun hc => ?_)
      · have h := cond_t h hc
        refine Wp.skip (thenN ?_)
        refine Wp.seq ?_
        refine Wp.block ?_
        refine Wp.srg [] [] ?_
        refine Runs.alln ?_
        refine Wp.fg ⟨[(0, .t (.sl 6 (p0.map Disk.enc))), (1, .clo 112 [.fadr [.sl 1 (p1_0.map (eInt .u8))], .fadr [.int .i64 p1_1], .fadr [.sl 1 (p1_2.map (eInt .u8))]]), (4, .t (.int .i64 0)), (5, .t (.int .i64 x2)), (7, .t (.int .i64 ((p0.length : Int)))), (8, .t (.int .i64 x2))], [], []⟩ ?_
        refine Wp.srg [] [] ?_
        refine Runs.batch 3 kr ?_
        obtain ⟨y4, e_y4, h⟩ := bind_some h
        refine Runs.idxT (e := 43) (kk := .i64) (sz := 6) Disk.enc p0 x2 rfl kr kr kr kr kr kr e_y4 ?_
        refine Runs.batch 1 kr ?_
        obtain ⟨r5, e_r5, h⟩ := bind_some h
        refine Runs.callK false 16 112 [.fadr [.sl 1 (p1_0.map (eInt .u8))], .fadr [.int .i64 p1_1], .fadr [.sl 1 (p1_2.map (eInt .u8))]] [.agg ((Disk.enc y4).map .t)] _ _ _ rfl rfl kr kr kr kr kr (impl_SafeFall_1_ok u y4 p1_0 p1_1 p1_2 r5 e_r5) kr ?_
        refine Runs.done ?_
        refine thenN ?_
        refine Wp.fg ⟨[(0, .t (.sl 6 (p0.map Disk.enc))), (1, .clo 112 [.fadr [.sl 1 (p1_0.map (eInt .u8))], .fadr [.int .i64 p1_1], .fadr [.sl 1 (p1_2.map (eInt .u8))]]), (4, .t (.int .i64 0)), (5, .t (.int .i64 x2)), (7, .t (.int .i64 ((p0.length : Int)))), (8, .t (.int .i64 x2)), (16, .t (.bool r5))], [], []⟩ ?_
        refine Wp.cond2 (b := r5) kr (fun hc => ?_) (fun hc => ?_)
        · have h := cond_t h hc
          refine Wp.srg [] [] ?_
          refine Runs.alln ?_
          refine Wp.fg ⟨[(0, .t (.sl 6 (p0.map Disk.enc))), (1, .clo 112 [.fadr [.sl 1 (p1_0.map (eInt .u8))], .fadr [.int .i64 p1_1], .fadr [.sl 1 (p1_2.map (eInt .u8))]]), (4, .t (.int .i64 x2)), (7, .t (.int .i64 ((p0.length : Int)))), (8, .t (.int .i64 x2))], [], []⟩ ?_
          refine Wp.ret ?_
          refine blkR ?_
          refine thenR ?_
          refine thenR ?_
          refine blkR ?_
          refine thenR ?_
          obtain rfl := Option.some.inj h
          exact RetK [.t (.int .i64 x2)] _ [] kr kr (.refl _) .nil
        have h := cond_f h hc
        refine Wp.skip ?_
        refine blkN ?_
        refine thenN ?_
        refine Wp.rg [] [] ?_
        refine Runs.alln ?_
        exact ⟨(p0, p1_0, p1_1, p1_2, bAdd .i64 x2 1), h, Le.of (mo := []) (mr := []) kr kr kr kr⟩
      have h := cond_f h hc
      refine Wp.exit ?_
      refine thenE ?_
      refine thenE ?_
      refine blkE ?_
      refine thenN ?_
      exact ⟨(), h, Le.of (mo := []) (mr := []) kr kr kr kr⟩
theorem slices_ContainsFunc___impl_Disk_impl_Disk__impl_SafeFall_1_ok (u : Nat) (p0 : List Disk) (p1_0 : List Int) (p1_1 : Int) (p1_2 : List Int) (r : Bool) (h : slices_ContainsFunc___impl_Disk_impl_Disk__impl_SafeFall_1 u p0 p1_0 p1_1 p1_2 = some r) : CallOK Try.prog 111 [.one (.t (.sl 6 (p0.map Disk.enc))), .clo 112 [.fptr [.sl 1 (p1_0.map (eInt .u8))], .fptr [.int .i64 p1_1], .fptr [.sl 1 (p1_2.map (eInt .u8))]]] (.one (.t (.bool r))) [] := by
  unfold slices_ContainsFunc___impl_Disk_impl_Disk__impl_SafeFall_1 at h
  refine CallOK.of_bodyK (fn := Try.f111) (m := false) [.t (.sl 6 (p0.map Disk.enc)), .clo 112 [.fadr [.sl 1 (p1_0.map (eInt .u8))], .fadr [.int .i64 p1_1], .fadr [.sl 1 (p1_2.map (eInt .u8))]]] kr rfl kr kr kr kr kr ?_
  refine Wp.srg [] [] ?_
  refine Runs.alln ?_
  refine Wp.fg ⟨[(0, .t (.sl 6 (p0.map Disk.enc))), (1, .clo 112 [.fadr [.sl 1 (p1_0.map (eInt .u8))], .fadr [.int .i64 p1_1], .fadr [.sl 1 (p1_2.map (eInt .u8))]]), (4, .t (.bool false))], [], []⟩ ?_
  refine Wp.srg [] [] ?_
  refine Runs.batch 2 kr ?_
  obtain ⟨r1, e_r1, h⟩ := bind_some h
  refine Runs.callK false 7 145 [] [.t (.sl 6 (p0.map Disk.enc)), .clo 112 [.fadr [.sl 1 (p1_0.map (eInt .u8))], .fadr [.int .i64 p1_1], .fadr [.sl 1 (p1_2.map (eInt .u8))]]] _ _ _ rfl rfl kr kr kr kr kr (slices_IndexFunc___impl_Disk_impl_Disk__impl_SafeFall_1_ok u p0 p1_0 p1_1 p1_2 r1 e_r1) kr ?_
  refine Runs.alln ?_
  refine Wp.fg ⟨[(4, .t (.bool (decide (r1 ≥ 0))))], [], []⟩ ?_
  refine Wp.ret ?_
  obtain rfl := Option.some.inj h
  exact RetK [.t (.bool (decide (r1 ≥ 0)))] _ [] kr kr (.refl _) .nil
theorem impl_SafeFall_ok (u : Nat) (p0 : Disk) (p1 : List Int) (p2 : Int) (p3 : List Int) (r : Bool) (h : impl_SafeFall u p0 p1 p2 p3 = some r) : CallOK Try.prog 54 [.agg [.t (.sl 1 (p0.fA.map (eInt .u8))), .t (.sl 1 (p0.fB.map (eInt .u8))), .t (.int .i64 p0.fR.fGen), .t (.int .i64 p0.fR.fSlot), .t (.int .i64 p0.fR.fLen), .t (.sl 6 (p0.fP.map Put.enc))], .one (.t (.sl 1 (p1.map (eInt .u8)))), .one (.t (.int .i64 p2)), .one (.t (.sl 1 (p3.map (eInt .u8))))] (.one (.t (.bool r))) [] := by
  unfold impl_SafeFall at h
  refine CallOK.of_bodyK (fn := Try.f54) (m := false) [.agg ((Disk.enc p0).map .t), .t (.sl 1 (p1.map (eInt .u8))), .t (.int .i64 p2), .t (.sl 1 (p3.map (eInt .u8)))] kr rfl kr kr kr kr kr ?_
  refine Wp.srg [] [] ?_
  refine Runs.alln ?_
  refine Wp.fg ⟨[(4, .obj 4 0), (5, .obj 5 0), (6, .obj 6 0), (7, .obj 7 0), (8, .t (.bool false))], [(4, ((Disk.enc p0).map .t)), (5, [.t (.sl 1 (p1.map (eInt .u8)))]), (6, [.t (.int .i64 p2)]), (7, [.t (.sl 1 (p3.map (eInt .u8)))])], []⟩ ?_
  refine Wp.seq ?_
  refine Wp.le (Le.trans (Le.frzOb 5 [.sl 1 (p1.map (eInt .u8))] kr kr) (Le.trans (Le.frzOb 6 [.int .i64 p2] kr kr) (Le.trans (Le.frzOb 7 [.sl 1 (p3.map (eInt .u8))] kr kr) (Le.of (s := ⟨[(4, .obj 4 0), (5, .fadr [.sl 1 (p1.map (eInt .u8))]), (6, .fadr [.int .i64 p2]), (7, .fadr [.sl 1 (p3.map (eInt .u8))]), (8, .t (.bool false))], [(4, ((Disk.enc p0).map .t))], []⟩) (mo := []) (mr := []) kr kr kr kr)))) ?_
  refine Wp.rg [] [] ?_
  refine Runs.batch 4 kr ?_
  obtain ⟨r1, e_r1, h⟩ := bind_some h
  refine Runs.callK false 13 52 [] [.agg ((Disk.enc p0).map .t), .t (.sl 1 (p1.map (eInt .u8))), .t (.int .i64 p2), .t (.sl 1 (p3.map (eInt .u8)))] _ _ _ rfl rfl kr kr kr kr kr (impl_HoldsAny_ok u p0 p1 p2 p3 r1 e_r1) kr ?_
  refine Runs.batch 1 kr ?_
  rcases tf (r1) with hc | hc
  · have h := cond_t h hc
    refine Runs.known 14 (v := true) kr hc ?_
    refine Runs.batch 1 kr ?_
    obtain ⟨r2, e_r2, h⟩ := bind_some h
    refine Runs.callK false 16 48 [] [.agg ((Disk.enc p0).map .t)] _ _ _ rfl rfl kr kr kr kr kr (impl_AllFalls_ok u p0 r2 e_r2) kr ?_
    refine Runs.batch 1 kr ?_
    obtain ⟨r3, e_r3, h⟩ := bind_some h
    refine Runs.callBK 18 111 [] [.own 1048576, .clo 112 [.fadr [.sl 1 (p1.map (eInt .u8))], .fadr [.int .i64 p2], .fadr [.sl 1 (p3.map (eInt .u8))]]] [.one (.t (.sl 6 (r2.map Disk.enc))), .clo 112 [.fptr [.sl 1 (p1.map (eInt .u8))], .fptr [.int .i64 p2], .fptr [.sl 1 (p3.map (eInt .u8))]]] (.one (.t (.bool r3))) rfl rfl kr kr kr kr kr (slices_ContainsFunc___impl_Disk_impl_Disk__impl_SafeFall_1_ok u r2 p1 p2 p3 r3 e_r3) (by simp [V.plain, V.plains, C.plain, T.sc]) kr ?_
    refine Runs.alln ?_
    refine Wp.fg ⟨[(8, .t (.bool (!r3)))], [], []⟩ ?_
    refine Wp.ret ?_
    obtain rfl := Option.some.inj h
    exact RetK [.t (.bool (!r3))] _ [] kr kr (.refl _) .nil
  have h := cond_f h hc
  refine Runs.known 14 (v := false) kr hc ?_
  refine Runs.alln ?_
  refine Wp.fg ⟨[(8, .t (.bool false))], [], []⟩ ?_
  refine Wp.ret ?_
  obtain rfl := Option.some.inj h
  exact RetK [.t (.bool false)] _ [] kr kr (.refl _) .nil
theorem spec_SafeFall_ok (u : Nat) (p0 : Disk) (p1 : List Int) (p2 : Int) (p3 : List Int) (r : Bool) (h : spec_SafeFall u p0 p1 p2 p3 = some r) : CallOK Try.prog 55 [.agg [.t (.sl 1 (p0.fA.map (eInt .u8))), .t (.sl 1 (p0.fB.map (eInt .u8))), .t (.int .i64 p0.fR.fGen), .t (.int .i64 p0.fR.fSlot), .t (.int .i64 p0.fR.fLen), .t (.sl 6 (p0.fP.map Put.enc))], .one (.t (.sl 1 (p1.map (eInt .u8)))), .one (.t (.int .i64 p2)), .one (.t (.sl 1 (p3.map (eInt .u8))))] (.one (.t (.bool r))) [] := by
  unfold spec_SafeFall at h
  refine CallOK.of_bodyK (fn := Try.f55) (m := false) [.agg ((Disk.enc p0).map .t), .t (.sl 1 (p1.map (eInt .u8))), .t (.int .i64 p2), .t (.sl 1 (p3.map (eInt .u8)))] kr rfl kr kr kr kr kr ?_
  refine Wp.srg [] [] ?_
  refine Runs.alln ?_
  refine Wp.fg ⟨[(1, .t (.sl 1 (p1.map (eInt .u8)))), (2, .t (.int .i64 p2)), (3, .t (.sl 1 (p3.map (eInt .u8)))), (4, .obj 4 0), (8, .t (.bool false))], [(4, ((Disk.enc p0).map .t))], []⟩ ?_
  refine Wp.srg [] [] ?_
  refine Runs.batch 1 kr ?_
  obtain ⟨r1, e_r1, h⟩ := bind_some h
  refine Runs.callK false 12 49 [] [.agg ((Disk.enc p0).map .t)] _ _ _ rfl rfl kr kr kr kr kr (spec_AllFalls_ok u p0 r1 e_r1) kr ?_
  refine Runs.alln ?_
  refine Wp.fg ⟨[(1, .t (.sl 1 (p1.map (eInt .u8)))), (2, .t (.int .i64 p2)), (3, .t (.sl 1 (p3.map (eInt .u8)))), (4, .obj 4 0), (8, .t (.bool false)), (9, .own 786432)], [(4, ((Disk.enc p0).map .t))], [(786432, .live 43 6 (r1.map Disk.enc))]⟩ ?_
  refine Wp.seqJ (α := (List Int) × Int × (List Int) × Disk) (fun a => ⟨[(1, .t (.sl 1 (a.1.map (eInt .u8)))), (2, .t (.int .i64 a.2.1)), (3, .t (.sl 1 (a.2.2.1.map (eInt .u8)))), (4, .obj 4 0), (8, .t (.bool false))], [(4, ((Disk.enc a.2.2.2).map .t))], []⟩) (fun a => spec_SafeFall_j1 u a.1 a.2.1 a.2.2.1 a.2.2.2 = some r) ?_ ?_
  · rintro ⟨p1, p2, p3, p0⟩ h
    change spec_SafeFall_j1 u p1 p2 p3 p0 = some r at h
    unfold spec_SafeFall_j1 at h
    refine Wp.srg [] [] ?_
    refine Runs.batch 4 kr ?_
    obtain ⟨r7, e_r7, h⟩ := bind_some h
    refine Runs.callK false 32 53 [] [.agg ((Disk.enc p0).map .t), .t (.sl 1 (p1.map (eInt .u8))), .t (.int .i64 p2), .t (.sl 1 (p3.map (eInt .u8)))] _ _ _ rfl rfl kr kr kr kr kr (spec_HoldsAny_ok u p0 p1 p2 p3 r7 e_r7) kr ?_
    refine Runs.alln ?_
    refine Wp.fg ⟨[(8, .t (.bool r7))], [], []⟩ ?_
    refine Wp.ret ?_
    obtain rfl := Option.some.inj h
    exact RetK [.t (.bool r7)] _ [] kr kr (.refl _) .nil
  · refine Wp.srg [] [] ?_
    refine Runs.alln ?_
    refine Wp.fg ⟨[(1, .t (.sl 1 (p1.map (eInt .u8)))), (2, .t (.int .i64 p2)), (3, .t (.sl 1 (p3.map (eInt .u8)))), (4, .obj 4 0), (8, .t (.bool false)), (9, .own 786432), (10, .t (.int .i64 0))], [(4, ((Disk.enc p0).map .t))], [(786432, .live 43 6 (r1.map Disk.enc))]⟩ ?_
    refine Wp.block ?_
    refine Wp.loopF (α := (List Int) × Int × (List Int) × ((List Disk)) × Int × Disk) (fun a => ⟨[(1, .t (.sl 1 (a.1.map (eInt .u8)))), (2, .t (.int .i64 a.2.1)), (3, .t (.sl 1 (a.2.2.1.map (eInt .u8)))), (4, .obj 4 0), (8, .t (.bool false)), (9, .own 589825), (10, .t (.int .i64 a.2.2.2.2.1))], [(4, ((Disk.enc a.2.2.2.2.2).map .t))], [(589825, .live 43 6 (a.2.2.2.1.map Disk.enc))]⟩) (fun k_spec_SafeFall_l2 a => spec_SafeFall_l2 u k_spec_SafeFall_l2 a.1 a.2.1 a.2.2.1 a.2.2.2.1 a.2.2.2.2.1 a.2.2.2.2.2 = some r) ?_ ?_ u (p1, p2, p3, r1, 0, p0) h (Le.of (mo := []) (mr := [(589825, 786432)]) kr kr kr kr)
    · intro a h; unfold spec_SafeFall_l2 at h; cases h
    · rintro k_spec_SafeFall_l2 ⟨p1, p2, p3, r1, x3, p0⟩ h
      change spec_SafeFall_l2 u (k_spec_SafeFall_l2 + 1) p1 p2 p3 r1 x3 p0 = some r at h
      rw [spec_SafeFall_l2] at h
      refine Wp.seq ?_
      refine Wp.srg [] [] ?_
      refine Runs.batch 2 kr ?_
      refine Runs.lenT (y := .own 589825) (e := 43) Disk.enc r1 6 rfl rfl rfl kr kr kr kr kr ?_
      refine Runs.alln ?_
      refine Wp.fg ⟨[(1, .t (.sl 1 (p1.map (eInt .u8)))), (2, .t (.int .i64 p2)), (3, .t (.sl 1 (p3.map (eInt .u8)))), (4, .obj 4 0), (8, .t (.bool false)), (9, .own 589825), (10, .t (.int .i64 x3)), (16, .t (.bool (decide (x3 < ((r1.length : Int))))))], [(4, ((Disk.enc p0).map .t))], [(589825, .live 43 6 (r1.map Disk.enc))]⟩ ?_
      refine Wp.cond2 (b := decide (x3 < ((r1.length : Int)))) kr (fun hc => ?_) (fun hc => ?_)
      · have h := cond_t h hc
        refine Wp.skip (thenN ?_)
        refine Wp.seq ?_
        refine Wp.block ?_
        refine Wp.srg [] [] ?_
        refine Runs.batch 2 kr ?_
        obtain ⟨y5, e_y5, h⟩ := bind_some h
        refine Runs.idxO (e := 43) (e' := 43) (kk := .i64) (sz := 6) Disk.enc r1 x3 589825 rfl kr kr kr kr kr kr kr e_y5 ?_
        refine Runs.loadE (e' := 43) (sz := 6) (m := 6) (gg := true) Disk.enc r1 589825 (Int.toNat x3) 0 (.agg ((Disk.enc y5).map .t)) rfl kr kr kr kr kr kr (idx_some e_y5).2 kr ?_
        refine Runs.batch 3 kr ?_
        obtain ⟨r6, e_r6, h⟩ := bind_some h
        refine Runs.callK false 26 53 [] [.agg ((Disk.enc y5).map .t), .t (.sl 1 (p1.map (eInt .u8))), .t (.int .i64 p2), .t (.sl 1 (p3.map (eInt .u8)))] _ _ _ rfl rfl kr kr kr kr kr (spec_HoldsAny_ok u y5 p1 p2 p3 r6 e_r6) kr ?_
        refine Runs.alln ?_
        refine Wp.fg ⟨[(1, .t (.sl 1 (p1.map (eInt .u8)))), (2, .t (.int .i64 p2)), (3, .t (.sl 1 (p3.map (eInt .u8)))), (4, .obj 4 0), (8, .t (.bool false)), (9, .own 589825), (10, .t (.int .i64 x3)), (27, .t (.bool (!r6)))], [(4, ((Disk.enc p0).map .t))], [(589825, .live 43 6 (r1.map Disk.enc))]⟩ ?_
        refine Wp.cond2 (b := !r6) kr (fun hc => ?_) (fun hc => ?_)
        · have h := cond_t h hc
          refine Wp.srg [] [] ?_
          refine Runs.alln ?_
          refine Wp.fg ⟨[(1, .t (.sl 1 (p1.map (eInt .u8)))), (2, .t (.int .i64 p2)), (3, .t (.sl 1 (p3.map (eInt .u8)))), (4, .obj 4 0), (8, .t (.bool false)), (9, .own 589825), (10, .t (.int .i64 x3))], [(4, ((Disk.enc p0).map .t))], [(589825, .live 43 6 (r1.map Disk.enc))]⟩ ?_
          refine Wp.ret ?_
          refine blkR ?_
          refine thenR ?_
          refine thenR ?_
          refine blkR ?_
          refine thenR ?_
          obtain rfl := Option.some.inj h
          exact RetK [.t (.bool false)] _ [] kr kr (.refl _) .nil
        have h := cond_f h hc
        refine Wp.skip ?_
        refine blkN ?_
        refine thenN ?_
        refine Wp.rg [] [] ?_
        refine Runs.alln ?_
        exact ⟨(p1, p2, p3, r1, bAdd .i64 x3 1, p0), h, Le.of (mo := []) (mr := []) kr kr kr kr⟩
      have h := cond_f h hc
      refine Wp.exit ?_
      refine thenE ?_
      refine thenE ?_
      refine blkE ?_
      refine thenN ?_
      exact ⟨(p1, p2, p3, p0), h, Le.of (mo := []) (mr := []) kr kr kr kr⟩
theorem impl_Spare_ok (u : Nat) (p0 : Disk) (r : Int) (h : impl_Spare u p0 = some r) : CallOK Try.prog 56 [.agg [.t (.sl 1 (p0.fA.map (eInt .u8))), .t (.sl 1 (p0.fB.map (eInt .u8))), .t (.int .i64 p0.fR.fGen), .t (.int .i64 p0.fR.fSlot), .t (.int .i64 p0.fR.fLen), .t (.sl 6 (p0.fP.map Put.enc))]] (.one (.t (.int .i64 r))) [] := by
  unfold impl_Spare at h
  refine CallOK.of_bodyK (fn := Try.f56) (m := false) [.agg ((Disk.enc p0).map .t)] kr rfl kr kr kr kr kr ?_
  refine Wp.srg [] [] ?_
  refine Runs.alln ?_
  refine Wp.fg ⟨[(1, .obj 1 0), (2, .t (.int .i64 0))], [(1, ((Disk.enc p0).map .t))], []⟩ ?_
  refine Wp.srg [] [] ?_
  refine Runs.alln ?_
  refine Wp.fg ⟨[(2, .t (.int .i64 (bSub .i64 1 p0.fR.fSlot)))], [], []⟩ ?_
  refine Wp.ret ?_
  obtain rfl := Option.some.inj h
  exact RetK [.t (.int .i64 (bSub .i64 1 p0.fR.fSlot))] _ [] kr kr (.refl _) .nil
theorem spec_Spare_ok (u : Nat) (p0 : Disk) (r : Int) (h : spec_Spare u p0 = some r) : CallOK Try.prog 57 [.agg [.t (.sl 1 (p0.fA.map (eInt .u8))), .t (.sl 1 (p0.fB.map (eInt .u8))), .t (.int .i64 p0.fR.fGen), .t (.int .i64 p0.fR.fSlot), .t (.int .i64 p0.fR.fLen), .t (.sl 6 (p0.fP.map Put.enc))]] (.one (.t (.int .i64 r))) [] := by
  unfold spec_Spare at h
  refine CallOK.of_bodyK (fn := Try.f57) (m := false) [.agg ((Disk.enc p0).map .t)] kr rfl kr kr kr kr kr ?_
  refine Wp.srg [] [] ?_
  refine Runs.alln ?_
  refine Wp.fg ⟨[(1, .obj 1 0), (2, .t (.int .i64 0))], [(1, ((Disk.enc p0).map .t))], []⟩ ?_
  refine Wp.srg [] [] ?_
  refine Runs.alln ?_
  refine Wp.fg ⟨[(2, .t (.int .i64 (bSub .i64 1 p0.fR.fSlot)))], [], []⟩ ?_
  refine Wp.ret ?_
  obtain rfl := Option.some.inj h
  exact RetK [.t (.int .i64 (bSub .i64 1 p0.fR.fSlot))] _ [] kr kr (.refl _) .nil
theorem laws_sameDisk_ok (u : Nat) (p0 : Disk) (p1 : Disk) (r : Bool) (h : laws_sameDisk u p0 p1 = some r) : CallOK Try.prog 29 [.agg [.t (.sl 1 (p0.fA.map (eInt .u8))), .t (.sl 1 (p0.fB.map (eInt .u8))), .t (.int .i64 p0.fR.fGen), .t (.int .i64 p0.fR.fSlot), .t (.int .i64 p0.fR.fLen), .t (.sl 6 (p0.fP.map Put.enc))], .agg [.t (.sl 1 (p1.fA.map (eInt .u8))), .t (.sl 1 (p1.fB.map (eInt .u8))), .t (.int .i64 p1.fR.fGen), .t (.int .i64 p1.fR.fSlot), .t (.int .i64 p1.fR.fLen), .t (.sl 6 (p1.fP.map Put.enc))]] (.one (.t (.bool r))) [] := by
  unfold laws_sameDisk at h
  refine CallOK.of_bodyK (fn := Try.f29) (m := false) [.agg ((Disk.enc p0).map .t), .agg ((Disk.enc p1).map .t)] kr rfl kr kr kr kr kr ?_
  refine Wp.srg [] [] ?_
  refine Runs.alln ?_
  refine Wp.fg ⟨[(2, .obj 2 0), (3, .obj 3 0), (4, .t (.bool false))], [(2, ((Disk.enc p0).map .t)), (3, ((Disk.enc p1).map .t))], []⟩ ?_
  refine Wp.seq ?_
  refine Wp.seqJ (α := Bool × Disk × Disk) (fun a => ⟨[(2, .obj 2 0), (3, .obj 3 0), (4, .t (.bool false)), (37, .t (.bool a.1))], [(2, ((Disk.enc a.2.1).map .t)), (3, ((Disk.enc a.2.2).map .t))], []⟩) (fun a => laws_sameDisk_j1 u a.1 a.2.1 a.2.2 = some r) ?_ ?_
  · rintro ⟨x3, p0, p1⟩ h
    change laws_sameDisk_j1 u x3 p0 p1 = some r at h
    unfold laws_sameDisk_j1 at h
    refine Wp.cond2 (b := x3) kr (fun hc => ?_) (fun hc => ?_)
    · have h := cond_t h hc
      refine Wp.srg [] [] ?_
      refine Runs.alln ?_
      refine Wp.fg ⟨[(2, .obj 2 0), (3, .obj 3 0), (4, .t (.bool false))], [(2, ((Disk.enc p0).map .t)), (3, ((Disk.enc p1).map .t))], []⟩ ?_
      refine Wp.ret ?_
      refine thenR ?_
      obtain rfl := Option.some.inj h
      exact RetK [.t (.bool false)] _ [] kr kr (.refl _) .nil
    have h := cond_f h hc
    refine Wp.skip (thenN ?_)
    refine Wp.seqJ (α := Unit) (fun a => ⟨[(4, .t (.bool false))], [], []⟩) (fun a => laws_sameDisk_j2 u = some r) ?_ ?_
    · rintro ⟨⟩ h
      change laws_sameDisk_j2 u = some r at h
      unfold laws_sameDisk_j2 at h
      refine Wp.srg [] [] ?_
      refine Runs.alln ?_
      refine Wp.fg ⟨[(4, .t (.bool true))], [], []⟩ ?_
      refine Wp.ret ?_
      obtain rfl := Option.some.inj h
      exact RetK [.t (.bool true)] _ [] kr kr (.refl _) .nil
    · refine Wp.srg [] [] ?_
      refine Runs.alln ?_
      refine Wp.fg ⟨[(2, .obj 2 0), (3, .obj 3 0), (4, .t (.bool false)), (5, .t (.int .i64 0))], [(2, ((Disk.enc p0).map .t)), (3, ((Disk.enc p1).map .t))], []⟩ ?_
      refine Wp.block ?_
      refine Wp.loopF (α := Int × Disk × Disk) (fun a => ⟨[(2, .obj 2 0), (3, .obj 3 0), (4, .t (.bool false)), (5, .t (.int .i64 a.1))], [(2, ((Disk.enc a.2.1).map .t)), (3, ((Disk.enc a.2.2).map .t))], []⟩) (fun k_laws_sameDisk_l3 a => laws_sameDisk_l3 u k_laws_sameDisk_l3 a.1 a.2.1 a.2.2 = some r) ?_ ?_ u (0, p0, p1) h (Le.of (mo := []) (mr := []) kr kr kr kr)
      · intro a h; unfold laws_sameDisk_l3 at h; cases h
      · rintro k_laws_sameDisk_l3 ⟨x5, p0, p1⟩ h
        change laws_sameDisk_l3 u (k_laws_sameDisk_l3 + 1) x5 p0 p1 = some r at h
        rw [laws_sameDisk_l3] at h
        refine Wp.seq ?_
        refine Wp.srg [] [] ?_
        refine Runs.batch 3 kr ?_
        refine Runs.lenT (y := .t (.sl 6 (p0.fP.map Put.enc))) (e := 48) Put.enc p0.fP 6 rfl rfl rfl kr kr kr kr kr ?_
        refine Runs.alln ?_
        refine Wp.fg ⟨[(2, .obj 2 0), (3, .obj 3 0), (4, .t (.bool false)), (5, .t (.int .i64 x5)), (42, .t (.bool (decide (x5 < ((p0.fP.length : Int))))))], [(2, ((Disk.enc p0).map .t)), (3, ((Disk.enc p1).map .t))], []⟩ ?_
        refine Wp.cond2 (b := decide (x5 < ((p0.fP.length : Int)))) kr (fun hc => ?_) (fun hc => ?_)
        · have h := cond_t h hc
          refine Wp.skip (thenN ?_)
          refine Wp.seq ?_
          refine Wp.block ?_
          refine Wp.srg [] [] ?_
          refine Runs.batch 3 kr ?_
          obtain ⟨y7, e_y7, h⟩ := bind_some h
          refine Runs.idxT (e := 48) (kk := .i64) (sz := 6) Put.enc p0.fP x5 rfl kr kr kr kr kr kr e_y7 ?_
          refine Runs.alln ?_
          refine Wp.fg ⟨[(2, .obj 2 0), (3, .obj 3 0), (4, .t (.bool false)), (5, .t (.int .i64 x5)), (6, .obj 6 0)], [(2, ((Disk.enc p0).map .t)), (3, ((Disk.enc p1).map .t)), (6, ((Put.enc y7).map .t))], []⟩ ?_
          refine Wp.srg [] [] ?_
          refine Runs.batch 3 kr ?_
          obtain ⟨y8, e_y8, h⟩ := bind_some h
          refine Runs.idxT (e := 48) (kk := .i64) (sz := 6) Put.enc p1.fP x5 rfl kr kr kr kr kr kr e_y8 ?_
          refine Runs.alln ?_
          refine Wp.fg ⟨[(2, .obj 2 0), (3, .obj 3 0), (4, .t (.bool false)), (5, .t (.int .i64 x5)), (6, .obj 6 0), (7, .obj 7 0)], [(2, ((Disk.enc p0).map .t)), (3, ((Disk.enc p1).map .t)), (6, ((Put.enc y7).map .t)), (7, ((Put.enc y8).map .t))], []⟩ ?_
          refine Wp.seqJ (α := Int × Bool × Disk × Disk) (fun a => ⟨[(2, .obj 2 0), (3, .obj 3 0), (4, .t (.bool false)), (5, .t (.int .i64 a.1)), (81, .t (.bool a.2.1))], [(2, ((Disk.enc a.2.2.1).map .t)), (3, ((Disk.enc a.2.2.2).map .t))], []⟩) (fun a => laws_sameDisk_j4 u (fun z0 z1 z2 => laws_sameDisk_l3 u k_laws_sameDisk_l3 z0 z1 z2) a.1 a.2.1 a.2.2.1 a.2.2.2 = some r) ?_ ?_
          · rintro ⟨x5, x10, p0, p1⟩ h
            change laws_sameDisk_j4 u (fun z0 z1 z2 => laws_sameDisk_l3 u k_laws_sameDisk_l3 z0 z1 z2) x5 x10 p0 p1 = some r at h
            unfold laws_sameDisk_j4 at h
            refine Wp.cond2 (b := x10) kr (fun hc => ?_) (fun hc => ?_)
            · have h := cond_t h hc
              refine Wp.srg [] [] ?_
              refine Runs.alln ?_
              refine Wp.fg ⟨[(2, .obj 2 0), (3, .obj 3 0), (4, .t (.bool false)), (5, .t (.int .i64 x5))], [(2, ((Disk.enc p0).map .t)), (3, ((Disk.enc p1).map .t))], []⟩ ?_
              refine Wp.ret ?_
              refine blkR ?_
              refine thenR ?_
              refine thenR ?_
              refine blkR ?_
              refine thenR ?_
              obtain rfl := Option.some.inj h
              exact RetK [.t (.bool false)] _ [] kr kr (.refl _) .nil
            have h := cond_f h hc
            refine Wp.skip ?_
            refine blkN ?_
            refine thenN ?_
            refine Wp.rg [] [] ?_
            refine Runs.alln ?_
            exact ⟨(bAdd .i64 x5 1, p0, p1), h, Le.of (mo := []) (mr := []) kr kr kr kr⟩
          · refine Wp.rg [] [] ?_
            refine Runs.batch 6 kr ?_
            rcases tf (y7.fWhat != y8.fWhat) with hc | hc
            · have h := cond_t h hc
              refine Runs.known 60 (v := true) kr hc ?_
              refine Runs.alln ?_
              exact ⟨(x5, true, p0, p1), h, Le.of (mo := []) (mr := []) kr kr kr kr⟩
            have h := cond_f h hc
            refine Runs.known 60 (v := false) kr hc ?_
            refine Runs.batch 7 kr ?_
            rcases tf (y7.fAt != y8.fAt) with hc | hc
            · have h := cond_t h hc
              refine Runs.known 67 (v := true) kr hc ?_
              refine Runs.alln ?_
              exact ⟨(x5, true, p0, p1), h, Le.of (mo := []) (mr := []) kr kr kr kr⟩
            have h := cond_f h hc
            refine Runs.known 67 (v := false) kr hc ?_
            refine Runs.batch 7 kr ?_
            rcases tf (!([y7.fR.fGen, y7.fR.fSlot, y7.fR.fLen] == [y8.fR.fGen, y8.fR.fSlot, y8.fR.fLen])) with hc | hc
            · have h := cond_t h hc
              refine Runs.known 74 (v := true) kr hc ?_
              refine Runs.alln ?_
              exact ⟨(x5, true, p0, p1), h, Le.of (mo := []) (mr := []) kr kr kr kr⟩
            have h := cond_f h hc
            refine Runs.known 74 (v := false) kr hc ?_
            refine Runs.batch 4 kr ?_
            obtain ⟨r9, e_r9, h⟩ := bind_some h
            refine Runs.callK false 79 42 [] [.t (.sl 1 (y7.fB.map (eInt .u8))), .t (.sl 1 (y8.fB.map (eInt .u8)))] _ _ _ rfl rfl kr kr kr kr kr (laws_same_ok u y7.fB y8.fB r9 e_r9) kr ?_
            refine Runs.alln ?_
            exact ⟨(x5, !r9, p0, p1), h, Le.of (mo := []) (mr := []) kr kr kr kr⟩
        have h := cond_f h hc
        refine Wp.exit ?_
        refine thenE ?_
        refine thenE ?_
        refine blkE ?_
        refine thenN ?_
        exact ⟨(), h, Le.of (mo := []) (mr := []) kr kr kr kr⟩
  · refine Wp.rg [] [] ?_
    refine Runs.batch 4 kr ?_
    obtain ⟨r1, e_r1, h⟩ := bind_some h
    refine Runs.callK false 12 42 [] [.t (.sl 1 (p0.fA.map (eInt .u8))), .t (.sl 1 (p1.fA.map (eInt .u8)))] _ _ _ rfl rfl kr kr kr kr kr (laws_same_ok u p0.fA p1.fA r1 e_r1) kr ?_
    refine Runs.batch 2 kr ?_
    rcases tf (!r1) with hc | hc
    · have h := cond_t h hc
      refine Runs.known 14 (v := true) kr hc ?_
      refine Runs.alln ?_
      exact ⟨(true, p0, p1), h, Le.of (mo := []) (mr := []) kr kr kr kr⟩
    have h := cond_f h hc
    refine Runs.known 14 (v := false) kr hc ?_
    refine Runs.batch 4 kr ?_
    obtain ⟨r2, e_r2, h⟩ := bind_some h
    refine Runs.callK false 19 42 [] [.t (.sl 1 (p0.fB.map (eInt .u8))), .t (.sl 1 (p1.fB.map (eInt .u8)))] _ _ _ rfl rfl kr kr kr kr kr (laws_same_ok u p0.fB p1.fB r2 e_r2) kr ?_
    refine Runs.batch 3 kr ?_
    rcases tf (!r2) with hc | hc
    · have h := cond_t h hc
      refine Runs.known 22 (v := true) kr hc ?_
      refine Runs.alln ?_
      exact ⟨(true, p0, p1), h, Le.of (mo := []) (mr := []) kr kr kr kr⟩
    have h := cond_f h hc
    refine Runs.known 22 (v := false) kr hc ?_
    refine Runs.batch 7 kr ?_
    rcases tf (!([p0.fR.fGen, p0.fR.fSlot, p0.fR.fLen] == [p1.fR.fGen, p1.fR.fSlot, p1.fR.fLen])) with hc | hc
    · have h := cond_t h hc
      refine Runs.known 29 (v := true) kr hc ?_
      refine Runs.alln ?_
      exact ⟨(true, p0, p1), h, Le.of (mo := []) (mr := []) kr kr kr kr⟩
    have h := cond_f h hc
    refine Runs.known 29 (v := false) kr hc ?_
    refine Runs.batch 2 kr ?_
    refine Runs.lenT (y := .t (.sl 6 (p0.fP.map Put.enc))) (e := 48) Put.enc p0.fP 6 rfl rfl rfl kr kr kr kr kr ?_
    refine Runs.batch 2 kr ?_
    refine Runs.lenT (y := .t (.sl 6 (p1.fP.map Put.enc))) (e := 48) Put.enc p1.fP 6 rfl rfl rfl kr kr kr kr kr ?_
    refine Runs.alln ?_
    exact ⟨(((p0.fP.length : Int)) != ((p1.fP.length : Int)), p0, p1), h, Le.of (mo := []) (mr := []) kr kr kr kr⟩
theorem laws_FnRecovers_ok (u : Nat) (p0 : List Int) (r : Bool) (h : laws_FnRecovers u p0 = some r) : CallOK Try.prog 6 [.one (.t (.sl 1 (p0.map (eInt .u8))))] (.one (.t (.bool r))) [] := by
  unfold laws_FnRecovers at h
  refine CallOK.of_bodyK (fn := Try.f6) (m := false) [.t (.sl 1 (p0.map (eInt .u8)))] kr rfl kr kr kr kr kr ?_
  refine Wp.srg [] [] ?_
  refine Runs.alln ?_
  refine Wp.fg ⟨[(0, .t (.sl 1 (p0.map (eInt .u8)))), (2, .t (.bool false))], [], []⟩ ?_
  refine Wp.seq ?_
  refine Wp.srg [] [] ?_
  refine Runs.batch 1 kr ?_
  obtain ⟨r1, e_r1, h⟩ := bind_some h
  refine Runs.callK false 22 17 [] [.t (.sl 1 (p0.map (eInt .u8)))] _ _ _ rfl rfl kr kr kr kr kr (laws_big_ok u p0 r1 e_r1) kr ?_
  refine Runs.done ?_
  refine thenN ?_
  refine Wp.fg ⟨[(0, .t (.sl 1 (p0.map (eInt .u8)))), (2, .t (.bool false)), (22, .t (.bool r1))], [], []⟩ ?_
  refine Wp.cond2 (b := r1) kr (fun hc => ?_) (fun hc => ?_)
  · have h := cond_t h hc
    refine Wp.srg [] [] ?_
    refine Runs.alln ?_
    refine Wp.fg ⟨[(0, .t (.sl 1 (p0.map (eInt .u8)))), (2, .t (.bool true))], [], []⟩ ?_
    refine Wp.ret ?_
    refine thenR ?_
    obtain rfl := Option.some.inj h
    exact RetK [.t (.bool true)] _ [] kr kr (.refl _) .nil
  have h := cond_f h hc
  refine Wp.skip (thenN ?_)
  refine Wp.srg [] [] ?_
  refine Runs.batch 1 kr ?_
  obtain ⟨r2, e_r2, h⟩ := bind_some h
  refine Runs.callK false 24 18 [] [.t (.sl 1 (p0.map (eInt .u8)))] _ _ _ rfl rfl kr kr kr kr kr (spec_DrawDisk_ok u p0 r2 e_r2) kr ?_
  refine Runs.alln ?_
  refine Wp.fg ⟨[(0, .t (.sl 1 (p0.map (eInt .u8)))), (2, .t (.bool false)), (3, .obj 3 0)], [(3, [.own 1572864, .own 1572865, .t (.int .i64 r2.fR.fGen), .t (.int .i64 r2.fR.fSlot), .t (.int .i64 r2.fR.fLen), .own 1572869])], [(1572864, .live 5 1 (r2.fA.map (eInt .u8))), (1572865, .live 5 1 (r2.fB.map (eInt .u8))), (1572869, .live 48 6 (r2.fP.map Put.enc))]⟩ ?_
  refine Wp.srg [] [] ?_
  refine Runs.batch 1 kr ?_
  obtain ⟨r3, e_r3, h⟩ := bind_some h
  refine Runs.callK false 26 43 [] [.t (.sl 1 (p0.map (eInt .u8)))] _ _ _ rfl rfl kr kr kr kr kr (spec_DrawRecover_ok u p0 r3 e_r3) kr ?_
  refine Runs.alln ?_
  refine Wp.fg ⟨[(0, .t (.sl 1 (p0.map (eInt .u8)))), (2, .t (.bool false)), (3, .obj 3 0), (4, .obj 4 0)], [(3, [.own 1572864, .own 1572865, .t (.int .i64 r2.fR.fGen), .t (.int .i64 r2.fR.fSlot), .t (.int .i64 r2.fR.fLen), .own 1572869]), (4, [.own 1703936, .own 1703937, .t (.int .i64 r3.fR.fGen), .t (.int .i64 r3.fR.fSlot), .t (.int .i64 r3.fR.fLen), .own 1703941])], [(1572864, .live 5 1 (r2.fA.map (eInt .u8))), (1572865, .live 5 1 (r2.fB.map (eInt .u8))), (1572869, .live 48 6 (r2.fP.map Put.enc)), (1703936, .live 5 1 (r3.fA.map (eInt .u8))), (1703937, .live 5 1 (r3.fB.map (eInt .u8))), (1703941, .live 48 6 (r3.fP.map Put.enc))]⟩ ?_
  refine Wp.srg [] [] ?_
  refine Runs.batch 1 kr ?_
  obtain ⟨r4, e_r4, h⟩ := bind_some h
  refine Runs.callK false 29 44 [] [.agg [.own 1703936, .own 1703937, .t (.int .i64 r3.fR.fGen), .t (.int .i64 r3.fR.fSlot), .t (.int .i64 r3.fR.fLen), .own 1703941]] _ _ _ rfl rfl kr kr kr kr kr (impl_Recover_ok u r3 r4 e_r4) kr ?_
  refine Runs.alln ?_
  refine Wp.fg ⟨[(0, .t (.sl 1 (p0.map (eInt .u8)))), (2, .t (.bool false)), (3, .obj 3 0), (4, .obj 4 0), (5, .t (.int .i64 r4.1)), (6, .own 1901568)], [(3, [.own 1572864, .own 1572865, .t (.int .i64 r2.fR.fGen), .t (.int .i64 r2.fR.fSlot), .t (.int .i64 r2.fR.fLen), .own 1572869]), (4, [.own 1703936, .own 1703937, .t (.int .i64 r3.fR.fGen), .t (.int .i64 r3.fR.fSlot), .t (.int .i64 r3.fR.fLen), .own 1703941])], [(1572864, .live 5 1 (r2.fA.map (eInt .u8))), (1572865, .live 5 1 (r2.fB.map (eInt .u8))), (1572869, .live 48 6 (r2.fP.map Put.enc)), (1703936, .frz 1 (r3.fA.map (eInt .u8))), (1703937, .frz 1 (r3.fB.map (eInt .u8))), (1703941, .frz 6 (r3.fP.map Put.enc)), (1901568, .live 5 1 (r4.2.map (eInt .u8)))]⟩ ?_
  refine Wp.srg [] [] ?_
  refine Runs.batch 1 kr ?_
  obtain ⟨r5, e_r5, h⟩ := bind_some h
  refine Runs.callK false 34 45 [] [.agg [.own 1703936, .own 1703937, .t (.int .i64 r3.fR.fGen), .t (.int .i64 r3.fR.fSlot), .t (.int .i64 r3.fR.fLen), .own 1703941]] _ _ _ rfl rfl kr kr kr kr kr (spec_Recover_ok u r3 r5 e_r5) kr ?_
  refine Runs.alln ?_
  refine Wp.fg ⟨[(0, .t (.sl 1 (p0.map (eInt .u8)))), (2, .t (.bool false)), (3, .obj 3 0), (4, .obj 4 0), (5, .t (.int .i64 r4.1)), (6, .own 1901568), (7, .t (.int .i64 r5.1)), (8, .own 2229248)], [(3, [.own 1572864, .own 1572865, .t (.int .i64 r2.fR.fGen), .t (.int .i64 r2.fR.fSlot), .t (.int .i64 r2.fR.fLen), .own 1572869]), (4, [.own 1703936, .own 1703937, .t (.int .i64 r3.fR.fGen), .t (.int .i64 r3.fR.fSlot), .t (.int .i64 r3.fR.fLen), .own 1703941])], [(1572864, .live 5 1 (r2.fA.map (eInt .u8))), (1572865, .live 5 1 (r2.fB.map (eInt .u8))), (1572869, .live 48 6 (r2.fP.map Put.enc)), (1703936, .frz 1 (r3.fA.map (eInt .u8))), (1703937, .frz 1 (r3.fB.map (eInt .u8))), (1703941, .frz 6 (r3.fP.map Put.enc)), (1901568, .live 5 1 (r4.2.map (eInt .u8))), (2229248, .live 5 1 (r5.2.map (eInt .u8)))]⟩ ?_
  refine Wp.srg [] [] ?_
  refine Runs.batch 1 kr ?_
  obtain ⟨r6, e_r6, h⟩ := bind_some h
  refine Runs.callK false 39 46 [] [.t (.sl 1 (p0.map (eInt .u8)))] _ _ _ rfl rfl kr kr kr kr kr (spec_DrawHolds_ok u p0 r6 e_r6) kr ?_
  refine Runs.alln ?_
  refine Wp.fg ⟨[(0, .t (.sl 1 (p0.map (eInt .u8)))), (2, .t (.bool false)), (3, .obj 3 0), (4, .obj 4 0), (5, .t (.int .i64 r4.1)), (6, .own 1901568), (7, .t (.int .i64 r5.1)), (8, .own 2229248), (9, .obj 9 0), (10, .t (.int .i64 r6.2.1)), (11, .t (.sl 1 (r6.2.2.map (eInt .u8))))], [(3, [.own 1572864, .own 1572865, .t (.int .i64 r2.fR.fGen), .t (.int .i64 r2.fR.fSlot), .t (.int .i64 r2.fR.fLen), .own 1572869]), (4, [.own 1703936, .own 1703937, .t (.int .i64 r3.fR.fGen), .t (.int .i64 r3.fR.fSlot), .t (.int .i64 r3.fR.fLen), .own 1703941]), (9, ((Disk.enc r6.1).map .t))], [(1572864, .live 5 1 (r2.fA.map (eInt .u8))), (1572865, .live 5 1 (r2.fB.map (eInt .u8))), (1572869, .live 48 6 (r2.fP.map Put.enc)), (1703936, .frz 1 (r3.fA.map (eInt .u8))), (1703937, .frz 1 (r3.fB.map (eInt .u8))), (1703941, .frz 6 (r3.fP.map Put.enc)), (1901568, .live 5 1 (r4.2.map (eInt .u8))), (2229248, .live 5 1 (r5.2.map (eInt .u8)))]⟩ ?_
  refine Wp.srg [] [] ?_
  refine Runs.batch 1 kr ?_
  obtain ⟨r7, e_r7, h⟩ := bind_some h
  refine Runs.callK false 45 47 [] [.t (.sl 1 (p0.map (eInt .u8)))] _ _ _ rfl rfl kr kr kr kr kr (spec_DrawHoldsAny_ok u p0 r7 e_r7) kr ?_
  refine Runs.alln ?_
  refine Wp.fg ⟨[(2, .t (.bool false)), (3, .obj 3 0), (4, .obj 4 0), (5, .t (.int .i64 r4.1)), (6, .own 1901568), (7, .t (.int .i64 r5.1)), (8, .own 2229248), (9, .obj 9 0), (10, .t (.int .i64 r6.2.1)), (11, .t (.sl 1 (r6.2.2.map (eInt .u8)))), (12, .obj 12 0), (13, .own 2950144), (14, .t (.int .i64 r7.2.2.1)), (15, .own 2952192)], [(3, [.own 1572864, .own 1572865, .t (.int .i64 r2.fR.fGen), .t (.int .i64 r2.fR.fSlot), .t (.int .i64 r2.fR.fLen), .own 1572869]), (4, [.own 1703936, .own 1703937, .t (.int .i64 r3.fR.fGen), .t (.int .i64 r3.fR.fSlot), .t (.int .i64 r3.fR.fLen), .own 1703941]), (9, ((Disk.enc r6.1).map .t)), (12, ((Disk.enc r7.1).map .t))], [(1572864, .live 5 1 (r2.fA.map (eInt .u8))), (1572865, .live 5 1 (r2.fB.map (eInt .u8))), (1572869, .live 48 6 (r2.fP.map Put.enc)), (1703936, .frz 1 (r3.fA.map (eInt .u8))), (1703937, .frz 1 (r3.fB.map (eInt .u8))), (1703941, .frz 6 (r3.fP.map Put.enc)), (1901568, .live 5 1 (r4.2.map (eInt .u8))), (2229248, .live 5 1 (r5.2.map (eInt .u8))), (2950144, .live 5 1 (r7.2.1.map (eInt .u8))), (2952192, .live 5 1 (r7.2.2.2.map (eInt .u8)))]⟩ ?_
  refine Wp.srg [] [] ?_
  refine Runs.batch 1 kr ?_
  obtain ⟨r8, e_r8, h⟩ := bind_some h
  refine Runs.callK false 51 48 [] [.agg [.own 1572864, .own 1572865, .t (.int .i64 r2.fR.fGen), .t (.int .i64 r2.fR.fSlot), .t (.int .i64 r2.fR.fLen), .own 1572869]] _ _ _ rfl rfl kr kr kr kr kr (impl_AllFalls_ok u r2 r8 e_r8) kr ?_
  refine Runs.alln ?_
  refine Wp.fg ⟨[(2, .t (.bool false)), (3, .obj 3 0), (4, .obj 4 0), (5, .t (.int .i64 r4.1)), (6, .own 1901568), (7, .t (.int .i64 r5.1)), (8, .own 2229248), (9, .obj 9 0), (10, .t (.int .i64 r6.2.1)), (11, .t (.sl 1 (r6.2.2.map (eInt .u8)))), (12, .obj 12 0), (13, .own 2950144), (14, .t (.int .i64 r7.2.2.1)), (15, .own 2952192), (16, .own 3342336)], [(3, [.own 1572864, .own 1572865, .t (.int .i64 r2.fR.fGen), .t (.int .i64 r2.fR.fSlot), .t (.int .i64 r2.fR.fLen), .own 1572869]), (4, [.own 1703936, .own 1703937, .t (.int .i64 r3.fR.fGen), .t (.int .i64 r3.fR.fSlot), .t (.int .i64 r3.fR.fLen), .own 1703941]), (9, ((Disk.enc r6.1).map .t)), (12, ((Disk.enc r7.1).map .t))], [(1572864, .frz 1 (r2.fA.map (eInt .u8))), (1572865, .frz 1 (r2.fB.map (eInt .u8))), (1572869, .frz 6 (r2.fP.map Put.enc)), (1703936, .frz 1 (r3.fA.map (eInt .u8))), (1703937, .frz 1 (r3.fB.map (eInt .u8))), (1703941, .frz 6 (r3.fP.map Put.enc)), (1901568, .live 5 1 (r4.2.map (eInt .u8))), (2229248, .live 5 1 (r5.2.map (eInt .u8))), (2950144, .live 5 1 (r7.2.1.map (eInt .u8))), (2952192, .live 5 1 (r7.2.2.2.map (eInt .u8))), (3342336, .live 43 6 (r8.map Disk.enc))]⟩ ?_
  refine Wp.srg [] [] ?_
  refine Runs.batch 1 kr ?_
  obtain ⟨r9, e_r9, h⟩ := bind_some h
  refine Runs.callK false 53 49 [] [.agg [.own 1572864, .own 1572865, .t (.int .i64 r2.fR.fGen), .t (.int .i64 r2.fR.fSlot), .t (.int .i64 r2.fR.fLen), .own 1572869]] _ _ _ rfl rfl kr kr kr kr kr (spec_AllFalls_ok u r2 r9 e_r9) kr ?_
  refine Runs.alln ?_
  refine Wp.fg ⟨[(2, .t (.bool false)), (3, .obj 3 0), (4, .obj 4 0), (5, .t (.int .i64 r4.1)), (6, .own 1901568), (7, .t (.int .i64 r5.1)), (8, .own 2229248), (9, .obj 9 0), (10, .t (.int .i64 r6.2.1)), (11, .t (.sl 1 (r6.2.2.map (eInt .u8)))), (12, .obj 12 0), (13, .own 2950144), (14, .t (.int .i64 r7.2.2.1)), (15, .own 2952192), (16, .own 3342336), (17, .own 3473408)], [(3, [.own 1572864, .own 1572865, .t (.int .i64 r2.fR.fGen), .t (.int .i64 r2.fR.fSlot), .t (.int .i64 r2.fR.fLen), .own 1572869]), (4, [.own 1703936, .own 1703937, .t (.int .i64 r3.fR.fGen), .t (.int .i64 r3.fR.fSlot), .t (.int .i64 r3.fR.fLen), .own 1703941]), (9, ((Disk.enc r6.1).map .t)), (12, ((Disk.enc r7.1).map .t))], [(1572864, .frz 1 (r2.fA.map (eInt .u8))), (1572865, .frz 1 (r2.fB.map (eInt .u8))), (1572869, .frz 6 (r2.fP.map Put.enc)), (1703936, .frz 1 (r3.fA.map (eInt .u8))), (1703937, .frz 1 (r3.fB.map (eInt .u8))), (1703941, .frz 6 (r3.fP.map Put.enc)), (1901568, .live 5 1 (r4.2.map (eInt .u8))), (2229248, .live 5 1 (r5.2.map (eInt .u8))), (2950144, .live 5 1 (r7.2.1.map (eInt .u8))), (2952192, .live 5 1 (r7.2.2.2.map (eInt .u8))), (3342336, .live 43 6 (r8.map Disk.enc)), (3473408, .live 43 6 (r9.map Disk.enc))]⟩ ?_
  refine Wp.seq ?_
  refine Wp.seqJ (α := ((List Disk)) × ((List Disk)) × Bool × Disk) (fun a => ⟨[(2, .t (.bool false)), (3, .obj 3 0), (16, .own 1048577), (17, .own 1114113), (113, .t (.bool a.2.2.1))], [(3, ((Disk.enc a.2.2.2).map .t))], [(1048577, .live 43 6 (a.1.map Disk.enc)), (1114113, .live 43 6 (a.2.1.map Disk.enc))]⟩) (fun a => laws_FnRecovers_j1 u a.1 a.2.1 a.2.2.1 a.2.2.2 = some r) ?_ ?_
  · rintro ⟨r8, r9, x19, r2⟩ h
    change laws_FnRecovers_j1 u r8 r9 x19 r2 = some r at h
    unfold laws_FnRecovers_j1 at h
    refine Wp.cond2 (b := x19) kr (fun hc => ?_) (fun hc => ?_)
    · have h := cond_t h hc
      refine Wp.srg [] [] ?_
      refine Runs.alln ?_
      refine Wp.fg ⟨[(2, .t (.bool false)), (3, .obj 3 0), (16, .own 1048577), (17, .own 1114113)], [(3, ((Disk.enc r2).map .t))], [(1048577, .live 43 6 (r8.map Disk.enc)), (1114113, .live 43 6 (r9.map Disk.enc))]⟩ ?_
      refine Wp.ret ?_
      refine thenR ?_
      obtain rfl := Option.some.inj h
      exact RetK [.t (.bool false)] _ [] kr kr (.refl _) .nil
    have h := cond_f h hc
    refine Wp.skip (thenN ?_)
    refine Wp.seqJ (α := ((List Disk)) × Disk) (fun a => ⟨[(2, .t (.bool false)), (3, .obj 3 0), (16, .own 1048577)], [(3, ((Disk.enc a.2).map .t))], [(1048577, .live 43 6 (a.1.map Disk.enc))]⟩) (fun a => laws_FnRecovers_j2 u a.1 a.2 = some r) ?_ ?_
    · rintro ⟨r8, r2⟩ h
      change laws_FnRecovers_j2 u r8 r2 = some r at h
      unfold laws_FnRecovers_j2 at h
      refine Wp.srg [] [] ?_
      refine Runs.batch 1 kr ?_
      obtain ⟨r28, e_r28, h⟩ := bind_some h
      refine Runs.callK false 141 44 [] [.agg ((Disk.enc r2).map .t)] _ _ _ rfl rfl kr kr kr kr kr (impl_Recover_ok u r2 r28 e_r28) kr ?_
      refine Runs.alln ?_
      refine Wp.fg ⟨[(2, .t (.bool false)), (3, .obj 3 0), (16, .own 1048577), (19, .t (.int .i64 r28.1)), (20, .own 9241600)], [(3, ((Disk.enc r2).map .t))], [(1048577, .live 43 6 (r8.map Disk.enc)), (9241600, .live 5 1 (r28.2.map (eInt .u8)))]⟩ ?_
      refine Wp.srg [] [] ?_
      refine Runs.batch 3 kr ?_
      obtain ⟨r29, e_r29, h⟩ := bind_some h
      refine Runs.callBK 147 50 [] [.agg ((Disk.enc r2).map .t), .t (.int .i64 r28.1), .own 9241600] [.agg ((Disk.enc r2).map .t), .one (.t (.int .i64 r28.1)), .one (.t (.sl 1 (r28.2.map (eInt .u8))))] (.one (.t (.bool r29))) rfl rfl kr kr kr kr kr (impl_Holds_ok u r2 r28.1 r28.2 r29 e_r29) (by simp [V.plain, V.plains, C.plain, T.sc]) kr ?_
      refine Runs.batch 1 kr ?_
      rcases tf (r29) with hc | hc
      · have h := cond_t h hc
        refine Runs.known 148 (v := true) kr hc ?_
        refine Runs.batch 1 kr ?_
        refine Runs.lenT (y := .own 1048577) (e := 43) Disk.enc r8 6 rfl rfl rfl kr kr kr kr kr ?_
        refine Runs.alln ?_
        refine Wp.fg ⟨[(2, .t (.bool (decide (((r8.length : Int)) ≥ 1))))], [], []⟩ ?_
        refine Wp.ret ?_
        obtain rfl := Option.some.inj h
        exact RetK [.t (.bool (decide (((r8.length : Int)) ≥ 1)))] _ [] kr kr (.refl _) .nil
      have h := cond_f h hc
      refine Runs.known 148 (v := false) kr hc ?_
      refine Runs.alln ?_
      refine Wp.fg ⟨[(2, .t (.bool false))], [], []⟩ ?_
      refine Wp.ret ?_
      obtain rfl := Option.some.inj h
      exact RetK [.t (.bool false)] _ [] kr kr (.refl _) .nil
    · refine Wp.srg [] [] ?_
      refine Runs.alln ?_
      refine Wp.fg ⟨[(2, .t (.bool false)), (3, .obj 3 0), (16, .own 1048577), (17, .own 1114113), (18, .t (.int .i64 0))], [(3, ((Disk.enc r2).map .t))], [(1048577, .live 43 6 (r8.map Disk.enc)), (1114113, .live 43 6 (r9.map Disk.enc))]⟩ ?_
      refine Wp.block ?_
      refine Wp.loopF (α := ((List Disk)) × ((List Disk)) × Int × Disk) (fun a => ⟨[(2, .t (.bool false)), (3, .obj 3 0), (16, .own 1048577), (17, .own 1114113), (18, .t (.int .i64 a.2.2.1))], [(3, ((Disk.enc a.2.2.2).map .t))], [(1048577, .live 43 6 (a.1.map Disk.enc)), (1114113, .live 43 6 (a.2.1.map Disk.enc))]⟩) (fun k_laws_FnRecovers_l3 a => laws_FnRecovers_l3 u k_laws_FnRecovers_l3 a.1 a.2.1 a.2.2.1 a.2.2.2 = some r) ?_ ?_ u (r8, r9, 0, r2) h (Le.of (mo := []) (mr := []) kr kr kr kr)
      · intro a h; unfold laws_FnRecovers_l3 at h; cases h
      · rintro k_laws_FnRecovers_l3 ⟨r8, r9, x21, r2⟩ h
        change laws_FnRecovers_l3 u (k_laws_FnRecovers_l3 + 1) r8 r9 x21 r2 = some r at h
        rw [laws_FnRecovers_l3] at h
        refine Wp.seq ?_
        refine Wp.srg [] [] ?_
        refine Runs.batch 2 kr ?_
        refine Runs.lenT (y := .own 1048577) (e := 43) Disk.enc r8 6 rfl rfl rfl kr kr kr kr kr ?_
        refine Runs.alln ?_
        refine Wp.fg ⟨[(2, .t (.bool false)), (3, .obj 3 0), (16, .own 1048577), (17, .own 1114113), (18, .t (.int .i64 x21)), (117, .t (.bool (decide (x21 < ((r8.length : Int))))))], [(3, ((Disk.enc r2).map .t))], [(1048577, .live 43 6 (r8.map Disk.enc)), (1114113, .live 43 6 (r9.map Disk.enc))]⟩ ?_
        refine Wp.cond2 (b := decide (x21 < ((r8.length : Int)))) kr (fun hc => ?_) (fun hc => ?_)
        · have h := cond_t h hc
          refine Wp.skip (thenN ?_)
          refine Wp.seq ?_
          refine Wp.block ?_
          refine Wp.seqJ (α := ((List Disk)) × ((List Disk)) × Int × Bool × Disk) (fun a => ⟨[(2, .t (.bool false)), (3, .obj 3 0), (16, .own 1048577), (17, .own 1114113), (18, .t (.int .i64 a.2.2.1)), (138, .t (.bool a.2.2.2.1))], [(3, ((Disk.enc a.2.2.2.2).map .t))], [(1048577, .live 43 6 (a.1.map Disk.enc)), (1114113, .live 43 6 (a.2.1.map Disk.enc))]⟩) (fun a => laws_FnRecovers_j4 u (fun z0 z1 z2 z3 => laws_FnRecovers_l3 u k_laws_FnRecovers_l3 z0 z1 z2 z3) a.1 a.2.1 a.2.2.1 a.2.2.2.1 a.2.2.2.2 = some r) ?_ ?_
          · rintro ⟨r8, r9, x21, x27, r2⟩ h
            change laws_FnRecovers_j4 u (fun z0 z1 z2 z3 => laws_FnRecovers_l3 u k_laws_FnRecovers_l3 z0 z1 z2 z3) r8 r9 x21 x27 r2 = some r at h
            unfold laws_FnRecovers_j4 at h
            refine Wp.cond2 (b := x27) kr (fun hc => ?_) (fun hc => ?_)
            · have h := cond_t h hc
              refine Wp.srg [] [] ?_
              refine Runs.alln ?_
              refine Wp.fg ⟨[(2, .t (.bool false)), (3, .obj 3 0), (16, .own 1048577), (17, .own 1114113), (18, .t (.int .i64 x21))], [(3, ((Disk.enc r2).map .t))], [(1048577, .live 43 6 (r8.map Disk.enc)), (1114113, .live 43 6 (r9.map Disk.enc))]⟩ ?_
              refine Wp.ret ?_
              refine blkR ?_
              refine thenR ?_
              refine thenR ?_
              refine blkR ?_
              refine thenR ?_
              obtain rfl := Option.some.inj h
              exact RetK [.t (.bool false)] _ [] kr kr (.refl _) .nil
            have h := cond_f h hc
            refine Wp.skip ?_
            refine blkN ?_
            refine thenN ?_
            refine Wp.rg [] [] ?_
            refine Runs.alln ?_
            exact ⟨(r8, r9, bAdd .i64 x21 1, r2), h, Le.of (mo := []) (mr := []) kr kr kr kr⟩
          · refine Wp.regionA (pOf []) (rhoOf [(16, .own 16), (17, .own 17), (18, .frz), (120, .own 16), (121, .frz), (122, .el 16), (123, .frz), (124, .own 17), (125, .frz), (126, .el 17), (127, .frz), (128, .frz), (129, .frz), (130, .frz), (131, .own 16), (132, .frz), (133, .el 16), (134, .el 16), (135, .frz), (136, .frz)]) kr kr ?_
            refine Runs.batch 2 kr ?_
            obtain ⟨y23, e_y23, h⟩ := bind_some h
            refine Runs.idxO (e := 43) (e' := 43) (kk := .i64) (sz := 6) Disk.enc r8 x21 1048577 rfl kr kr kr kr kr kr kr e_y23 ?_
            refine Runs.loadE (e' := 43) (sz := 6) (m := 6) (gg := true) Disk.enc r8 1048577 (Int.toNat x21) 0 (.agg ((Disk.enc y23).map .t)) rfl kr kr kr kr kr kr (idx_some e_y23).2 kr ?_
            refine Runs.batch 2 kr ?_
            obtain ⟨y24, e_y24, h⟩ := bind_some h
            refine Runs.idxO (e := 43) (e' := 43) (kk := .i64) (sz := 6) Disk.enc r9 x21 1114113 rfl kr kr kr kr kr kr kr e_y24 ?_
            refine Runs.loadE (e' := 43) (sz := 6) (m := 6) (gg := true) Disk.enc r9 1114113 (Int.toNat x21) 0 (.agg ((Disk.enc y24).map .t)) rfl kr kr kr kr kr kr (idx_some e_y24).2 kr ?_
            obtain ⟨r25, e_r25, h⟩ := bind_some h
            refine Runs.callK false 128 29 [] [.agg ((Disk.enc y23).map .t), .agg ((Disk.enc y24).map .t)] _ _ _ rfl rfl kr kr kr kr kr (laws_sameDisk_ok u y23 y24 r25 e_r25) kr ?_
            refine Runs.batch 2 kr ?_
            rcases tf (!r25) with hc | hc
            · have h := cond_t h hc
              refine Runs.known 130 (v := true) kr hc ?_
              refine Runs.alln ?_
              exact ⟨(r8, r9, x21, true, r2), h, Le.of (mo := []) (mr := []) kr kr kr kr⟩
            have h := cond_f h hc
            refine Runs.known 130 (v := false) kr hc ?_
            refine Runs.batch 2 kr ?_
            obtain ⟨y26, e_y26, h⟩ := bind_some h
            refine Runs.idxO (e := 43) (e' := 43) (kk := .i64) (sz := 6) Disk.enc r8 x21 1048577 rfl kr kr kr kr kr kr kr e_y26 ?_
            refine Runs.batch 1 kr ?_
            refine Runs.loadE (e' := 43) (sz := 6) (m := 1) (gg := false) Disk.enc r8 1048577 (Int.toNat x21) 5 (.t (.sl 6 (y26.fP.map Put.enc))) rfl kr kr kr kr kr kr (idx_some e_y26).2 kr ?_
            refine Runs.lenT (y := .t (.sl 6 (y26.fP.map Put.enc))) (e := 48) Put.enc y26.fP 6 rfl rfl rfl kr kr kr kr kr ?_
            refine Runs.alln ?_
            exact ⟨(r8, r9, x21, ((y26.fP.length : Int)) != 0, r2), h, Le.of (mo := []) (mr := []) kr kr kr kr⟩
        have h := cond_f h hc
        refine Wp.exit ?_
        refine thenE ?_
        refine thenE ?_
        refine blkE ?_
        refine thenN ?_
        exact ⟨(r8, r2), h, Le.of (mo := []) (mr := []) kr kr kr kr⟩
  · refine Wp.le (Le.trans (Le.seeO 4 0 1703936 1 [.own 1703936, .own 1703937, .t (.int .i64 r3.fR.fGen), .t (.int .i64 r3.fR.fSlot), .t (.int .i64 r3.fR.fLen), .own 1703941] (r3.fA.map (eInt .u8)) kr kr kr) (Le.trans (Le.seeO 4 1 1703937 1 [.t (.sl 1 (r3.fA.map (eInt .u8))), .own 1703937, .t (.int .i64 r3.fR.fGen), .t (.int .i64 r3.fR.fSlot), .t (.int .i64 r3.fR.fLen), .own 1703941] (r3.fB.map (eInt .u8)) kr kr kr) (Le.trans (Le.seeO 4 5 1703941 6 [.t (.sl 1 (r3.fA.map (eInt .u8))), .t (.sl 1 (r3.fB.map (eInt .u8))), .t (.int .i64 r3.fR.fGen), .t (.int .i64 r3.fR.fSlot), .t (.int .i64 r3.fR.fLen), .own 1703941] (r3.fP.map Put.enc) kr kr kr) (Le.of (s := ⟨[(2, .t (.bool false)), (3, .obj 3 0), (4, .obj 4 0), (5, .t (.int .i64 r4.1)), (6, .own 1901568), (7, .t (.int .i64 r5.1)), (8, .own 2229248), (9, .obj 9 0), (10, .t (.int .i64 r6.2.1)), (11, .t (.sl 1 (r6.2.2.map (eInt .u8)))), (12, .obj 12 0), (13, .own 2950144), (14, .t (.int .i64 r7.2.2.1)), (15, .own 2952192), (16, .own 3342336), (17, .own 3473408)], [(3, [.own 1572864, .own 1572865, .t (.int .i64 r2.fR.fGen), .t (.int .i64 r2.fR.fSlot), .t (.int .i64 r2.fR.fLen), .own 1572869]), (4, ((Disk.enc r3).map .t)), (9, ((Disk.enc r6.1).map .t)), (12, ((Disk.enc r7.1).map .t))], [(1572864, .frz 1 (r2.fA.map (eInt .u8))), (1572865, .frz 1 (r2.fB.map (eInt .u8))), (1572869, .frz 6 (r2.fP.map Put.enc)), (1901568, .live 5 1 (r4.2.map (eInt .u8))), (2229248, .live 5 1 (r5.2.map (eInt .u8))), (2950144, .live 5 1 (r7.2.1.map (eInt .u8))), (2952192, .live 5 1 (r7.2.2.2.map (eInt .u8))), (3342336, .live 43 6 (r8.map Disk.enc)), (3473408, .live 43 6 (r9.map Disk.enc))]⟩) (mo := []) (mr := []) kr kr kr kr)))) ?_
    refine Wp.regionA (pOf []) (rhoOf [(4, .obj 4), (5, .frz), (6, .own 29), (7, .frz), (8, .own 34), (9, .obj 9), (10, .frz), (11, .frz), (12, .obj 12), (13, .own 45), (14, .frz), (15, .own 45), (16, .own 51), (17, .own 53), (54, .frz), (55, .frz), (56, .frz), (57, .frz), (58, .own 29), (59, .own 34), (60, .frz), (62, .frz), (63, .frz), (64, .frz), (65, .frz), (66, .frz), (67, .frz), (68, .frz), (69, .frz), (70, .frz), (71, .frz), (73, .frz), (74, .frz), (75, .frz), (76, .own 45), (77, .frz), (78, .own 45), (79, .frz), (80, .frz), (81, .own 45), (82, .frz), (83, .own 45), (84, .frz), (86, .frz), (87, .frz), (88, .frz), (89, .own 45), (90, .frz), (91, .own 45), (92, .frz), (93, .frz), (94, .own 45), (95, .frz), (96, .own 45), (97, .frz), (99, .frz), (100, .frz), (101, .frz), (102, .frz), (103, .frz), (104, .frz), (106, .frz), (107, .frz), (108, .own 51), (109, .frz), (110, .own 53), (111, .frz)]) kr kr ?_
    refine Runs.batch 4 kr ?_
    rcases tf (r4.1 != r5.1) with hc | hc
    · have h := cond_t h hc
      refine Runs.known 57 (v := true) kr hc ?_
      refine Runs.alln ?_
      exact ⟨(r8, r9, true, r2), h, Le.trans (Le.seeO 3 0 1572864 1 [.own 1572864, .own 1572865, .t (.int .i64 r2.fR.fGen), .t (.int .i64 r2.fR.fSlot), .t (.int .i64 r2.fR.fLen), .own 1572869] (r2.fA.map (eInt .u8)) kr kr kr) (Le.trans (Le.seeO 3 1 1572865 1 [.t (.sl 1 (r2.fA.map (eInt .u8))), .own 1572865, .t (.int .i64 r2.fR.fGen), .t (.int .i64 r2.fR.fSlot), .t (.int .i64 r2.fR.fLen), .own 1572869] (r2.fB.map (eInt .u8)) kr kr kr) (Le.trans (Le.seeO 3 5 1572869 6 [.t (.sl 1 (r2.fA.map (eInt .u8))), .t (.sl 1 (r2.fB.map (eInt .u8))), .t (.int .i64 r2.fR.fGen), .t (.int .i64 r2.fR.fSlot), .t (.int .i64 r2.fR.fLen), .own 1572869] (r2.fP.map Put.enc) kr kr kr) (Le.of (mo := []) (mr := [(1048577, 3342336), (1114113, 3473408)]) kr kr kr kr)))⟩
    have h := cond_f h hc
    refine Runs.known 57 (v := false) kr hc ?_
    refine Runs.batch 2 kr ?_
    obtain ⟨r10, e_r10, h⟩ := bind_some h
    refine Runs.callBK 60 42 [] [.own 1901568, .own 2229248] [.one (.t (.sl 1 (r4.2.map (eInt .u8)))), .one (.t (.sl 1 (r5.2.map (eInt .u8))))] (.one (.t (.bool r10))) rfl rfl kr kr kr kr kr (laws_same_ok u r4.2 r5.2 r10 e_r10) (by simp [V.plain, V.plains, C.plain, T.sc]) kr ?_
    refine Runs.batch 3 kr ?_
    rcases tf (!r10) with hc | hc
    · have h := cond_t h hc
      refine Runs.known 63 (v := true) kr hc ?_
      refine Runs.alln ?_
      exact ⟨(r8, r9, true, r2), h, Le.trans (Le.seeO 3 0 1572864 1 [.own 1572864, .own 1572865, .t (.int .i64 r2.fR.fGen), .t (.int .i64 r2.fR.fSlot), .t (.int .i64 r2.fR.fLen), .own 1572869] (r2.fA.map (eInt .u8)) kr kr kr) (Le.trans (Le.seeO 3 1 1572865 1 [.t (.sl 1 (r2.fA.map (eInt .u8))), .own 1572865, .t (.int .i64 r2.fR.fGen), .t (.int .i64 r2.fR.fSlot), .t (.int .i64 r2.fR.fLen), .own 1572869] (r2.fB.map (eInt .u8)) kr kr kr) (Le.trans (Le.seeO 3 5 1572869 6 [.t (.sl 1 (r2.fA.map (eInt .u8))), .t (.sl 1 (r2.fB.map (eInt .u8))), .t (.int .i64 r2.fR.fGen), .t (.int .i64 r2.fR.fSlot), .t (.int .i64 r2.fR.fLen), .own 1572869] (r2.fP.map Put.enc) kr kr kr) (Le.of (mo := []) (mr := [(1048577, 3342336), (1114113, 3473408)]) kr kr kr kr)))⟩
    have h := cond_f h hc
    refine Runs.known 63 (v := false) kr hc ?_
    refine Runs.batch 3 kr ?_
    obtain ⟨r11, e_r11, h⟩ := bind_some h
    refine Runs.callK false 67 50 [] [.agg ((Disk.enc r6.1).map .t), .t (.int .i64 r6.2.1), .t (.sl 1 (r6.2.2.map (eInt .u8)))] _ _ _ rfl rfl kr kr kr kr kr (impl_Holds_ok u r6.1 r6.2.1 r6.2.2 r11 e_r11) kr ?_
    refine Runs.batch 3 kr ?_
    obtain ⟨r12, e_r12, h⟩ := bind_some h
    refine Runs.callK false 71 51 [] [.agg ((Disk.enc r6.1).map .t), .t (.int .i64 r6.2.1), .t (.sl 1 (r6.2.2.map (eInt .u8)))] _ _ _ rfl rfl kr kr kr kr kr (spec_Holds_ok u r6.1 r6.2.1 r6.2.2 r12 e_r12) kr ?_
    refine Runs.batch 3 kr ?_
    rcases tf (!(r11 == r12)) with hc | hc
    · have h := cond_t h hc
      refine Runs.known 74 (v := true) kr hc ?_
      refine Runs.alln ?_
      exact ⟨(r8, r9, true, r2), h, Le.trans (Le.seeO 3 0 1572864 1 [.own 1572864, .own 1572865, .t (.int .i64 r2.fR.fGen), .t (.int .i64 r2.fR.fSlot), .t (.int .i64 r2.fR.fLen), .own 1572869] (r2.fA.map (eInt .u8)) kr kr kr) (Le.trans (Le.seeO 3 1 1572865 1 [.t (.sl 1 (r2.fA.map (eInt .u8))), .own 1572865, .t (.int .i64 r2.fR.fGen), .t (.int .i64 r2.fR.fSlot), .t (.int .i64 r2.fR.fLen), .own 1572869] (r2.fB.map (eInt .u8)) kr kr kr) (Le.trans (Le.seeO 3 5 1572869 6 [.t (.sl 1 (r2.fA.map (eInt .u8))), .t (.sl 1 (r2.fB.map (eInt .u8))), .t (.int .i64 r2.fR.fGen), .t (.int .i64 r2.fR.fSlot), .t (.int .i64 r2.fR.fLen), .own 1572869] (r2.fP.map Put.enc) kr kr kr) (Le.of (mo := []) (mr := [(1048577, 3342336), (1114113, 3473408)]) kr kr kr kr)))⟩
    have h := cond_f h hc
    refine Runs.known 74 (v := false) kr hc ?_
    refine Runs.batch 4 kr ?_
    obtain ⟨r13, e_r13, h⟩ := bind_some h
    refine Runs.callBK 79 52 [] [.agg ((Disk.enc r7.1).map .t), .own 2950144, .t (.int .i64 r7.2.2.1), .own 2952192] [.agg ((Disk.enc r7.1).map .t), .one (.t (.sl 1 (r7.2.1.map (eInt .u8)))), .one (.t (.int .i64 r7.2.2.1)), .one (.t (.sl 1 (r7.2.2.2.map (eInt .u8))))] (.one (.t (.bool r13))) rfl rfl kr kr kr kr kr (impl_HoldsAny_ok u r7.1 r7.2.1 r7.2.2.1 r7.2.2.2 r13 e_r13) (by simp [V.plain, V.plains, C.plain, T.sc]) kr ?_
    refine Runs.batch 4 kr ?_
    obtain ⟨r14, e_r14, h⟩ := bind_some h
    refine Runs.callBK 84 53 [] [.agg ((Disk.enc r7.1).map .t), .own 2950144, .t (.int .i64 r7.2.2.1), .own 2952192] [.agg ((Disk.enc r7.1).map .t), .one (.t (.sl 1 (r7.2.1.map (eInt .u8)))), .one (.t (.int .i64 r7.2.2.1)), .one (.t (.sl 1 (r7.2.2.2.map (eInt .u8))))] (.one (.t (.bool r14))) rfl rfl kr kr kr kr kr (spec_HoldsAny_ok u r7.1 r7.2.1 r7.2.2.1 r7.2.2.2 r14 e_r14) (by simp [V.plain, V.plains, C.plain, T.sc]) kr ?_
    refine Runs.batch 3 kr ?_
    rcases tf (!(r13 == r14)) with hc | hc
    · have h := cond_t h hc
      refine Runs.known 87 (v := true) kr hc ?_
      refine Runs.alln ?_
      exact ⟨(r8, r9, true, r2), h, Le.trans (Le.seeO 3 0 1572864 1 [.own 1572864, .own 1572865, .t (.int .i64 r2.fR.fGen), .t (.int .i64 r2.fR.fSlot), .t (.int .i64 r2.fR.fLen), .own 1572869] (r2.fA.map (eInt .u8)) kr kr kr) (Le.trans (Le.seeO 3 1 1572865 1 [.t (.sl 1 (r2.fA.map (eInt .u8))), .own 1572865, .t (.int .i64 r2.fR.fGen), .t (.int .i64 r2.fR.fSlot), .t (.int .i64 r2.fR.fLen), .own 1572869] (r2.fB.map (eInt .u8)) kr kr kr) (Le.trans (Le.seeO 3 5 1572869 6 [.t (.sl 1 (r2.fA.map (eInt .u8))), .t (.sl 1 (r2.fB.map (eInt .u8))), .t (.int .i64 r2.fR.fGen), .t (.int .i64 r2.fR.fSlot), .t (.int .i64 r2.fR.fLen), .own 1572869] (r2.fP.map Put.enc) kr kr kr) (Le.of (mo := []) (mr := [(1048577, 3342336), (1114113, 3473408)]) kr kr kr kr)))⟩
    have h := cond_f h hc
    refine Runs.known 87 (v := false) kr hc ?_
    refine Runs.batch 4 kr ?_
    obtain ⟨r15, e_r15, h⟩ := bind_some h
    refine Runs.callBK 92 54 [] [.agg ((Disk.enc r7.1).map .t), .own 2950144, .t (.int .i64 r7.2.2.1), .own 2952192] [.agg ((Disk.enc r7.1).map .t), .one (.t (.sl 1 (r7.2.1.map (eInt .u8)))), .one (.t (.int .i64 r7.2.2.1)), .one (.t (.sl 1 (r7.2.2.2.map (eInt .u8))))] (.one (.t (.bool r15))) rfl rfl kr kr kr kr kr (impl_SafeFall_ok u r7.1 r7.2.1 r7.2.2.1 r7.2.2.2 r15 e_r15) (by simp [V.plain, V.plains, C.plain, T.sc]) kr ?_
    refine Runs.batch 4 kr ?_
    obtain ⟨r16, e_r16, h⟩ := bind_some h
    refine Runs.callBK 97 55 [] [.agg ((Disk.enc r7.1).map .t), .own 2950144, .t (.int .i64 r7.2.2.1), .own 2952192] [.agg ((Disk.enc r7.1).map .t), .one (.t (.sl 1 (r7.2.1.map (eInt .u8)))), .one (.t (.int .i64 r7.2.2.1)), .one (.t (.sl 1 (r7.2.2.2.map (eInt .u8))))] (.one (.t (.bool r16))) rfl rfl kr kr kr kr kr (spec_SafeFall_ok u r7.1 r7.2.1 r7.2.2.1 r7.2.2.2 r16 e_r16) (by simp [V.plain, V.plains, C.plain, T.sc]) kr ?_
    refine Runs.batch 3 kr ?_
    rcases tf (!(r15 == r16)) with hc | hc
    · have h := cond_t h hc
      refine Runs.known 100 (v := true) kr hc ?_
      refine Runs.alln ?_
      exact ⟨(r8, r9, true, r2), h, Le.trans (Le.seeO 3 0 1572864 1 [.own 1572864, .own 1572865, .t (.int .i64 r2.fR.fGen), .t (.int .i64 r2.fR.fSlot), .t (.int .i64 r2.fR.fLen), .own 1572869] (r2.fA.map (eInt .u8)) kr kr kr) (Le.trans (Le.seeO 3 1 1572865 1 [.t (.sl 1 (r2.fA.map (eInt .u8))), .own 1572865, .t (.int .i64 r2.fR.fGen), .t (.int .i64 r2.fR.fSlot), .t (.int .i64 r2.fR.fLen), .own 1572869] (r2.fB.map (eInt .u8)) kr kr kr) (Le.trans (Le.seeO 3 5 1572869 6 [.t (.sl 1 (r2.fA.map (eInt .u8))), .t (.sl 1 (r2.fB.map (eInt .u8))), .t (.int .i64 r2.fR.fGen), .t (.int .i64 r2.fR.fSlot), .t (.int .i64 r2.fR.fLen), .own 1572869] (r2.fP.map Put.enc) kr kr kr) (Le.of (mo := []) (mr := [(1048577, 3342336), (1114113, 3473408)]) kr kr kr kr)))⟩
    have h := cond_f h hc
    refine Runs.known 100 (v := false) kr hc ?_
    refine Runs.batch 1 kr ?_
    obtain ⟨r17, e_r17, h⟩ := bind_some h
    refine Runs.callK false 102 56 [] [.agg ((Disk.enc r3).map .t)] _ _ _ rfl rfl kr kr kr kr kr (impl_Spare_ok u r3 r17 e_r17) kr ?_
    refine Runs.batch 1 kr ?_
    obtain ⟨r18, e_r18, h⟩ := bind_some h
    refine Runs.callK false 104 57 [] [.agg ((Disk.enc r3).map .t)] _ _ _ rfl rfl kr kr kr kr kr (spec_Spare_ok u r3 r18 e_r18) kr ?_
    refine Runs.batch 3 kr ?_
    rcases tf (r17 != r18) with hc | hc
    · have h := cond_t h hc
      refine Runs.known 107 (v := true) kr hc ?_
      refine Runs.alln ?_
      exact ⟨(r8, r9, true, r2), h, Le.trans (Le.seeO 3 0 1572864 1 [.own 1572864, .own 1572865, .t (.int .i64 r2.fR.fGen), .t (.int .i64 r2.fR.fSlot), .t (.int .i64 r2.fR.fLen), .own 1572869] (r2.fA.map (eInt .u8)) kr kr kr) (Le.trans (Le.seeO 3 1 1572865 1 [.t (.sl 1 (r2.fA.map (eInt .u8))), .own 1572865, .t (.int .i64 r2.fR.fGen), .t (.int .i64 r2.fR.fSlot), .t (.int .i64 r2.fR.fLen), .own 1572869] (r2.fB.map (eInt .u8)) kr kr kr) (Le.trans (Le.seeO 3 5 1572869 6 [.t (.sl 1 (r2.fA.map (eInt .u8))), .t (.sl 1 (r2.fB.map (eInt .u8))), .t (.int .i64 r2.fR.fGen), .t (.int .i64 r2.fR.fSlot), .t (.int .i64 r2.fR.fLen), .own 1572869] (r2.fP.map Put.enc) kr kr kr) (Le.of (mo := []) (mr := [(1048577, 3342336), (1114113, 3473408)]) kr kr kr kr)))⟩
    have h := cond_f h hc
    refine Runs.known 107 (v := false) kr hc ?_
    refine Runs.batch 1 kr ?_
    refine Runs.lenT (y := .own 3342336) (e := 43) Disk.enc r8 6 rfl rfl rfl kr kr kr kr kr ?_
    refine Runs.batch 1 kr ?_
    refine Runs.lenT (y := .own 3473408) (e := 43) Disk.enc r9 6 rfl rfl rfl kr kr kr kr kr ?_
    refine Runs.alln ?_
    exact ⟨(r8, r9, ((r8.length : Int)) != ((r9.length : Int)), r2), h, Le.trans (Le.seeO 3 0 1572864 1 [.own 1572864, .own 1572865, .t (.int .i64 r2.fR.fGen), .t (.int .i64 r2.fR.fSlot), .t (.int .i64 r2.fR.fLen), .own 1572869] (r2.fA.map (eInt .u8)) kr kr kr) (Le.trans (Le.seeO 3 1 1572865 1 [.t (.sl 1 (r2.fA.map (eInt .u8))), .own 1572865, .t (.int .i64 r2.fR.fGen), .t (.int .i64 r2.fR.fSlot), .t (.int .i64 r2.fR.fLen), .own 1572869] (r2.fB.map (eInt .u8)) kr kr kr) (Le.trans (Le.seeO 3 5 1572869 6 [.t (.sl 1 (r2.fA.map (eInt .u8))), .t (.sl 1 (r2.fB.map (eInt .u8))), .t (.int .i64 r2.fR.fGen), .t (.int .i64 r2.fR.fSlot), .t (.int .i64 r2.fR.fLen), .own 1572869] (r2.fP.map Put.enc) kr kr kr) (Le.of (mo := []) (mr := [(1048577, 3342336), (1114113, 3473408)]) kr kr kr kr)))⟩
end Go.Tm
