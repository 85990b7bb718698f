/- The functions as they are translated do what the pure functions say (printed). -/
import Derived.Test.YtlhbkdaohjnjbaaCFnDisksK1
import Derived.Test.YtlhbkdaohjnjbaaTm43
import Derived.Test.YtlhbkdaohjnjbaaProg
set_option maxRecDepth 100000
set_option maxHeartbeats 20000000
set_option linter.unusedVariables false
set_option linter.unusedSimpArgs false
namespace Go.Tm
open Go.Proofs
theorem impl_Disk__perform__own_p0_fP_ok (u : Nat) (p0 : Disk) (p1 : Put) (r : Disk) (h : impl_Disk__perform__own_p0_fP u p0 p1 = some r) : CallOK Try.prog 94 [.ptr [.ow 5 1 (p0.fA.map (eInt .u8)), .ow 5 1 (p0.fB.map (eInt .u8)), .t (.int .i64 p0.fR.fGen), .t (.int .i64 p0.fR.fSlot), .t (.int .i64 p0.fR.fLen), .ow 48 6 (p0.fP.map Put.enc)], .agg [.t (.int .i64 p1.fWhat), .t (.int .i64 p1.fAt), .t (.sl 1 (p1.fB.map (eInt .u8))), .t (.int .i64 p1.fR.fGen), .t (.int .i64 p1.fR.fSlot), .t (.int .i64 p1.fR.fLen)]] (.tup []) [[.ow 5 1 (r.fA.map (eInt .u8)), .ow 5 1 (r.fB.map (eInt .u8)), .t (.int .i64 r.fR.fGen), .t (.int .i64 r.fR.fSlot), .t (.int .i64 r.fR.fLen), .ow 48 6 (r.fP.map Put.enc)]] := by
  unfold impl_Disk__perform__own_p0_fP at h
  refine CallOK.of_bodyK (fn := Try.f94) (m := false) [.obj 900 0, .agg ((Put.enc p1).map .t)] kr rfl kr kr kr kr kr ?_
  refine Wp.srg [] [] ?_
  refine Runs.alln ?_
  refine Wp.fg ⟨[(0, .obj 900 0), (3, .obj 3 0)], [(3, ((Put.enc p1).map .t)), (900, [.own 58982400, .own 58982401, .t (.int .i64 p0.fR.fGen), .t (.int .i64 p0.fR.fSlot), .t (.int .i64 p0.fR.fLen), .own 58982405])], [(58982400, .live 5 1 (p0.fA.map (eInt .u8))), (58982401, .live 5 1 (p0.fB.map (eInt .u8))), (58982405, .live 48 6 (p0.fP.map Put.enc))]⟩ ?_
  refine Wp.seq ?_
  refine Wp.srg [] [] ?_
  refine Runs.alln ?_
  refine Wp.fg ⟨[(0, .obj 900 0), (3, .obj 3 0), (7, .t (.bool (p1.fWhat == 2)))], [(3, ((Put.enc p1).map .t)), (900, [.own 58982400, .own 58982401, .t (.int .i64 p0.fR.fGen), .t (.int .i64 p0.fR.fSlot), .t (.int .i64 p0.fR.fLen), .own 58982405])], [(58982400, .live 5 1 (p0.fA.map (eInt .u8))), (58982401, .live 5 1 (p0.fB.map (eInt .u8))), (58982405, .live 48 6 (p0.fP.map Put.enc))]⟩ ?_
  refine Wp.cond2 (b := p1.fWhat == 2) kr (fun hc => ?_) (fun hc => ?_)
  · have h := cond_t h hc
    refine Wp.srg [] [] ?_
    refine Runs.alln ?_
    refine Wp.fg ⟨[(0, .obj 900 0), (3, .obj 3 0)], [(3, ((Put.enc p1).map .t)), (900, [.own 58982400, .own 58982401, .t (.int .i64 p1.fR.fGen), .t (.int .i64 p1.fR.fSlot), .t (.int .i64 p1.fR.fLen), .own 58982405])], [(58982400, .live 5 1 (p0.fA.map (eInt .u8))), (58982401, .live 5 1 (p0.fB.map (eInt .u8))), (58982405, .live 48 6 (p0.fP.map Put.enc))]⟩ ?_
    refine Wp.ret ?_
    refine thenR ?_
    obtain rfl := Option.some.inj h
    exact RetK [] _ [[.ow 5 1 (p0.fA.map (eInt .u8)), .ow 5 1 (p0.fB.map (eInt .u8)), .t (.int .i64 p1.fR.fGen), .t (.int .i64 p1.fR.fSlot), .t (.int .i64 p1.fR.fLen), .ow 48 6 (p0.fP.map Put.enc)]] kr kr (.refl _) (.cons ((.cons (.refl _) (.cons (.refl _) (.cons (.refl _) (.cons (.refl _) (.cons (.refl _) (.cons (.refl _) .nil))))))) .nil)
  have h := cond_f h hc
  refine Wp.skip (thenN ?_)
  refine Wp.srg [] [] ?_
  refine Runs.batch 3 kr ?_
  obtain ⟨r1, e_r1, h⟩ := bind_some h
  rcases tf (Nat.beq r1.1 0) with hc_r1 | hc_r1
  · have h := cond_t h hc_r1
    refine Runs.callIK true 16 101 [] [.obj 900 0, .t (.int .i64 p1.fWhat)] [.ptr [.ow 5 1 (p0.fA.map (eInt .u8)), .ow 5 1 (p0.fB.map (eInt .u8)), .t (.int .i64 p0.fR.fGen), .t (.int .i64 p0.fR.fSlot), .t (.int .i64 p0.fR.fLen), .ow 48 6 (p0.fP.map Put.enc)], .one (.t (.int .i64 p1.fWhat))] 900 0 ([[.ow 5 1 (r1.2.fA.map (eInt .u8)), .ow 5 1 (r1.2.fB.map (eInt .u8)), .t (.int .i64 r1.2.fR.fGen), .t (.int .i64 r1.2.fR.fSlot), .t (.int .i64 r1.2.fR.fLen), .ow 48 6 (r1.2.fP.map Put.enc)]]) rfl rfl kr kr kr kr kr (Nat.eq_of_beq_eq_true hc_r1 ▸ impl_Disk__slot__own_p0_fA_p0_fB_p0_fP_ok u p0 p1.fWhat r1 e_r1) kr kr ?_
    refine Runs.alln ?_
    refine Wp.fg ⟨[(3, .obj 3 0), (4, .obj 900 0)], [(3, ((Put.enc p1).map .t)), (900, [.own 1107200, .own 1107201, .t (.int .i64 r1.2.fR.fGen), .t (.int .i64 r1.2.fR.fSlot), .t (.int .i64 r1.2.fR.fLen), .own 1107205])], [(1107200, .live 5 1 (r1.2.fA.map (eInt .u8))), (1107201, .live 5 1 (r1.2.fB.map (eInt .u8))), (1107205, .live 48 6 (r1.2.fP.map Put.enc))]⟩ ?_
    refine Wp.seqJ (α := Put × (List Int) × (Nat × Disk)) (fun a => ⟨[(3, .obj 3 0), (4, .obj 900 0)], [(3, ((Put.enc a.1).map .t)), (900, [.own 58982912, .own 58982913, .t (.int .i64 a.2.2.2.fR.fGen), .t (.int .i64 a.2.2.2.fR.fSlot), .t (.int .i64 a.2.2.2.fR.fLen), .own 58982917])], [(58982912, .live 5 1 (a.2.1.map (eInt .u8))), (58982913, .live 5 1 (a.2.2.2.fB.map (eInt .u8))), (58982917, .live 48 6 (a.2.2.2.fP.map Put.enc))]⟩) (fun a => impl_Disk__perform__own_p0_fP_j3 u a.1 a.2.1 a.2.2 = some r) ?_ ?_
    · rintro ⟨p1, x9, r1⟩ h
      change impl_Disk__perform__own_p0_fP_j3 u p1 x9 r1 = some r at h
      unfold impl_Disk__perform__own_p0_fP_j3 at h
      refine Wp.regionA (pOf []) (rhoOf [(3, .obj 3), (4, .obj 900), (35, .obj 900), (36, .obj 900), (37, .own 900), (38, .obj 3), (39, .frz), (40, .win 900), (41, .obj 3), (42, .frz)]) kr kr ?_
      refine Runs.batch 5 kr ?_
      obtain ⟨_, e_10, h⟩ := bind_some h
      refine Runs.subO (e := 5) (e' := 5) (alo := (some (.t (.int .i64 p1.fAt)))) (eInt .u8) x9 58982912 1 p1.fAt rfl kr kr kr kr kr kr kr kr kr (chk_some e_10) ?_
      refine Runs.batch 2 kr ?_
      refine Runs.copyO (y := .t (.sl 1 (p1.fB.map (eInt .u8)))) (e := 5) (e' := 5) (eInt .u8) x9 p1.fB 58982912 (Int.toNat p1.fAt) 1 rfl rfl rfl kr kr kr kr kr (.inl rfl) kr kr kr (sub_le (chk_some e_10)) ?_
      refine Runs.done ?_
      obtain rfl := Option.some.inj h
      exact RetKn [] _ [[.ow 5 1 ((overL x9 p1.fB (Int.toNat p1.fAt)).map (eInt .u8)), .ow 5 1 (r1.2.fB.map (eInt .u8)), .t (.int .i64 r1.2.fR.fGen), .t (.int .i64 r1.2.fR.fSlot), .t (.int .i64 r1.2.fR.fLen), .ow 48 6 (r1.2.fP.map Put.enc)]] kr kr (.refl _) (.cons ((.cons (.refl _) (.cons (.refl _) (.cons (.refl _) (.cons (.refl _) (.cons (.refl _) (.cons (.refl _) .nil))))))) .nil)
    · refine Wp.block ?_
      refine Wp.loopF (α := Put × (List Int) × (Nat × Disk)) (fun a => ⟨[(3, .obj 3 0), (4, .obj 900 0)], [(3, ((Put.enc a.1).map .t)), (900, [.own 58982912, .own 58982913, .t (.int .i64 a.2.2.2.fR.fGen), .t (.int .i64 a.2.2.2.fR.fSlot), .t (.int .i64 a.2.2.2.fR.fLen), .own 58982917])], [(58982912, .live 5 1 (a.2.1.map (eInt .u8))), (58982913, .live 5 1 (a.2.2.2.fB.map (eInt .u8))), (58982917, .live 48 6 (a.2.2.2.fP.map Put.enc))]⟩) (fun k_impl_Disk__perform__own_p0_fP_l4 a => impl_Disk__perform__own_p0_fP_l4 u k_impl_Disk__perform__own_p0_fP_l4 a.1 a.2.1 a.2.2 = some r) ?_ ?_ u (p1, r1.2.fA, r1) h (Le.of (mo := []) (mr := [(58982912, 1107200), (58982913, 1107201), (58982917, 1107205)]) kr kr kr kr)
      · intro a h; unfold impl_Disk__perform__own_p0_fP_l4 at h; cases h
      · rintro k_impl_Disk__perform__own_p0_fP_l4 ⟨p1, x7, r1⟩ h
        change impl_Disk__perform__own_p0_fP_l4 u (k_impl_Disk__perform__own_p0_fP_l4 + 1) p1 x7 r1 = some r at h
        rw [impl_Disk__perform__own_p0_fP_l4] at h
        refine Wp.seq ?_
        refine Wp.seq ?_
        refine Wp.regionA (pOf []) (rhoOf [(3, .obj 3), (4, .obj 900), (17, .obj 900), (18, .obj 900), (19, .own 900), (20, .frz), (21, .obj 3), (22, .frz), (23, .obj 3), (24, .frz), (25, .frz), (26, .frz)]) kr kr ?_
        refine Runs.batch 3 kr ?_
        refine Runs.lenT (y := .own 58982912) (e := 5) (eInt .u8) x7 1 rfl rfl rfl kr kr kr kr kr ?_
        refine Runs.batch 4 kr ?_
        refine Runs.lenT (y := .t (.sl 1 (p1.fB.map (eInt .u8)))) (e := 5) (eInt .u8) p1.fB 1 rfl rfl rfl kr kr kr kr kr ?_
        refine Runs.alln ?_
        refine Wp.fg ⟨[(3, .obj 3 0), (4, .obj 900 0), (27, .t (.bool (decide (((x7.length : Int)) < (bAdd .i64 p1.fAt ((p1.fB.length : Int)))))))], [(3, ((Put.enc p1).map .t)), (900, [.own 58982912, .own 58982913, .t (.int .i64 r1.2.fR.fGen), .t (.int .i64 r1.2.fR.fSlot), .t (.int .i64 r1.2.fR.fLen), .own 58982917])], [(58982912, .live 5 1 (x7.map (eInt .u8))), (58982913, .live 5 1 (r1.2.fB.map (eInt .u8))), (58982917, .live 48 6 (r1.2.fP.map Put.enc))]⟩ ?_
        refine Wp.cond2 (b := decide (((x7.length : Int)) < (bAdd .i64 p1.fAt ((p1.fB.length : Int))))) kr (fun hc => ?_) (fun hc => ?_)
        · have h := cond_t h hc
          refine Wp.skip (thenN ?_)
          refine Wp.block ?_
          refine Wp.rg [] [] ?_
          refine Runs.batch 5 kr ?_
          obtain ⟨_, e_9, h⟩ := bind_some h
          refine Runs.appT (y := .own 2097152) (eInt .u8) 33 1 5 1 1 58982912 x7 ([0]) rfl rfl rfl rfl kr kr kr kr kr kr (.inl rfl) kr (of_decide_eq_true (chk_some e_9)) kr kr ?_
          refine Runs.all kr ?_
          refine blkN ?_
          refine thenN ?_
          exact ⟨(p1, x7 ++ ([0]), r1), h, Le.of (mo := []) (mr := [(58982912, 2162688)]) kr kr kr kr⟩
        have h := cond_f h hc
        refine Wp.exit ?_
        refine thenE ?_
        refine thenE ?_
        refine blkE ?_
        refine thenN ?_
        exact ⟨(p1, x7, r1), h, Le.of (mo := []) (mr := []) kr kr kr kr⟩
  have h := cond_f h hc_r1
  rcases tf (Nat.beq r1.1 1) with hc_r1 | hc_r1
  · have h := cond_t h hc_r1
    refine Runs.callIK true 16 101 [] [.obj 900 0, .t (.int .i64 p1.fWhat)] [.ptr [.ow 5 1 (p0.fA.map (eInt .u8)), .ow 5 1 (p0.fB.map (eInt .u8)), .t (.int .i64 p0.fR.fGen), .t (.int .i64 p0.fR.fSlot), .t (.int .i64 p0.fR.fLen), .ow 48 6 (p0.fP.map Put.enc)], .one (.t (.int .i64 p1.fWhat))] 900 1 ([[.ow 5 1 (r1.2.fA.map (eInt .u8)), .ow 5 1 (r1.2.fB.map (eInt .u8)), .t (.int .i64 r1.2.fR.fGen), .t (.int .i64 r1.2.fR.fSlot), .t (.int .i64 r1.2.fR.fLen), .ow 48 6 (r1.2.fP.map Put.enc)]]) rfl rfl kr kr kr kr kr (Nat.eq_of_beq_eq_true hc_r1 ▸ impl_Disk__slot__own_p0_fA_p0_fB_p0_fP_ok u p0 p1.fWhat r1 e_r1) kr kr ?_
    refine Runs.alln ?_
    refine Wp.fg ⟨[(3, .obj 3 0), (4, .obj 900 1)], [(3, ((Put.enc p1).map .t)), (900, [.own 1107200, .own 1107201, .t (.int .i64 r1.2.fR.fGen), .t (.int .i64 r1.2.fR.fSlot), .t (.int .i64 r1.2.fR.fLen), .own 1107205])], [(1107200, .live 5 1 (r1.2.fA.map (eInt .u8))), (1107201, .live 5 1 (r1.2.fB.map (eInt .u8))), (1107205, .live 48 6 (r1.2.fP.map Put.enc))]⟩ ?_
    refine Wp.seqJ (α := Put × (Nat × Disk) × (List Int)) (fun a => ⟨[(3, .obj 3 0), (4, .obj 900 1)], [(3, ((Put.enc a.1).map .t)), (900, [.own 58982912, .own 58982913, .t (.int .i64 a.2.1.2.fR.fGen), .t (.int .i64 a.2.1.2.fR.fSlot), .t (.int .i64 a.2.1.2.fR.fLen), .own 58982917])], [(58982912, .live 5 1 (a.2.1.2.fA.map (eInt .u8))), (58982913, .live 5 1 (a.2.2.map (eInt .u8))), (58982917, .live 48 6 (a.2.1.2.fP.map Put.enc))]⟩) (fun a => impl_Disk__perform__own_p0_fP_j1 u a.1 a.2.1 a.2.2 = some r) ?_ ?_
    · rintro ⟨p1, r1, x5⟩ h
      change impl_Disk__perform__own_p0_fP_j1 u p1 r1 x5 = some r at h
      unfold impl_Disk__perform__own_p0_fP_j1 at h
      refine Wp.regionA (pOf []) (rhoOf [(3, .obj 3), (4, .obj 900), (35, .obj 900), (36, .obj 900), (37, .own 900), (38, .obj 3), (39, .frz), (40, .win 900), (41, .obj 3), (42, .frz)]) kr kr ?_
      refine Runs.batch 5 kr ?_
      obtain ⟨_, e_6, h⟩ := bind_some h
      refine Runs.subO (e := 5) (e' := 5) (alo := (some (.t (.int .i64 p1.fAt)))) (eInt .u8) x5 58982913 1 p1.fAt rfl kr kr kr kr kr kr kr kr kr (chk_some e_6) ?_
      refine Runs.batch 2 kr ?_
      refine Runs.copyO (y := .t (.sl 1 (p1.fB.map (eInt .u8)))) (e := 5) (e' := 5) (eInt .u8) x5 p1.fB 58982913 (Int.toNat p1.fAt) 1 rfl rfl rfl kr kr kr kr kr (.inl rfl) kr kr kr (sub_le (chk_some e_6)) ?_
      refine Runs.done ?_
      obtain rfl := Option.some.inj h
      exact RetKn [] _ [[.ow 5 1 (r1.2.fA.map (eInt .u8)), .ow 5 1 ((overL x5 p1.fB (Int.toNat p1.fAt)).map (eInt .u8)), .t (.int .i64 r1.2.fR.fGen), .t (.int .i64 r1.2.fR.fSlot), .t (.int .i64 r1.2.fR.fLen), .ow 48 6 (r1.2.fP.map Put.enc)]] kr kr (.refl _) (.cons ((.cons (.refl _) (.cons (.refl _) (.cons (.refl _) (.cons (.refl _) (.cons (.refl _) (.cons (.refl _) .nil))))))) .nil)
    · refine Wp.block ?_
      refine Wp.loopF (α := Put × (Nat × Disk) × (List Int)) (fun a => ⟨[(3, .obj 3 0), (4, .obj 900 1)], [(3, ((Put.enc a.1).map .t)), (900, [.own 58982912, .own 58982913, .t (.int .i64 a.2.1.2.fR.fGen), .t (.int .i64 a.2.1.2.fR.fSlot), .t (.int .i64 a.2.1.2.fR.fLen), .own 58982917])], [(58982912, .live 5 1 (a.2.1.2.fA.map (eInt .u8))), (58982913, .live 5 1 (a.2.2.map (eInt .u8))), (58982917, .live 48 6 (a.2.1.2.fP.map Put.enc))]⟩) (fun k_impl_Disk__perform__own_p0_fP_l2 a => impl_Disk__perform__own_p0_fP_l2 u k_impl_Disk__perform__own_p0_fP_l2 a.1 a.2.1 a.2.2 = some r) ?_ ?_ u (p1, r1, r1.2.fB) h (Le.of (mo := []) (mr := [(58982912, 1107200), (58982913, 1107201), (58982917, 1107205)]) kr kr kr kr)
      · intro a h; unfold impl_Disk__perform__own_p0_fP_l2 at h; cases h
      · rintro k_impl_Disk__perform__own_p0_fP_l2 ⟨p1, r1, x3⟩ h
        change impl_Disk__perform__own_p0_fP_l2 u (k_impl_Disk__perform__own_p0_fP_l2 + 1) p1 r1 x3 = some r at h
        rw [impl_Disk__perform__own_p0_fP_l2] at h
        refine Wp.seq ?_
        refine Wp.seq ?_
        refine Wp.regionA (pOf []) (rhoOf [(3, .obj 3), (4, .obj 900), (17, .obj 900), (18, .obj 900), (19, .own 900), (20, .frz), (21, .obj 3), (22, .frz), (23, .obj 3), (24, .frz), (25, .frz), (26, .frz)]) kr kr ?_
        refine Runs.batch 3 kr ?_
        refine Runs.lenT (y := .own 58982913) (e := 5) (eInt .u8) x3 1 rfl rfl rfl kr kr kr kr kr ?_
        refine Runs.batch 4 kr ?_
        refine Runs.lenT (y := .t (.sl 1 (p1.fB.map (eInt .u8)))) (e := 5) (eInt .u8) p1.fB 1 rfl rfl rfl kr kr kr kr kr ?_
        refine Runs.alln ?_
        refine Wp.fg ⟨[(3, .obj 3 0), (4, .obj 900 1), (27, .t (.bool (decide (((x3.length : Int)) < (bAdd .i64 p1.fAt ((p1.fB.length : Int)))))))], [(3, ((Put.enc p1).map .t)), (900, [.own 58982912, .own 58982913, .t (.int .i64 r1.2.fR.fGen), .t (.int .i64 r1.2.fR.fSlot), .t (.int .i64 r1.2.fR.fLen), .own 58982917])], [(58982912, .live 5 1 (r1.2.fA.map (eInt .u8))), (58982913, .live 5 1 (x3.map (eInt .u8))), (58982917, .live 48 6 (r1.2.fP.map Put.enc))]⟩ ?_
        refine Wp.cond2 (b := decide (((x3.length : Int)) < (bAdd .i64 p1.fAt ((p1.fB.length : Int))))) kr (fun hc => ?_) (fun hc => ?_)
        · have h := cond_t h hc
          refine Wp.skip (thenN ?_)
          refine Wp.block ?_
          refine Wp.rg [] [] ?_
          refine Runs.batch 5 kr ?_
          obtain ⟨_, e_5, h⟩ := bind_some h
          refine Runs.appT (y := .own 2097152) (eInt .u8) 33 1 5 1 1 58982913 x3 ([0]) rfl rfl rfl rfl kr kr kr kr kr kr (.inl rfl) kr (of_decide_eq_true (chk_some e_5)) kr kr ?_
          refine Runs.all kr ?_
          refine blkN ?_
          refine thenN ?_
          exact ⟨(p1, r1, x3 ++ ([0])), h, Le.of (mo := []) (mr := [(58982913, 2162688)]) kr kr kr kr⟩
        have h := cond_f h hc
        refine Wp.exit ?_
        refine thenE ?_
        refine thenE ?_
        refine blkE ?_
        refine thenN ?_
        exact ⟨(p1, r1, x3), h, Le.of (mo := []) (mr := []) kr kr kr kr⟩
  have h := cond_f h hc_r1
  cases h
theorem impl_Disk__settled__impl_Fall_1_ok (u : Nat) (p0 : Disk) (p1_0 : Int) (r : Disk) (h : impl_Disk__settled__impl_Fall_1 u p0 p1_0 = some r) : CallOK Try.prog 89 [.agg [.t (.sl 1 (p0.fA.map (eInt .u8))), .t (.sl 1 (p0.fB.map (eInt .u8))), .t (.int .i64 p0.fR.fGen), .t (.int .i64 p0.fR.fSlot), .t (.int .i64 p0.fR.fLen), .t (.sl 6 (p0.fP.map Put.enc))], .clo 90 [.fptr [.int .i64 p1_0]]] (.agg [.ow 5 1 (r.fA.map (eInt .u8)), .ow 5 1 (r.fB.map (eInt .u8)), .t (.int .i64 r.fR.fGen), .t (.int .i64 r.fR.fSlot), .t (.int .i64 r.fR.fLen), .ow 48 6 (r.fP.map Put.enc)]) [] := by
  unfold impl_Disk__settled__impl_Fall_1 at h
  refine CallOK.of_bodyK (fn := Try.f89) (m := true) [.agg ((Disk.enc p0).map .t), .clo 90 [.fadr [.int .i64 p1_0]]] kr rfl kr kr kr kr kr ?_
  refine Wp.srg [] [] ?_
  refine Runs.alln ?_
  refine Wp.fg ⟨[(1, .clo 90 [.fadr [.int .i64 p1_0]]), (2, .obj 2 0), (4, .obj 4 0)], [(2, ((Disk.enc p0).map .t)), (4, [.nil, .nil, .t (.int .i64 0), .t (.int .i64 0), .t (.int .i64 0), .nil])], []⟩ ?_
  refine Wp.srg [] [] ?_
  refine Runs.batch 1 kr ?_
  obtain ⟨r1, e_r1, h⟩ := bind_some h
  refine Runs.callK false 9 84 [] [.agg ((Disk.enc p0).map .t)] _ _ _ rfl rfl kr kr kr kr kr (impl_copyDisk_ok u p0 r1 e_r1) kr ?_
  refine Runs.alln ?_
  refine Wp.fg ⟨[(1, .clo 90 [.fadr [.int .i64 p1_0]]), (2, .obj 2 0), (4, .obj 4 0), (5, .obj 5 0)], [(2, ((Disk.enc p0).map .t)), (4, [.nil, .nil, .t (.int .i64 0), .t (.int .i64 0), .t (.int .i64 0), .nil]), (5, [.own 589824, .own 589825, .t (.int .i64 r1.fR.fGen), .t (.int .i64 r1.fR.fSlot), .t (.int .i64 r1.fR.fLen), .own 589829])], [(589824, .live 5 1 (r1.fA.map (eInt .u8))), (589825, .live 5 1 (r1.fB.map (eInt .u8))), (589829, .live 48 6 (r1.fP.map Put.enc))]⟩ ?_
  refine Wp.seq ?_
  refine Wp.srg [] [] ?_
  refine Runs.batch 1 kr ?_
  obtain ⟨r2, e_r2, h⟩ := bind_some h
  refine Runs.callK false 11 38 [] [.agg ((Disk.enc p0).map .t)] _ _ _ rfl rfl kr kr kr kr kr (impl_DiskOk_ok u p0 r2 e_r2) kr ?_
  refine Runs.alln ?_
  refine Wp.fg ⟨[(1, .clo 90 [.fadr [.int .i64 p1_0]]), (2, .obj 2 0), (4, .obj 4 0), (5, .obj 5 0), (12, .t (.bool (!r2)))], [(2, ((Disk.enc p0).map .t)), (4, [.nil, .nil, .t (.int .i64 0), .t (.int .i64 0), .t (.int .i64 0), .nil]), (5, [.own 589824, .own 589825, .t (.int .i64 r1.fR.fGen), .t (.int .i64 r1.fR.fSlot), .t (.int .i64 r1.fR.fLen), .own 589829])], [(589824, .live 5 1 (r1.fA.map (eInt .u8))), (589825, .live 5 1 (r1.fB.map (eInt .u8))), (589829, .live 48 6 (r1.fP.map Put.enc))]⟩ ?_
  refine Wp.cond2 (b := !r2) kr (fun hc => ?_) (fun hc => ?_)
  · have h := cond_t h hc
    refine Wp.srg [] [] ?_
    refine Runs.alln ?_
    refine Wp.fg ⟨[(1, .clo 90 [.fadr [.int .i64 p1_0]]), (2, .obj 2 0), (4, .obj 4 0), (5, .obj 5 0)], [(2, ((Disk.enc p0).map .t)), (4, [.own 589824, .own 589825, .t (.int .i64 r1.fR.fGen), .t (.int .i64 r1.fR.fSlot), .t (.int .i64 r1.fR.fLen), .own 589829]), (5, [.own 589824, .own 589825, .t (.int .i64 r1.fR.fGen), .t (.int .i64 r1.fR.fSlot), .t (.int .i64 r1.fR.fLen), .own 589829])], [(589824, .live 5 1 (r1.fA.map (eInt .u8))), (589825, .live 5 1 (r1.fB.map (eInt .u8))), (589829, .live 48 6 (r1.fP.map Put.enc))]⟩ ?_
    refine Wp.ret ?_
    refine thenR ?_
    obtain rfl := Option.some.inj h
    exact RetK [.agg [.own 589824, .own 589825, .t (.int .i64 r1.fR.fGen), .t (.int .i64 r1.fR.fSlot), .t (.int .i64 r1.fR.fLen), .own 589829]] _ [] kr kr (.refl _) .nil
  have h := cond_f h hc
  refine Wp.skip (thenN ?_)
  refine Wp.seqJ (α := (List Int) × (List Int) × Int × Int × Int × (List Put)) (fun a => ⟨[(4, .obj 4 0), (5, .obj 5 0)], [(4, [.nil, .nil, .t (.int .i64 0), .t (.int .i64 0), .t (.int .i64 0), .nil]), (5, [.own 328192, .own 328193, .t (.int .i64 a.2.2.1), .t (.int .i64 a.2.2.2.1), .t (.int .i64 a.2.2.2.2.1), .own 328197])], [(328192, .live 5 1 (a.1.map (eInt .u8))), (328193, .live 5 1 (a.2.1.map (eInt .u8))), (328197, .live 48 6 (a.2.2.2.2.2.map Put.enc))]⟩) (fun a => impl_Disk__settled__impl_Fall_1_j1 u a.1 a.2.1 a.2.2.1 a.2.2.2.1 a.2.2.2.2.1 a.2.2.2.2.2 = some r) ?_ ?_
  · rintro ⟨x33, x34, x35, x36, x37, x38⟩ h
    change impl_Disk__settled__impl_Fall_1_j1 u x33 x34 x35 x36 x37 x38 = some r at h
    unfold impl_Disk__settled__impl_Fall_1_j1 at h
    refine Wp.srg [] [] ?_
    refine Runs.alln ?_
    refine Wp.fg ⟨[(4, .obj 4 0), (5, .obj 5 0)], [(4, [.nil, .nil, .t (.int .i64 0), .t (.int .i64 0), .t (.int .i64 0), .nil]), (5, [.own 328192, .own 328193, .t (.int .i64 x35), .t (.int .i64 x36), .t (.int .i64 x37), .nil])], [(328192, .live 5 1 (x33.map (eInt .u8))), (328193, .live 5 1 (x34.map (eInt .u8)))]⟩ ?_
    refine Wp.srg [] [] ?_
    refine Runs.alln ?_
    refine Wp.fg ⟨[(4, .obj 4 0)], [(4, [.own 328192, .own 328193, .t (.int .i64 x35), .t (.int .i64 x36), .t (.int .i64 x37), .nil])], [(328192, .live 5 1 (x33.map (eInt .u8))), (328193, .live 5 1 (x34.map (eInt .u8)))]⟩ ?_
    refine Wp.ret ?_
    obtain rfl := Option.some.inj h
    exact RetK [.agg [.own 328192, .own 328193, .t (.int .i64 x35), .t (.int .i64 x36), .t (.int .i64 x37), .nil]] (.agg [.ow 5 1 (x33.map (eInt .u8)), .ow 5 1 (x34.map (eInt .u8)), .t (.int .i64 x35), .t (.int .i64 x36), .t (.int .i64 x37), .nil]) [] kr kr (.agg (.cons (.refl _) (.cons (.refl _) (.cons (.refl _) (.cons (.refl _) (.cons (.refl _) (.cons (.nilO _ _) .nil))))))) .nil
  · refine Wp.srg [] [] ?_
    refine Runs.batch 2 kr ?_
    refine Runs.lenT (y := .t (.sl 6 (p0.fP.map Put.enc))) (e := 48) Put.enc p0.fP 6 rfl rfl rfl kr kr kr kr kr ?_
    refine Runs.alln ?_
    refine Wp.fg ⟨[(1, .clo 90 [.fadr [.int .i64 p1_0]]), (4, .obj 4 0), (5, .obj 5 0), (15, .t (.sl 6 (p0.fP.map Put.enc))), (16, .t (.int .i64 ((p0.fP.length : Int)))), (17, .t (.int .i64 0))], [(4, [.nil, .nil, .t (.int .i64 0), .t (.int .i64 0), .t (.int .i64 0), .nil]), (5, [.own 589824, .own 589825, .t (.int .i64 r1.fR.fGen), .t (.int .i64 r1.fR.fSlot), .t (.int .i64 r1.fR.fLen), .own 589829])], [(589824, .live 5 1 (r1.fA.map (eInt .u8))), (589825, .live 5 1 (r1.fB.map (eInt .u8))), (589829, .live 48 6 (r1.fP.map Put.enc))]⟩ ?_
    refine Wp.block ?_
    refine Wp.loopF (α := Int × Disk × Int × (List Int) × (List Int) × Int × Int × Int × (List Put)) (fun a => ⟨[(1, .clo 90 [.fadr [.int .i64 a.1]]), (4, .obj 4 0), (5, .obj 5 0), (15, .t (.sl 6 (a.2.1.fP.map Put.enc))), (16, .t (.int .i64 ((a.2.1.fP.length : Int)))), (17, .t (.int .i64 a.2.2.1))], [(4, [.nil, .nil, .t (.int .i64 0), .t (.int .i64 0), .t (.int .i64 0), .nil]), (5, [.own 328192, .own 328193, .t (.int .i64 a.2.2.2.2.2.1), .t (.int .i64 a.2.2.2.2.2.2.1), .t (.int .i64 a.2.2.2.2.2.2.2.1), .own 328197])], [(328192, .live 5 1 (a.2.2.2.1.map (eInt .u8))), (328193, .live 5 1 (a.2.2.2.2.1.map (eInt .u8))), (328197, .live 48 6 (a.2.2.2.2.2.2.2.2.map Put.enc))]⟩) (fun k_impl_Disk__settled__impl_Fall_1_l2 a => impl_Disk__settled__impl_Fall_1_l2 u k_impl_Disk__settled__impl_Fall_1_l2 a.1 a.2.1 a.2.2.1 a.2.2.2.1 a.2.2.2.2.1 a.2.2.2.2.2.1 a.2.2.2.2.2.2.1 a.2.2.2.2.2.2.2.1 a.2.2.2.2.2.2.2.2 = some r) ?_ ?_ u (p1_0, p0, 0, r1.fA, r1.fB, r1.fR.fGen, r1.fR.fSlot, r1.fR.fLen, r1.fP) h (Le.of (mo := []) (mr := [(328192, 589824), (328193, 589825), (328197, 589829)]) kr kr kr kr)
    · intro a h; unfold impl_Disk__settled__impl_Fall_1_l2 at h; cases h
    · rintro k_impl_Disk__settled__impl_Fall_1_l2 ⟨p1_0, p0, x10, x11, x12, x13, x14, x15, x16⟩ h
      change impl_Disk__settled__impl_Fall_1_l2 u (k_impl_Disk__settled__impl_Fall_1_l2 + 1) p1_0 p0 x10 x11 x12 x13 x14 x15 x16 = some r at h
      rw [impl_Disk__settled__impl_Fall_1_l2] at h
      refine Wp.srg [] [] ?_
      refine Runs.alln ?_
      refine Wp.fg ⟨[(1, .clo 90 [.fadr [.int .i64 p1_0]]), (4, .obj 4 0), (5, .obj 5 0), (15, .t (.sl 6 (p0.fP.map Put.enc))), (16, .t (.int .i64 ((p0.fP.length : Int)))), (17, .t (.int .i64 x10)), (18, .t (.bool (decide (x10 < ((p0.fP.length : Int))))))], [(4, [.nil, .nil, .t (.int .i64 0), .t (.int .i64 0), .t (.int .i64 0), .nil]), (5, [.own 328192, .own 328193, .t (.int .i64 x13), .t (.int .i64 x14), .t (.int .i64 x15), .own 328197])], [(328192, .live 5 1 (x11.map (eInt .u8))), (328193, .live 5 1 (x12.map (eInt .u8))), (328197, .live 48 6 (x16.map Put.enc))]⟩ ?_
      refine Wp.seq ?_
      refine Wp.cond2 (b := decide (x10 < ((p0.fP.length : Int)))) kr (fun hc => ?_) (fun hc => ?_)
      · have h := cond_t h hc
        refine Wp.skip (thenN ?_)
        refine Wp.seqJ (α := Int × Disk × Int × (List Int) × (List Int) × Int × Int × Int × (List Put)) (fun a => ⟨[(1, .clo 90 [.fadr [.int .i64 a.1]]), (4, .obj 4 0), (5, .obj 5 0), (15, .t (.sl 6 (a.2.1.fP.map Put.enc))), (16, .t (.int .i64 ((a.2.1.fP.length : Int)))), (17, .t (.int .i64 a.2.2.1))], [(4, [.nil, .nil, .t (.int .i64 0), .t (.int .i64 0), .t (.int .i64 0), .nil]), (5, [.own 328192, .own 328193, .t (.int .i64 a.2.2.2.2.2.1), .t (.int .i64 a.2.2.2.2.2.2.1), .t (.int .i64 a.2.2.2.2.2.2.2.1), .own 328197])], [(328192, .live 5 1 (a.2.2.2.1.map (eInt .u8))), (328193, .live 5 1 (a.2.2.2.2.1.map (eInt .u8))), (328197, .live 48 6 (a.2.2.2.2.2.2.2.2.map Put.enc))]⟩) (fun a => impl_Disk__settled__impl_Fall_1_j3 u (fun z0 z1 z2 z3 z4 z5 z6 z7 z8 => impl_Disk__settled__impl_Fall_1_l2 u k_impl_Disk__settled__impl_Fall_1_l2 z0 z1 z2 z3 z4 z5 z6 z7 z8) a.1 a.2.1 a.2.2.1 a.2.2.2.1 a.2.2.2.2.1 a.2.2.2.2.2.1 a.2.2.2.2.2.2.1 a.2.2.2.2.2.2.2.1 a.2.2.2.2.2.2.2.2 = some r) ?_ ?_
        · rintro ⟨p1_0, p0, x10, x27, x28, x29, x30, x31, x32⟩ h
          change impl_Disk__settled__impl_Fall_1_j3 u (fun z0 z1 z2 z3 z4 z5 z6 z7 z8 => impl_Disk__settled__impl_Fall_1_l2 u k_impl_Disk__settled__impl_Fall_1_l2 z0 z1 z2 z3 z4 z5 z6 z7 z8) p1_0 p0 x10 x27 x28 x29 x30 x31 x32 = some r at h
          unfold impl_Disk__settled__impl_Fall_1_j3 at h
          refine Wp.rg [] [] ?_
          refine Runs.alln ?_
          exact ⟨(p1_0, p0, bAdd .i64 x10 1, x27, x28, x29, x30, x31, x32), h, Le.of (mo := []) (mr := []) kr kr kr kr⟩
        · refine Wp.block ?_
          refine Wp.srg [] [] ?_
          refine Runs.batch 1 kr ?_
          obtain ⟨y24, e_y24, h⟩ := bind_some h
          refine Runs.idxT (e := 48) (kk := .i64) (sz := 6) Put.enc p0.fP x10 rfl kr kr kr kr kr kr e_y24 ?_
          refine Runs.alln ?_
          refine Wp.fg ⟨[(1, .clo 90 [.fadr [.int .i64 p1_0]]), (4, .obj 4 0), (5, .obj 5 0), (6, .t (.int .i64 x10)), (7, .obj 7 0), (15, .t (.sl 6 (p0.fP.map Put.enc))), (16, .t (.int .i64 ((p0.fP.length : Int)))), (17, .t (.int .i64 x10))], [(4, [.nil, .nil, .t (.int .i64 0), .t (.int .i64 0), .t (.int .i64 0), .nil]), (5, [.own 328192, .own 328193, .t (.int .i64 x13), .t (.int .i64 x14), .t (.int .i64 x15), .own 328197]), (7, ((Put.enc y24).map .t))], [(328192, .live 5 1 (x11.map (eInt .u8))), (328193, .live 5 1 (x12.map (eInt .u8))), (328197, .live 48 6 (x16.map Put.enc))]⟩ ?_
          refine Wp.srg [] [] ?_
          refine Runs.batch 2 kr ?_
          obtain ⟨r25, e_r25, h⟩ := bind_some h
          refine Runs.callK false 24 90 [.fadr [.int .i64 p1_0]] [.t (.int .i64 x10)] _ _ _ rfl rfl kr kr kr kr kr (impl_Fall_1_ok u x10 p1_0 r25 e_r25) kr ?_
          refine Runs.done ?_
          refine thenN ?_
          refine Wp.fg ⟨[(1, .clo 90 [.fadr [.int .i64 p1_0]]), (4, .obj 4 0), (5, .obj 5 0), (7, .obj 7 0), (15, .t (.sl 6 (p0.fP.map Put.enc))), (16, .t (.int .i64 ((p0.fP.length : Int)))), (17, .t (.int .i64 x10)), (24, .t (.bool r25))], [(4, [.nil, .nil, .t (.int .i64 0), .t (.int .i64 0), .t (.int .i64 0), .nil]), (5, [.own 328192, .own 328193, .t (.int .i64 x13), .t (.int .i64 x14), .t (.int .i64 x15), .own 328197]), (7, ((Put.enc y24).map .t))], [(328192, .live 5 1 (x11.map (eInt .u8))), (328193, .live 5 1 (x12.map (eInt .u8))), (328197, .live 48 6 (x16.map Put.enc))]⟩ ?_
          refine Wp.cond2 (b := r25) kr (fun hc => ?_) (fun hc => ?_)
          · have h := cond_t h hc
            refine Wp.rg [] [] ?_
            refine Runs.batch 1 kr ?_
            obtain ⟨r26, e_r26, h⟩ := bind_some h
            refine Runs.callK true 26 94 [] [.obj 5 0, .agg ((Put.enc y24).map .t)] _ _ _ rfl rfl kr kr kr kr kr (impl_Disk__perform__own_p0_fP_ok u ((Disk.mk x11 x12 ((Record.mk x13 x14 x15)) x16)) y24 r26 e_r26) kr ?_
            refine Runs.done ?_
            refine blkN ?_
            refine thenN ?_
            exact ⟨(p1_0, p0, x10, r26.fA, r26.fB, r26.fR.fGen, r26.fR.fSlot, r26.fR.fLen, r26.fP), h, Le.of (mo := []) (mr := [(328192, 1705280), (328193, 1705281), (328197, 1705285)]) kr kr kr kr⟩
          have h := cond_f h hc
          refine Wp.skip ?_
          refine blkN ?_
          refine thenN ?_
          exact ⟨(p1_0, p0, x10, x11, x12, x13, x14, x15, x16), h, Le.of (mo := []) (mr := []) kr kr kr kr⟩
      have h := cond_f h hc
      refine Wp.exit ?_
      refine thenE ?_
      refine thenE ?_
      refine blkE ?_
      refine thenN ?_
      exact ⟨(x11, x12, x13, x14, x15, x16), h, Le.of (mo := []) (mr := []) kr kr kr kr⟩
theorem impl_Fall_ok (u : Nat) (p0 : Disk) (p1 : Int) (r : Disk) (h : impl_Fall u p0 p1 = some r) : CallOK Try.prog 30 [.agg [.t (.sl 1 (p0.fA.map (eInt .u8))), .t (.sl 1 (p0.fB.map (eInt .u8))), .t (.int .i64 p0.fR.fGen), .t (.int .i64 p0.fR.fSlot), .t (.int .i64 p0.fR.fLen), .t (.sl 6 (p0.fP.map Put.enc))], .one (.t (.int .i64 p1))] (.agg [.ow 5 1 (r.fA.map (eInt .u8)), .ow 5 1 (r.fB.map (eInt .u8)), .t (.int .i64 r.fR.fGen), .t (.int .i64 r.fR.fSlot), .t (.int .i64 r.fR.fLen), .ow 48 6 (r.fP.map Put.enc)]) [] := by
  unfold impl_Fall at h
  refine CallOK.of_bodyK (fn := Try.f30) (m := true) [.agg ((Disk.enc p0).map .t), .t (.int .i64 p1)] kr rfl kr kr kr kr kr ?_
  refine Wp.srg [] [] ?_
  refine Runs.alln ?_
  refine Wp.fg ⟨[(2, .obj 2 0), (3, .obj 3 0), (4, .obj 4 0)], [(2, ((Disk.enc p0).map .t)), (3, [.t (.int .i64 p1)]), (4, [.nil, .nil, .t (.int .i64 0), .t (.int .i64 0), .t (.int .i64 0), .nil])], []⟩ ?_
  refine Wp.seq ?_
  refine Wp.le (Le.trans (Le.frzOb 3 [.int .i64 p1] kr kr) (Le.of (s := ⟨[(2, .obj 2 0), (3, .fadr [.int .i64 p1]), (4, .obj 4 0)], [(2, ((Disk.enc p0).map .t)), (4, [.nil, .nil, .t (.int .i64 0), .t (.int .i64 0), .t (.int .i64 0), .nil])], []⟩) (mo := []) (mr := []) kr kr kr kr)) ?_
  refine Wp.rg [] [] ?_
  refine Runs.batch 2 kr ?_
  obtain ⟨r1, e_r1, h⟩ := bind_some h
  refine Runs.callK false 7 89 [] [.agg ((Disk.enc p0).map .t), .clo 90 [.fadr [.int .i64 p1]]] _ _ _ rfl rfl kr kr kr kr kr (impl_Disk__settled__impl_Fall_1_ok u p0 p1 r1 e_r1) kr ?_
  refine Runs.alln ?_
  refine Wp.fg ⟨[(4, .obj 4 0)], [(4, [.own 458752, .own 458753, .t (.int .i64 r1.fR.fGen), .t (.int .i64 r1.fR.fSlot), .t (.int .i64 r1.fR.fLen), .own 458757])], [(458752, .live 5 1 (r1.fA.map (eInt .u8))), (458753, .live 5 1 (r1.fB.map (eInt .u8))), (458757, .live 48 6 (r1.fP.map Put.enc))]⟩ ?_
  refine Wp.ret ?_
  obtain rfl := Option.some.inj h
  exact RetK [.agg [.own 458752, .own 458753, .t (.int .i64 r1.fR.fGen), .t (.int .i64 r1.fR.fSlot), .t (.int .i64 r1.fR.fLen), .own 458757]] _ [] kr kr (.refl _) .nil
theorem spec_SetOk_ok (u : Nat) (p0 : Int) (r : Bool) (h : spec_SetOk u p0 = some r) : CallOK Try.prog 142 [.one (.t (.int .i64 p0))] (.one (.t (.bool r))) [] := by
  unfold spec_SetOk at h
  refine CallOK.of_bodyK (fn := Try.f142) (m := false) [.t (.int .i64 p0)] kr rfl kr kr kr kr kr ?_
  refine Wp.srg [] [] ?_
  refine Runs.alln ?_
  refine Wp.fg ⟨[(0, .t (.int .i64 p0)), (2, .t (.bool false))], [], []⟩ ?_
  refine Wp.srg [] [] ?_
  refine Runs.batch 1 kr ?_
  obtain ⟨r1, e_r1, h⟩ := bind_some h
  refine Runs.callK false 4 86 [] [.t (.int .i64 p0), .t (.int .i64 0), .t (.int .i64 1099511627775)] _ _ _ rfl rfl kr kr kr kr kr (spec_l1In_ok u p0 0 1099511627775 r1 e_r1) kr ?_
  refine Runs.alln ?_
  refine Wp.fg ⟨[(2, .t (.bool r1))], [], []⟩ ?_
  refine Wp.ret ?_
  obtain rfl := Option.some.inj h
  exact RetK [.t (.bool r1)] _ [] kr kr (.refl _) .nil
theorem spec_InSet_ok (u : Nat) (p0 : Int) (p1 : Int) (r : Bool) (h : spec_InSet u p0 p1 = some r) : CallOK Try.prog 92 [.one (.t (.int .i64 p0)), .one (.t (.int .i64 p1))] (.one (.t (.bool r))) [] := by
  unfold spec_InSet at h
  refine CallOK.of_bodyK (fn := Try.f92) (m := false) [.t (.int .i64 p0), .t (.int .i64 p1)] kr rfl kr kr kr kr kr ?_
  refine Wp.srg [] [] ?_
  refine Runs.alln ?_
  refine Wp.fg ⟨[(0, .t (.int .i64 p0)), (1, .t (.int .i64 p1)), (4, .t (.bool false))], [], []⟩ ?_
  refine Wp.srg [] [] ?_
  refine Runs.batch 1 kr ?_
  obtain ⟨r1, e_r1, h⟩ := bind_some h
  refine Runs.callK false 6 142 [] [.t (.int .i64 p0)] _ _ _ rfl rfl kr kr kr kr kr (spec_SetOk_ok u p0 r1 e_r1) kr ?_
  refine Runs.batch 1 kr ?_
  rcases tf (r1) with hc | hc
  · have h := cond_t h hc
    refine Runs.known 7 (v := true) kr hc ?_
    refine Runs.batch 1 kr ?_
    obtain ⟨r2, e_r2, h⟩ := bind_some h
    refine Runs.callK false 9 86 [] [.t (.int .i64 p1), .t (.int .i64 0), .t (.int .i64 39)] _ _ _ rfl rfl kr kr kr kr kr (spec_l1In_ok u p1 0 39 r2 e_r2) kr ?_
    refine Runs.batch 2 kr ?_
    rcases tf (r2) with hc | hc
    · have h := cond_t h hc
      refine Runs.known 11 (v := true) kr hc ?_
      refine Runs.batch 2 kr ?_
      obtain ⟨_, e_3, h⟩ := bind_some h
      refine Runs.num .shr (.int .i64 p0) (.int .i64 p1) (.int .i64 (bShr .i64 p0 p1)) rfl kr kr kr kr (bin_shr _ _ _ _ _ (chk_some e_3)) ?_
      refine Runs.alln ?_
      refine Wp.fg ⟨[(4, .t (.bool ((bAnd .i64 (bShr .i64 p0 p1) 1) == 1)))], [], []⟩ ?_
      refine Wp.ret ?_
      obtain rfl := Option.some.inj h
      exact RetK [.t (.bool ((bAnd .i64 (bShr .i64 p0 p1) 1) == 1))] _ [] kr kr (.refl _) .nil
    have h := cond_f h hc
    refine Runs.known 11 (v := false) kr hc ?_
    refine Runs.alln ?_
    refine Wp.fg ⟨[(4, .t (.bool false))], [], []⟩ ?_
    refine Wp.ret ?_
    obtain rfl := Option.some.inj h
    exact RetK [.t (.bool false)] _ [] kr kr (.refl _) .nil
  have h := cond_f h hc
  refine Runs.known 7 (v := false) kr hc ?_
  refine Runs.alln ?_
  refine Wp.fg ⟨[(4, .t (.bool false))], [], []⟩ ?_
  refine Wp.ret ?_
  obtain rfl := Option.some.inj h
  exact RetK [.t (.bool false)] _ [] kr kr (.refl _) .nil
theorem spec_l9Lay_ok (u : Nat) (p0 : List Int) (p1 : Int) (p2 : List Int) (r : (List Int)) (h : spec_l9Lay u p0 p1 p2 = some r) : CallOK Try.prog 96 [.one (.t (.sl 1 (p0.map (eInt .u8)))), .one (.t (.int .i64 p1)), .one (.t (.sl 1 (p2.map (eInt .u8))))] (.one (.ow 5 1 (r.map (eInt .u8)))) [] := by
  unfold spec_l9Lay at h
  refine CallOK.of_bodyK (fn := Try.f96) (m := true) [.t (.sl 1 (p0.map (eInt .u8))), .t (.int .i64 p1), .t (.sl 1 (p2.map (eInt .u8)))] kr rfl kr kr kr kr kr ?_
  refine Wp.srg [] [] ?_
  refine Runs.alln ?_
  refine Wp.fg ⟨[(0, .t (.sl 1 (p0.map (eInt .u8)))), (1, .t (.int .i64 p1)), (2, .t (.sl 1 (p2.map (eInt .u8)))), (6, .nil)], [], []⟩ ?_
  refine Wp.srg [] [] ?_
  refine Runs.batch 2 kr ?_
  obtain ⟨_, e_1, h⟩ := bind_some h
  refine Runs.appT (y := .t (.sl 1 (p0.map (eInt .u8)))) (eInt .u8) 11 1 5 1 1 589824 (([] : List Int)) p0 rfl rfl rfl rfl kr kr kr kr kr kr (.inl rfl) kr (of_decide_eq_true (chk_some e_1)) kr kr ?_
  refine Runs.alln ?_
  refine Wp.fg ⟨[(1, .t (.int .i64 p1)), (2, .t (.sl 1 (p2.map (eInt .u8)))), (6, .nil), (7, .own 720896)], [], [(720896, .live 5 1 (((([] : List Int)) ++ p0).map (eInt .u8)))]⟩ ?_
  refine Wp.seqJ (α := Int × (List Int) × (List Int)) (fun a => ⟨[(1, .t (.int .i64 a.1)), (2, .t (.sl 1 (a.2.1.map (eInt .u8)))), (6, .nil), (7, .own 458753)], [], [(458753, .live 5 1 (a.2.2.map (eInt .u8)))]⟩) (fun a => spec_l9Lay_j1 u a.1 a.2.1 a.2.2 = some r) ?_ ?_
  · rintro ⟨p1, p2, x5⟩ h
    change spec_l9Lay_j1 u p1 p2 x5 = some r at h
    unfold spec_l9Lay_j1 at h
    refine Wp.seqJ (α := (List Int)) (fun a => ⟨[(6, .nil), (7, .own 458753)], [], [(458753, .live 5 1 (a.map (eInt .u8)))]⟩) (fun a => spec_l9Lay_j2 u a = some r) ?_ ?_
    · rintro x14 h
      change spec_l9Lay_j2 u x14 = some r at h
      unfold spec_l9Lay_j2 at h
      refine Wp.srg [] [] ?_
      refine Runs.alln ?_
      refine Wp.fg ⟨[(6, .own 458753)], [], [(458753, .live 5 1 (x14.map (eInt .u8)))]⟩ ?_
      refine Wp.ret ?_
      obtain rfl := Option.some.inj h
      exact RetK [.own 458753] _ [] kr kr (.refl _) .nil
    · refine Wp.srg [] [] ?_
      refine Runs.alln ?_
      refine Wp.fg ⟨[(1, .t (.int .i64 p1)), (2, .t (.sl 1 (p2.map (eInt .u8)))), (6, .nil), (7, .own 458753), (8, .t (.int .i64 0))], [], [(458753, .live 5 1 (x5.map (eInt .u8)))]⟩ ?_
      refine Wp.block ?_
      refine Wp.loopF (α := Int × (List Int) × (List Int) × Int) (fun a => ⟨[(1, .t (.int .i64 a.1)), (2, .t (.sl 1 (a.2.1.map (eInt .u8)))), (6, .nil), (7, .own 458753), (8, .t (.int .i64 a.2.2.2))], [], [(458753, .live 5 1 (a.2.2.1.map (eInt .u8)))]⟩) (fun k_spec_l9Lay_l3 a => spec_l9Lay_l3 u k_spec_l9Lay_l3 a.1 a.2.1 a.2.2.1 a.2.2.2 = some r) ?_ ?_ u (p1, p2, x5, 0) h (Le.of (mo := []) (mr := []) kr kr kr kr)
      · intro a h; unfold spec_l9Lay_l3 at h; cases h
      · rintro k_spec_l9Lay_l3 ⟨p1, p2, x8, x9⟩ h
        change spec_l9Lay_l3 u (k_spec_l9Lay_l3 + 1) p1 p2 x8 x9 = some r at h
        rw [spec_l9Lay_l3] at h
        refine Wp.seq ?_
        refine Wp.srg [] [] ?_
        refine Runs.batch 2 kr ?_
        refine Runs.lenT (y := .t (.sl 1 (p2.map (eInt .u8)))) (e := 5) (eInt .u8) p2 1 rfl rfl rfl kr kr kr kr kr ?_
        refine Runs.alln ?_
        refine Wp.fg ⟨[(1, .t (.int .i64 p1)), (2, .t (.sl 1 (p2.map (eInt .u8)))), (6, .nil), (7, .own 458753), (8, .t (.int .i64 x9)), (25, .t (.bool (decide (x9 < ((p2.length : Int))))))], [], [(458753, .live 5 1 (x8.map (eInt .u8)))]⟩ ?_
        refine Wp.cond2 (b := decide (x9 < ((p2.length : Int)))) kr (fun hc => ?_) (fun hc => ?_)
        · have h := cond_t h hc
          refine Wp.skip (thenN ?_)
          refine Wp.seq ?_
          refine Wp.block ?_
          refine Wp.rg [] [] ?_
          refine Runs.batch 6 kr ?_
          obtain ⟨y12, e_y12, h⟩ := bind_some h
          refine Runs.idxT (e := 5) (kk := .i64) (sz := 1) (eInt .u8) p2 x9 rfl kr kr kr kr kr kr e_y12 ?_
          refine Runs.batch 1 kr ?_
          obtain ⟨y13, e_y13, h⟩ := bind_some h
          refine Runs.idxO (e := 5) (e' := 5) (kk := .i64) (sz := 1) (eInt .u8) x8 (bAdd .i64 p1 x9) 458753 rfl kr kr kr kr kr kr kr e_y13 ?_
          refine Runs.storeT (e := 5) (sz := 1) (m := 1) (eInt .u8) x8 458753 (Int.toNat (bAdd .i64 p1 x9)) 0 y12 (.t (.int .u8 y12)) [.int .u8 y12] rfl kr kr kr kr kr kr kr kr (idx_some e_y13).2 kr kr ?_
          refine Runs.done ?_
          refine blkN ?_
          refine thenN ?_
          refine Wp.rg [] [] ?_
          refine Runs.alln ?_
          exact ⟨(p1, p2, x8.set (Int.toNat (bAdd .i64 p1 x9)) y12, bAdd .i64 x9 1), h, Le.of (mo := []) (mr := []) kr kr kr kr⟩
        have h := cond_f h hc
        refine Wp.exit ?_
        refine thenE ?_
        refine thenE ?_
        refine blkE ?_
        refine thenN ?_
        exact ⟨x8, h, Le.of (mo := []) (mr := []) kr kr kr kr⟩
  · refine Wp.block ?_
    refine Wp.loopF (α := Int × (List Int) × (List Int)) (fun a => ⟨[(1, .t (.int .i64 a.1)), (2, .t (.sl 1 (a.2.1.map (eInt .u8)))), (6, .nil), (7, .own 458753)], [], [(458753, .live 5 1 (a.2.2.map (eInt .u8)))]⟩) (fun k_spec_l9Lay_l4 a => spec_l9Lay_l4 u k_spec_l9Lay_l4 a.1 a.2.1 a.2.2 = some r) ?_ ?_ u (p1, p2, (([] : List Int)) ++ p0) h (Le.of (mo := []) (mr := [(458753, 720896)]) kr kr kr kr)
    · intro a h; unfold spec_l9Lay_l4 at h; cases h
    · rintro k_spec_l9Lay_l4 ⟨p1, p2, x3⟩ h
      change spec_l9Lay_l4 u (k_spec_l9Lay_l4 + 1) p1 p2 x3 = some r at h
      rw [spec_l9Lay_l4] at h
      refine Wp.seq ?_
      refine Wp.srg [] [] ?_
      refine Runs.batch 1 kr ?_
      refine Runs.lenT (y := .own 458753) (e := 5) (eInt .u8) x3 1 rfl rfl rfl kr kr kr kr kr ?_
      refine Runs.batch 2 kr ?_
      refine Runs.lenT (y := .t (.sl 1 (p2.map (eInt .u8)))) (e := 5) (eInt .u8) p2 1 rfl rfl rfl kr kr kr kr kr ?_
      refine Runs.alln ?_
      refine Wp.fg ⟨[(1, .t (.int .i64 p1)), (2, .t (.sl 1 (p2.map (eInt .u8)))), (6, .nil), (7, .own 458753), (18, .t (.bool (decide (((x3.length : Int)) < (bAdd .i64 p1 ((p2.length : Int)))))))], [], [(458753, .live 5 1 (x3.map (eInt .u8)))]⟩ ?_
      refine Wp.cond2 (b := decide (((x3.length : Int)) < (bAdd .i64 p1 ((p2.length : Int))))) kr (fun hc => ?_) (fun hc => ?_)
      · have h := cond_t h hc
        refine Wp.skip (thenN ?_)
        refine Wp.block ?_
        refine Wp.rg [] [] ?_
        refine Runs.batch 2 kr ?_
        obtain ⟨_, e_5, h⟩ := bind_some h
        refine Runs.appT (y := .own 1310720) (eInt .u8) 21 1 5 1 1 458753 x3 ([0]) rfl rfl rfl rfl kr kr kr kr kr kr (.inl rfl) kr (of_decide_eq_true (chk_some e_5)) kr kr ?_
        refine Runs.all kr ?_
        refine blkN ?_
        refine thenN ?_
        exact ⟨(p1, p2, x3 ++ ([0])), h, Le.of (mo := []) (mr := [(458753, 1376256)]) kr kr kr kr⟩
      have h := cond_f h hc
      refine Wp.exit ?_
      refine thenE ?_
      refine thenE ?_
      refine blkE ?_
      refine thenN ?_
      exact ⟨(p1, p2, x3), h, Le.of (mo := []) (mr := []) kr kr kr kr⟩
theorem spec_OnePut_ok (u : Nat) (p0 : Disk) (p1 : Put) (r : Disk) (h : spec_OnePut u p0 p1 = some r) : CallOK Try.prog 33 [.agg [.t (.sl 1 (p0.fA.map (eInt .u8))), .t (.sl 1 (p0.fB.map (eInt .u8))), .t (.int .i64 p0.fR.fGen), .t (.int .i64 p0.fR.fSlot), .t (.int .i64 p0.fR.fLen), .t (.sl 6 (p0.fP.map Put.enc))], .agg [.t (.int .i64 p1.fWhat), .t (.int .i64 p1.fAt), .t (.sl 1 (p1.fB.map (eInt .u8))), .t (.int .i64 p1.fR.fGen), .t (.int .i64 p1.fR.fSlot), .t (.int .i64 p1.fR.fLen)]] (.agg [.ow 5 1 (r.fA.map (eInt .u8)), .ow 5 1 (r.fB.map (eInt .u8)), .t (.int .i64 r.fR.fGen), .t (.int .i64 r.fR.fSlot), .t (.int .i64 r.fR.fLen), .ow 48 6 (r.fP.map Put.enc)]) [] := by
  unfold spec_OnePut at h
  refine CallOK.of_bodyK (fn := Try.f33) (m := true) [.agg ((Disk.enc p0).map .t), .agg ((Put.enc p1).map .t)] kr rfl kr kr kr kr kr ?_
  refine Wp.srg [] [] ?_
  refine Runs.alln ?_
  refine Wp.fg ⟨[(2, .obj 2 0), (3, .obj 3 0), (4, .obj 4 0)], [(2, ((Disk.enc p0).map .t)), (3, ((Put.enc p1).map .t)), (4, [.nil, .nil, .t (.int .i64 0), .t (.int .i64 0), .t (.int .i64 0), .nil])], []⟩ ?_
  refine Wp.srg [] [] ?_
  refine Runs.batch 1 kr ?_
  obtain ⟨r1, e_r1, h⟩ := bind_some h
  refine Runs.callK false 7 87 [] [.agg ((Disk.enc p0).map .t)] _ _ _ rfl rfl kr kr kr kr kr (spec_l9Copy_ok u p0 r1 e_r1) kr ?_
  refine Runs.alln ?_
  refine Wp.fg ⟨[(2, .obj 2 0), (3, .obj 3 0), (4, .obj 4 0), (5, .obj 5 0)], [(2, ((Disk.enc p0).map .t)), (3, ((Put.enc p1).map .t)), (4, [.nil, .nil, .t (.int .i64 0), .t (.int .i64 0), .t (.int .i64 0), .nil]), (5, [.own 458752, .own 458753, .t (.int .i64 r1.fR.fGen), .t (.int .i64 r1.fR.fSlot), .t (.int .i64 r1.fR.fLen), .own 458757])], [(458752, .live 5 1 (r1.fA.map (eInt .u8))), (458753, .live 5 1 (r1.fB.map (eInt .u8))), (458757, .live 48 6 (r1.fP.map Put.enc))]⟩ ?_
  refine Wp.seqJ (α := (List Int) × (List Int) × Int × Int × Int × Disk) (fun a => ⟨[(4, .obj 4 0), (5, .obj 5 0)], [(4, [.nil, .nil, .t (.int .i64 0), .t (.int .i64 0), .t (.int .i64 0), .nil]), (5, [.own 328192, .own 328193, .t (.int .i64 a.2.2.1), .t (.int .i64 a.2.2.2.1), .t (.int .i64 a.2.2.2.2.1), .own 328197])], [(328192, .live 5 1 (a.1.map (eInt .u8))), (328193, .live 5 1 (a.2.1.map (eInt .u8))), (328197, .live 48 6 (a.2.2.2.2.2.fP.map Put.enc))]⟩) (fun a => spec_OnePut_j1 u a.1 a.2.1 a.2.2.1 a.2.2.2.1 a.2.2.2.2.1 a.2.2.2.2.2 = some r) ?_ ?_
  · rintro ⟨x5, x6, x7, x8, x9, r1⟩ h
    change spec_OnePut_j1 u x5 x6 x7 x8 x9 r1 = some r at h
    unfold spec_OnePut_j1 at h
    refine Wp.srg [] [] ?_
    refine Runs.alln ?_
    refine Wp.fg ⟨[(4, .obj 4 0)], [(4, [.own 328192, .own 328193, .t (.int .i64 x7), .t (.int .i64 x8), .t (.int .i64 x9), .own 328197])], [(328192, .live 5 1 (x5.map (eInt .u8))), (328193, .live 5 1 (x6.map (eInt .u8))), (328197, .live 48 6 (r1.fP.map Put.enc))]⟩ ?_
    refine Wp.ret ?_
    obtain rfl := Option.some.inj h
    exact RetK [.agg [.own 328192, .own 328193, .t (.int .i64 x7), .t (.int .i64 x8), .t (.int .i64 x9), .own 328197]] _ [] kr kr (.refl _) .nil
  · refine Wp.block ?_
    refine Wp.srg [] [] ?_
    refine Runs.batch 1 kr ?_
    obtain ⟨r2, e_r2, h⟩ := bind_some h
    refine Runs.callK false 13 95 [] [.agg ((Put.enc p1).map .t)] _ _ _ rfl rfl kr kr kr kr kr (spec_l9Put_ok u p1 r2 e_r2) kr ?_
    refine Runs.alln ?_
    refine Wp.fg ⟨[(2, .obj 2 0), (3, .obj 3 0), (4, .obj 4 0), (5, .obj 5 0), (11, .t (.bool (!r2)))], [(2, ((Disk.enc p0).map .t)), (3, ((Put.enc p1).map .t)), (4, [.nil, .nil, .t (.int .i64 0), .t (.int .i64 0), .t (.int .i64 0), .nil]), (5, [.own 458752, .own 458753, .t (.int .i64 r1.fR.fGen), .t (.int .i64 r1.fR.fSlot), .t (.int .i64 r1.fR.fLen), .own 458757])], [(458752, .live 5 1 (r1.fA.map (eInt .u8))), (458753, .live 5 1 (r1.fB.map (eInt .u8))), (458757, .live 48 6 (r1.fP.map Put.enc))]⟩ ?_
    refine Wp.cond2 (b := !r2) kr (fun hc => ?_) (fun hc => ?_)
    · have h := cond_t h hc
      refine Wp.skip ?_
      refine blkN ?_
      refine thenN ?_
      exact ⟨(r1.fA, r1.fB, r1.fR.fGen, r1.fR.fSlot, r1.fR.fLen, r1), h, Le.of (mo := []) (mr := [(328192, 458752), (328193, 458753), (328197, 458757)]) kr kr kr kr⟩
    have h := cond_f h hc
    refine Wp.srg [] [] ?_
    refine Runs.alln ?_
    refine Wp.fg ⟨[(2, .obj 2 0), (3, .obj 3 0), (4, .obj 4 0), (5, .obj 5 0), (15, .t (.bool (p1.fWhat == 0)))], [(2, ((Disk.enc p0).map .t)), (3, ((Put.enc p1).map .t)), (4, [.nil, .nil, .t (.int .i64 0), .t (.int .i64 0), .t (.int .i64 0), .nil]), (5, [.own 458752, .own 458753, .t (.int .i64 r1.fR.fGen), .t (.int .i64 r1.fR.fSlot), .t (.int .i64 r1.fR.fLen), .own 458757])], [(458752, .live 5 1 (r1.fA.map (eInt .u8))), (458753, .live 5 1 (r1.fB.map (eInt .u8))), (458757, .live 48 6 (r1.fP.map Put.enc))]⟩ ?_
    refine Wp.cond2 (b := p1.fWhat == 0) kr (fun hc => ?_) (fun hc => ?_)
    · have h := cond_t h hc
      refine Wp.rg [] [] ?_
      refine Runs.batch 6 kr ?_
      obtain ⟨r3, e_r3, h⟩ := bind_some h
      refine Runs.callK false 25 96 [] [.t (.sl 1 (p0.fA.map (eInt .u8))), .t (.int .i64 p1.fAt), .t (.sl 1 (p1.fB.map (eInt .u8)))] _ _ _ rfl rfl kr kr kr kr kr (spec_l9Lay_ok u p0.fA p1.fAt p1.fB r3 e_r3) kr ?_
      refine Runs.all kr ?_
      refine blkN ?_
      refine thenN ?_
      exact ⟨(r3, r1.fB, r1.fR.fGen, r1.fR.fSlot, r1.fR.fLen, r1), h, Le.of (mo := []) (mr := [(328192, 1638400), (328193, 458753), (328197, 458757)]) kr kr kr kr⟩
    have h := cond_f h hc
    refine Wp.srg [] [] ?_
    refine Runs.alln ?_
    refine Wp.fg ⟨[(2, .obj 2 0), (3, .obj 3 0), (4, .obj 4 0), (5, .obj 5 0), (27, .t (.bool (p1.fWhat == 1)))], [(2, ((Disk.enc p0).map .t)), (3, ((Put.enc p1).map .t)), (4, [.nil, .nil, .t (.int .i64 0), .t (.int .i64 0), .t (.int .i64 0), .nil]), (5, [.own 458752, .own 458753, .t (.int .i64 r1.fR.fGen), .t (.int .i64 r1.fR.fSlot), .t (.int .i64 r1.fR.fLen), .own 458757])], [(458752, .live 5 1 (r1.fA.map (eInt .u8))), (458753, .live 5 1 (r1.fB.map (eInt .u8))), (458757, .live 48 6 (r1.fP.map Put.enc))]⟩ ?_
    refine Wp.cond2 (b := p1.fWhat == 1) kr (fun hc => ?_) (fun hc => ?_)
    · have h := cond_t h hc
      refine Wp.rg [] [] ?_
      refine Runs.batch 6 kr ?_
      obtain ⟨r4, e_r4, h⟩ := bind_some h
      refine Runs.callK false 37 96 [] [.t (.sl 1 (p0.fB.map (eInt .u8))), .t (.int .i64 p1.fAt), .t (.sl 1 (p1.fB.map (eInt .u8)))] _ _ _ rfl rfl kr kr kr kr kr (spec_l9Lay_ok u p0.fB p1.fAt p1.fB r4 e_r4) kr ?_
      refine Runs.all kr ?_
      refine blkN ?_
      refine thenN ?_
      exact ⟨(r1.fA, r4, r1.fR.fGen, r1.fR.fSlot, r1.fR.fLen, r1), h, Le.of (mo := []) (mr := [(328192, 458752), (328193, 2424832), (328197, 458757)]) kr kr kr kr⟩
    have h := cond_f h hc
    refine Wp.rg [] [] ?_
    refine Runs.all kr ?_
    refine blkN ?_
    refine thenN ?_
    exact ⟨(r1.fA, r1.fB, p1.fR.fGen, p1.fR.fSlot, p1.fR.fLen, r1), h, Le.of (mo := []) (mr := [(328192, 458752), (328193, 458753), (328197, 458757)]) kr kr kr kr⟩
theorem spec_Fall_ok (u : Nat) (p0 : Disk) (p1 : Int) (r : Disk) (h : spec_Fall u p0 p1 = some r) : CallOK Try.prog 31 [.agg [.t (.sl 1 (p0.fA.map (eInt .u8))), .t (.sl 1 (p0.fB.map (eInt .u8))), .t (.int .i64 p0.fR.fGen), .t (.int .i64 p0.fR.fSlot), .t (.int .i64 p0.fR.fLen), .t (.sl 6 (p0.fP.map Put.enc))], .one (.t (.int .i64 p1))] (.agg [.ow 5 1 (r.fA.map (eInt .u8)), .ow 5 1 (r.fB.map (eInt .u8)), .t (.int .i64 r.fR.fGen), .t (.int .i64 r.fR.fSlot), .t (.int .i64 r.fR.fLen), .ow 48 6 (r.fP.map Put.enc)]) [] := by
  unfold spec_Fall at h
  refine CallOK.of_bodyK (fn := Try.f31) (m := true) [.agg ((Disk.enc p0).map .t), .t (.int .i64 p1)] kr rfl kr kr kr kr kr ?_
  refine Wp.srg [] [] ?_
  refine Runs.alln ?_
  refine Wp.fg ⟨[(1, .t (.int .i64 p1)), (2, .obj 2 0), (4, .obj 4 0)], [(2, ((Disk.enc p0).map .t)), (4, [.nil, .nil, .t (.int .i64 0), .t (.int .i64 0), .t (.int .i64 0), .nil])], []⟩ ?_
  refine Wp.srg [] [] ?_
  refine Runs.batch 1 kr ?_
  obtain ⟨r1, e_r1, h⟩ := bind_some h
  refine Runs.callK false 8 87 [] [.agg ((Disk.enc p0).map .t)] _ _ _ rfl rfl kr kr kr kr kr (spec_l9Copy_ok u p0 r1 e_r1) kr ?_
  refine Runs.alln ?_
  refine Wp.fg ⟨[(1, .t (.int .i64 p1)), (2, .obj 2 0), (4, .obj 4 0), (5, .obj 5 0)], [(2, ((Disk.enc p0).map .t)), (4, [.nil, .nil, .t (.int .i64 0), .t (.int .i64 0), .t (.int .i64 0), .nil]), (5, [.own 524288, .own 524289, .t (.int .i64 r1.fR.fGen), .t (.int .i64 r1.fR.fSlot), .t (.int .i64 r1.fR.fLen), .own 524293])], [(524288, .live 5 1 (r1.fA.map (eInt .u8))), (524289, .live 5 1 (r1.fB.map (eInt .u8))), (524293, .live 48 6 (r1.fP.map Put.enc))]⟩ ?_
  refine Wp.seq ?_
  refine Wp.srg [] [] ?_
  refine Runs.batch 1 kr ?_
  obtain ⟨r2, e_r2, h⟩ := bind_some h
  refine Runs.callK false 10 39 [] [.agg ((Disk.enc p0).map .t)] _ _ _ rfl rfl kr kr kr kr kr (spec_DiskOk_ok u p0 r2 e_r2) kr ?_
  refine Runs.alln ?_
  refine Wp.fg ⟨[(1, .t (.int .i64 p1)), (2, .obj 2 0), (4, .obj 4 0), (5, .obj 5 0), (11, .t (.bool (!r2)))], [(2, ((Disk.enc p0).map .t)), (4, [.nil, .nil, .t (.int .i64 0), .t (.int .i64 0), .t (.int .i64 0), .nil]), (5, [.own 524288, .own 524289, .t (.int .i64 r1.fR.fGen), .t (.int .i64 r1.fR.fSlot), .t (.int .i64 r1.fR.fLen), .own 524293])], [(524288, .live 5 1 (r1.fA.map (eInt .u8))), (524289, .live 5 1 (r1.fB.map (eInt .u8))), (524293, .live 48 6 (r1.fP.map Put.enc))]⟩ ?_
  refine Wp.cond2 (b := !r2) kr (fun hc => ?_) (fun hc => ?_)
  · have h := cond_t h hc
    refine Wp.srg [] [] ?_
    refine Runs.alln ?_
    refine Wp.fg ⟨[(1, .t (.int .i64 p1)), (2, .obj 2 0), (4, .obj 4 0), (5, .obj 5 0)], [(2, ((Disk.enc p0).map .t)), (4, [.own 524288, .own 524289, .t (.int .i64 r1.fR.fGen), .t (.int .i64 r1.fR.fSlot), .t (.int .i64 r1.fR.fLen), .own 524293]), (5, [.own 524288, .own 524289, .t (.int .i64 r1.fR.fGen), .t (.int .i64 r1.fR.fSlot), .t (.int .i64 r1.fR.fLen), .own 524293])], [(524288, .live 5 1 (r1.fA.map (eInt .u8))), (524289, .live 5 1 (r1.fB.map (eInt .u8))), (524293, .live 48 6 (r1.fP.map Put.enc))]⟩ ?_
    refine Wp.ret ?_
    refine thenR ?_
    obtain rfl := Option.some.inj h
    exact RetK [.agg [.own 524288, .own 524289, .t (.int .i64 r1.fR.fGen), .t (.int .i64 r1.fR.fSlot), .t (.int .i64 r1.fR.fLen), .own 524293]] _ [] kr kr (.refl _) .nil
  have h := cond_f h hc
  refine Wp.skip (thenN ?_)
  refine Wp.seqJ (α := (List Int) × (List Int) × Int × Int × Int × (List Put)) (fun a => ⟨[(4, .obj 4 0), (5, .obj 5 0)], [(4, [.nil, .nil, .t (.int .i64 0), .t (.int .i64 0), .t (.int .i64 0), .nil]), (5, [.own 328192, .own 328193, .t (.int .i64 a.2.2.1), .t (.int .i64 a.2.2.2.1), .t (.int .i64 a.2.2.2.2.1), .own 328197])], [(328192, .live 5 1 (a.1.map (eInt .u8))), (328193, .live 5 1 (a.2.1.map (eInt .u8))), (328197, .live 48 6 (a.2.2.2.2.2.map Put.enc))]⟩) (fun a => spec_Fall_j1 u a.1 a.2.1 a.2.2.1 a.2.2.2.1 a.2.2.2.2.1 a.2.2.2.2.2 = some r) ?_ ?_
  · rintro ⟨x33, x34, x35, x36, x37, x38⟩ h
    change spec_Fall_j1 u x33 x34 x35 x36 x37 x38 = some r at h
    unfold spec_Fall_j1 at h
    refine Wp.srg [] [] ?_
    refine Runs.alln ?_
    refine Wp.fg ⟨[(4, .obj 4 0), (5, .obj 5 0)], [(4, [.nil, .nil, .t (.int .i64 0), .t (.int .i64 0), .t (.int .i64 0), .nil]), (5, [.own 328192, .own 328193, .t (.int .i64 x35), .t (.int .i64 x36), .t (.int .i64 x37), .own 1966080])], [(328192, .live 5 1 (x33.map (eInt .u8))), (328193, .live 5 1 (x34.map (eInt .u8))), (1966080, .live 48 6 ((([] : List Put)).map Put.enc))]⟩ ?_
    refine Wp.srg [] [] ?_
    refine Runs.alln ?_
    refine Wp.fg ⟨[(4, .obj 4 0)], [(4, [.own 328192, .own 328193, .t (.int .i64 x35), .t (.int .i64 x36), .t (.int .i64 x37), .own 1966080])], [(328192, .live 5 1 (x33.map (eInt .u8))), (328193, .live 5 1 (x34.map (eInt .u8))), (1966080, .live 48 6 ((([] : List Put)).map Put.enc))]⟩ ?_
    refine Wp.ret ?_
    obtain rfl := Option.some.inj h
    exact RetK [.agg [.own 328192, .own 328193, .t (.int .i64 x35), .t (.int .i64 x36), .t (.int .i64 x37), .own 1966080]] _ [] kr kr (.refl _) .nil
  · refine Wp.srg [] [] ?_
    refine Runs.alln ?_
    refine Wp.fg ⟨[(1, .t (.int .i64 p1)), (2, .obj 2 0), (4, .obj 4 0), (5, .obj 5 0), (6, .t (.int .i64 0))], [(2, ((Disk.enc p0).map .t)), (4, [.nil, .nil, .t (.int .i64 0), .t (.int .i64 0), .t (.int .i64 0), .nil]), (5, [.own 524288, .own 524289, .t (.int .i64 r1.fR.fGen), .t (.int .i64 r1.fR.fSlot), .t (.int .i64 r1.fR.fLen), .own 524293])], [(524288, .live 5 1 (r1.fA.map (eInt .u8))), (524289, .live 5 1 (r1.fB.map (eInt .u8))), (524293, .live 48 6 (r1.fP.map Put.enc))]⟩ ?_
    refine Wp.block ?_
    refine Wp.loopF (α := Int × Int × Disk × (List Int) × (List Int) × Int × Int × Int × (List Put)) (fun a => ⟨[(1, .t (.int .i64 a.1)), (2, .obj 2 0), (4, .obj 4 0), (5, .obj 5 0), (6, .t (.int .i64 a.2.1))], [(2, ((Disk.enc a.2.2.1).map .t)), (4, [.nil, .nil, .t (.int .i64 0), .t (.int .i64 0), .t (.int .i64 0), .nil]), (5, [.own 328192, .own 328193, .t (.int .i64 a.2.2.2.2.2.1), .t (.int .i64 a.2.2.2.2.2.2.1), .t (.int .i64 a.2.2.2.2.2.2.2.1), .own 328197])], [(328192, .live 5 1 (a.2.2.2.1.map (eInt .u8))), (328193, .live 5 1 (a.2.2.2.2.1.map (eInt .u8))), (328197, .live 48 6 (a.2.2.2.2.2.2.2.2.map Put.enc))]⟩) (fun k_spec_Fall_l2 a => spec_Fall_l2 u k_spec_Fall_l2 a.1 a.2.1 a.2.2.1 a.2.2.2.1 a.2.2.2.2.1 a.2.2.2.2.2.1 a.2.2.2.2.2.2.1 a.2.2.2.2.2.2.2.1 a.2.2.2.2.2.2.2.2 = some r) ?_ ?_ u (p1, 0, p0, r1.fA, r1.fB, r1.fR.fGen, r1.fR.fSlot, r1.fR.fLen, r1.fP) h (Le.of (mo := []) (mr := [(328192, 524288), (328193, 524289), (328197, 524293)]) kr kr kr kr)
    · intro a h; unfold spec_Fall_l2 at h; cases h
    · rintro k_spec_Fall_l2 ⟨p1, x10, p0, x11, x12, x13, x14, x15, x16⟩ h
      change spec_Fall_l2 u (k_spec_Fall_l2 + 1) p1 x10 p0 x11 x12 x13 x14 x15 x16 = some r at h
      rw [spec_Fall_l2] at h
      refine Wp.seq ?_
      refine Wp.srg [] [] ?_
      refine Runs.batch 3 kr ?_
      refine Runs.lenT (y := .t (.sl 6 (p0.fP.map Put.enc))) (e := 48) Put.enc p0.fP 6 rfl rfl rfl kr kr kr kr kr ?_
      refine Runs.alln ?_
      refine Wp.fg ⟨[(1, .t (.int .i64 p1)), (2, .obj 2 0), (4, .obj 4 0), (5, .obj 5 0), (6, .t (.int .i64 x10)), (17, .t (.bool (decide (x10 < ((p0.fP.length : Int))))))], [(2, ((Disk.enc p0).map .t)), (4, [.nil, .nil, .t (.int .i64 0), .t (.int .i64 0), .t (.int .i64 0), .nil]), (5, [.own 328192, .own 328193, .t (.int .i64 x13), .t (.int .i64 x14), .t (.int .i64 x15), .own 328197])], [(328192, .live 5 1 (x11.map (eInt .u8))), (328193, .live 5 1 (x12.map (eInt .u8))), (328197, .live 48 6 (x16.map Put.enc))]⟩ ?_
      refine Wp.cond2 (b := decide (x10 < ((p0.fP.length : Int)))) kr (fun hc => ?_) (fun hc => ?_)
      · have h := cond_t h hc
        refine Wp.skip (thenN ?_)
        refine Wp.seqJ (α := Int × Int × Disk × (List Int) × (List Int) × Int × Int × Int × (List Put)) (fun a => ⟨[(1, .t (.int .i64 a.1)), (2, .obj 2 0), (4, .obj 4 0), (5, .obj 5 0), (6, .t (.int .i64 a.2.1))], [(2, ((Disk.enc a.2.2.1).map .t)), (4, [.nil, .nil, .t (.int .i64 0), .t (.int .i64 0), .t (.int .i64 0), .nil]), (5, [.own 328192, .own 328193, .t (.int .i64 a.2.2.2.2.2.1), .t (.int .i64 a.2.2.2.2.2.2.1), .t (.int .i64 a.2.2.2.2.2.2.2.1), .own 328197])], [(328192, .live 5 1 (a.2.2.2.1.map (eInt .u8))), (328193, .live 5 1 (a.2.2.2.2.1.map (eInt .u8))), (328197, .live 48 6 (a.2.2.2.2.2.2.2.2.map Put.enc))]⟩) (fun a => spec_Fall_j3 u (fun z0 z1 z2 z3 z4 z5 z6 z7 z8 => spec_Fall_l2 u k_spec_Fall_l2 z0 z1 z2 z3 z4 z5 z6 z7 z8) a.1 a.2.1 a.2.2.1 a.2.2.2.1 a.2.2.2.2.1 a.2.2.2.2.2.1 a.2.2.2.2.2.2.1 a.2.2.2.2.2.2.2.1 a.2.2.2.2.2.2.2.2 = some r) ?_ ?_
        · rintro ⟨p1, x10, p0, x27, x28, x29, x30, x31, x32⟩ h
          change spec_Fall_j3 u (fun z0 z1 z2 z3 z4 z5 z6 z7 z8 => spec_Fall_l2 u k_spec_Fall_l2 z0 z1 z2 z3 z4 z5 z6 z7 z8) p1 x10 p0 x27 x28 x29 x30 x31 x32 = some r at h
          unfold spec_Fall_j3 at h
          refine Wp.rg [] [] ?_
          refine Runs.alln ?_
          exact ⟨(p1, bAdd .i64 x10 1, p0, x27, x28, x29, x30, x31, x32), h, Le.of (mo := []) (mr := []) kr kr kr kr⟩
        · refine Wp.block ?_
          refine Wp.srg [] [] ?_
          refine Runs.batch 2 kr ?_
          obtain ⟨r24, e_r24, h⟩ := bind_some h
          refine Runs.callK false 22 92 [] [.t (.int .i64 p1), .t (.int .i64 x10)] _ _ _ rfl rfl kr kr kr kr kr (spec_InSet_ok u p1 x10 r24 e_r24) kr ?_
          refine Runs.done ?_
          refine thenN ?_
          refine Wp.fg ⟨[(1, .t (.int .i64 p1)), (2, .obj 2 0), (4, .obj 4 0), (5, .obj 5 0), (6, .t (.int .i64 x10)), (22, .t (.bool r24))], [(2, ((Disk.enc p0).map .t)), (4, [.nil, .nil, .t (.int .i64 0), .t (.int .i64 0), .t (.int .i64 0), .nil]), (5, [.own 328192, .own 328193, .t (.int .i64 x13), .t (.int .i64 x14), .t (.int .i64 x15), .own 328197])], [(328192, .live 5 1 (x11.map (eInt .u8))), (328193, .live 5 1 (x12.map (eInt .u8))), (328197, .live 48 6 (x16.map Put.enc))]⟩ ?_
          refine Wp.cond2 (b := r24) kr (fun hc => ?_) (fun hc => ?_)
          · have h := cond_t h hc
            refine Wp.le (Le.trans (Le.frzO 5 0 328192 5 1 [.own 328192, .own 328193, .t (.int .i64 x13), .t (.int .i64 x14), .t (.int .i64 x15), .own 328197] (x11.map (eInt .u8)) kr kr kr) (Le.trans (Le.frzO 5 1 328193 5 1 [.t (.sl 1 (x11.map (eInt .u8))), .own 328193, .t (.int .i64 x13), .t (.int .i64 x14), .t (.int .i64 x15), .own 328197] (x12.map (eInt .u8)) kr kr kr) (Le.trans (Le.frzO 5 5 328197 48 6 [.t (.sl 1 (x11.map (eInt .u8))), .t (.sl 1 (x12.map (eInt .u8))), .t (.int .i64 x13), .t (.int .i64 x14), .t (.int .i64 x15), .own 328197] (x16.map Put.enc) kr kr kr) (Le.of (s := ⟨[(1, .t (.int .i64 p1)), (2, .obj 2 0), (4, .obj 4 0), (5, .obj 5 0), (6, .t (.int .i64 x10))], [(2, ((Disk.enc p0).map .t)), (4, [.nil, .nil, .t (.int .i64 0), .t (.int .i64 0), .t (.int .i64 0), .nil]), (5, [.t (.sl 1 (x11.map (eInt .u8))), .t (.sl 1 (x12.map (eInt .u8))), .t (.int .i64 x13), .t (.int .i64 x14), .t (.int .i64 x15), .t (.sl 6 (x16.map Put.enc))])], []⟩) (mo := []) (mr := []) kr kr kr kr)))) ?_
            refine Wp.regionA (pOf []) (rhoOf [(2, .obj 2), (5, .obj 5), (6, .frz), (23, .frz), (24, .obj 2), (25, .frz), (26, .frz), (27, .frz), (28, .frz), (29, .own 29)]) kr kr ?_
            refine Runs.batch 4 kr ?_
            obtain ⟨y25, e_y25, h⟩ := bind_some h
            refine Runs.idxT (e := 48) (kk := .i64) (sz := 6) Put.enc p0.fP x10 rfl kr kr kr kr kr kr e_y25 ?_
            refine Runs.batch 1 kr ?_
            obtain ⟨r26, e_r26, h⟩ := bind_some h
            refine Runs.callK false 29 33 [] [.agg [.t (.sl 1 (x11.map (eInt .u8))), .t (.sl 1 (x12.map (eInt .u8))), .t (.int .i64 x13), .t (.int .i64 x14), .t (.int .i64 x15), .t (.sl 6 (x16.map Put.enc))], .agg ((Put.enc y25).map .t)] _ _ _ rfl rfl kr kr kr kr kr (spec_OnePut_ok u ((Disk.mk x11 x12 ((Record.mk x13 x14 x15)) x16)) y25 r26 e_r26) kr ?_
            refine Runs.all kr ?_
            refine blkN ?_
            refine thenN ?_
            exact ⟨(p1, x10, p0, r26.fA, r26.fB, r26.fR.fGen, r26.fR.fSlot, r26.fR.fLen, r26.fP), h, Le.of (mo := []) (mr := [(328192, 1900544), (328193, 1900545), (328197, 1900549)]) kr kr kr kr⟩
          have h := cond_f h hc
          refine Wp.skip ?_
          refine blkN ?_
          refine thenN ?_
          exact ⟨(p1, x10, p0, x11, x12, x13, x14, x15, x16), h, Le.of (mo := []) (mr := []) kr kr kr kr⟩
      have h := cond_f h hc
      refine Wp.exit ?_
      refine thenE ?_
      refine thenE ?_
      refine blkE ?_
      refine thenN ?_
      exact ⟨(x11, x12, x13, x14, x15, x16), h, Le.of (mo := []) (mr := []) kr kr kr kr⟩
theorem laws_same_ok (u : Nat) (p0 : List Int) (p1 : List Int) (r : Bool) (h : laws_same u p0 p1 = some r) : CallOK Try.prog 42 [.one (.t (.sl 1 (p0.map (eInt .u8)))), .one (.t (.sl 1 (p1.map (eInt .u8))))] (.one (.t (.bool r))) [] := by
  unfold laws_same at h
  refine CallOK.of_bodyK (fn := Try.f42) (m := false) [.t (.sl 1 (p0.map (eInt .u8))), .t (.sl 1 (p1.map (eInt .u8)))] kr rfl kr kr kr kr kr ?_
  refine Wp.srg [] [] ?_
  refine Runs.alln ?_
  refine Wp.fg ⟨[(0, .t (.sl 1 (p0.map (eInt .u8)))), (1, .t (.sl 1 (p1.map (eInt .u8)))), (4, .t (.bool false))], [], []⟩ ?_
  refine Wp.seq ?_
  refine Wp.srg [] [] ?_
  refine Runs.batch 1 kr ?_
  refine Runs.lenT (y := .t (.sl 1 (p0.map (eInt .u8)))) (e := 5) (eInt .u8) p0 1 rfl rfl rfl kr kr kr kr kr ?_
  refine Runs.batch 1 kr ?_
  refine Runs.lenT (y := .t (.sl 1 (p1.map (eInt .u8)))) (e := 5) (eInt .u8) p1 1 rfl rfl rfl kr kr kr kr kr ?_
  refine Runs.alln ?_
  refine Wp.fg ⟨[(0, .t (.sl 1 (p0.map (eInt .u8)))), (1, .t (.sl 1 (p1.map (eInt .u8)))), (4, .t (.bool false)), (10, .t (.bool (((p0.length : Int)) != ((p1.length : Int)))))], [], []⟩ ?_
  refine Wp.cond2 (b := ((p0.length : Int)) != ((p1.length : Int))) kr (fun hc => ?_) (fun hc => ?_)
  · have h := cond_t h hc
    refine Wp.srg [] [] ?_
    refine Runs.alln ?_
    refine Wp.fg ⟨[(0, .t (.sl 1 (p0.map (eInt .u8)))), (1, .t (.sl 1 (p1.map (eInt .u8)))), (4, .t (.bool false))], [], []⟩ ?_
    refine Wp.ret ?_
    refine thenR ?_
    obtain rfl := Option.some.inj h
    exact RetK [.t (.bool false)] _ [] kr kr (.refl _) .nil
  have h := cond_f h hc
  refine Wp.skip (thenN ?_)
  refine Wp.seqJ (α := Unit) (fun a => ⟨[(4, .t (.bool false))], [], []⟩) (fun a => laws_same_j1 u = some r) ?_ ?_
  · rintro ⟨⟩ h
    change laws_same_j1 u = some r at h
    unfold laws_same_j1 at h
    refine Wp.srg [] [] ?_
    refine Runs.alln ?_
    refine Wp.fg ⟨[(4, .t (.bool true))], [], []⟩ ?_
    refine Wp.ret ?_
    obtain rfl := Option.some.inj h
    exact RetK [.t (.bool true)] _ [] kr kr (.refl _) .nil
  · refine Wp.srg [] [] ?_
    refine Runs.alln ?_
    refine Wp.fg ⟨[(0, .t (.sl 1 (p0.map (eInt .u8)))), (1, .t (.sl 1 (p1.map (eInt .u8)))), (4, .t (.bool false)), (5, .t (.int .i64 0))], [], []⟩ ?_
    refine Wp.block ?_
    refine Wp.loopF (α := (List Int) × (List Int) × Int) (fun a => ⟨[(0, .t (.sl 1 (a.1.map (eInt .u8)))), (1, .t (.sl 1 (a.2.1.map (eInt .u8)))), (4, .t (.bool false)), (5, .t (.int .i64 a.2.2))], [], []⟩) (fun k_laws_same_l2 a => laws_same_l2 u k_laws_same_l2 a.1 a.2.1 a.2.2 = some r) ?_ ?_ u (p0, p1, 0) h (Le.of (mo := []) (mr := []) kr kr kr kr)
    · intro a h; unfold laws_same_l2 at h; cases h
    · rintro k_laws_same_l2 ⟨p0, p1, x2⟩ h
      change laws_same_l2 u (k_laws_same_l2 + 1) p0 p1 x2 = some r at h
      rw [laws_same_l2] at h
      refine Wp.seq ?_
      refine Wp.srg [] [] ?_
      refine Runs.batch 2 kr ?_
      refine Runs.lenT (y := .t (.sl 1 (p0.map (eInt .u8)))) (e := 5) (eInt .u8) p0 1 rfl rfl rfl kr kr kr kr kr ?_
      refine Runs.alln ?_
      refine Wp.fg ⟨[(0, .t (.sl 1 (p0.map (eInt .u8)))), (1, .t (.sl 1 (p1.map (eInt .u8)))), (4, .t (.bool false)), (5, .t (.int .i64 x2)), (14, .t (.bool (decide (x2 < ((p0.length : Int))))))], [], []⟩ ?_
      refine Wp.cond2 (b := decide (x2 < ((p0.length : Int)))) kr (fun hc => ?_) (fun hc => ?_)
      · have h := cond_t h hc
        refine Wp.skip (thenN ?_)
        refine Wp.seq ?_
        refine Wp.block ?_
        refine Wp.seq ?_
        refine Wp.regionA (pOf []) (rhoOf [(0, .frz), (1, .frz), (5, .frz), (17, .frz), (18, .frz), (19, .frz), (20, .frz), (21, .frz), (22, .frz), (23, .frz), (24, .frz)]) kr kr ?_
        refine Runs.batch 2 kr ?_
        obtain ⟨y4, e_y4, h⟩ := bind_some h
        refine Runs.idxT (e := 5) (kk := .i64) (sz := 1) (eInt .u8) p0 x2 rfl kr kr kr kr kr kr e_y4 ?_
        refine Runs.batch 3 kr ?_
        obtain ⟨y5, e_y5, h⟩ := bind_some h
        refine Runs.idxT (e := 5) (kk := .i64) (sz := 1) (eInt .u8) p1 x2 rfl kr kr kr kr kr kr e_y5 ?_
        refine Runs.alln ?_
        refine Wp.fg ⟨[(0, .t (.sl 1 (p0.map (eInt .u8)))), (1, .t (.sl 1 (p1.map (eInt .u8)))), (4, .t (.bool false)), (5, .t (.int .i64 x2)), (25, .t (.bool (y4 != y5)))], [], []⟩ ?_
        refine Wp.cond2 (b := y4 != y5) kr (fun hc => ?_) (fun hc => ?_)
        · have h := cond_t h hc
          refine Wp.srg [] [] ?_
          refine Runs.alln ?_
          refine Wp.fg ⟨[(0, .t (.sl 1 (p0.map (eInt .u8)))), (1, .t (.sl 1 (p1.map (eInt .u8)))), (4, .t (.bool false)), (5, .t (.int .i64 x2))], [], []⟩ ?_
          refine Wp.ret ?_
          refine blkR ?_
          refine thenR ?_
          refine thenR ?_
          refine blkR ?_
          refine thenR ?_
          obtain rfl := Option.some.inj h
          exact RetK [.t (.bool false)] _ [] kr kr (.refl _) .nil
        have h := cond_f h hc
        refine Wp.skip ?_
        refine blkN ?_
        refine thenN ?_
        refine Wp.rg [] [] ?_
        refine Runs.alln ?_
        exact ⟨(p0, p1, bAdd .i64 x2 1), h, Le.of (mo := []) (mr := []) kr kr kr kr⟩
      have h := cond_f h hc
      refine Wp.exit ?_
      refine thenE ?_
      refine thenE ?_
      refine blkE ?_
      refine thenN ?_
      exact ⟨(), h, Le.of (mo := []) (mr := []) kr kr kr kr⟩
theorem laws_sameDisk_ok (u : Nat) (p0 : Disk) (p1 : Disk) (r : Bool) (h : laws_sameDisk u p0 p1 = some r) : CallOK Try.prog 29 [.agg [.t (.sl 1 (p0.fA.map (eInt .u8))), .t (.sl 1 (p0.fB.map (eInt .u8))), .t (.int .i64 p0.fR.fGen), .t (.int .i64 p0.fR.fSlot), .t (.int .i64 p0.fR.fLen), .t (.sl 6 (p0.fP.map Put.enc))], .agg [.t (.sl 1 (p1.fA.map (eInt .u8))), .t (.sl 1 (p1.fB.map (eInt .u8))), .t (.int .i64 p1.fR.fGen), .t (.int .i64 p1.fR.fSlot), .t (.int .i64 p1.fR.fLen), .t (.sl 6 (p1.fP.map Put.enc))]] (.one (.t (.bool r))) [] := by
  unfold laws_sameDisk at h
  refine CallOK.of_bodyK (fn := Try.f29) (m := false) [.agg ((Disk.enc p0).map .t), .agg ((Disk.enc p1).map .t)] kr rfl kr kr kr kr kr ?_
  refine Wp.srg [] [] ?_
  refine Runs.alln ?_
  refine Wp.fg ⟨[(2, .obj 2 0), (3, .obj 3 0), (4, .t (.bool false))], [(2, ((Disk.enc p0).map .t)), (3, ((Disk.enc p1).map .t))], []⟩ ?_
  refine Wp.seq ?_
  refine Wp.seqJ (α := Bool × Disk × Disk) (fun a => ⟨[(2, .obj 2 0), (3, .obj 3 0), (4, .t (.bool false)), (37, .t (.bool a.1))], [(2, ((Disk.enc a.2.1).map .t)), (3, ((Disk.enc a.2.2).map .t))], []⟩) (fun a => laws_sameDisk_j1 u a.1 a.2.1 a.2.2 = some r) ?_ ?_
  · rintro ⟨x3, p0, p1⟩ h
    change laws_sameDisk_j1 u x3 p0 p1 = some r at h
    unfold laws_sameDisk_j1 at h
    refine Wp.cond2 (b := x3) kr (fun hc => ?_) (fun hc => ?_)
    · have h := cond_t h hc
      refine Wp.srg [] [] ?_
      refine Runs.alln ?_
      refine Wp.fg ⟨[(2, .obj 2 0), (3, .obj 3 0), (4, .t (.bool false))], [(2, ((Disk.enc p0).map .t)), (3, ((Disk.enc p1).map .t))], []⟩ ?_
      refine Wp.ret ?_
      refine thenR ?_
      obtain rfl := Option.some.inj h
      exact RetK [.t (.bool false)] _ [] kr kr (.refl _) .nil
    have h := cond_f h hc
    refine Wp.skip (thenN ?_)
    refine Wp.seqJ (α := Unit) (fun a => ⟨[(4, .t (.bool false))], [], []⟩) (fun a => laws_sameDisk_j2 u = some r) ?_ ?_
    · rintro ⟨⟩ h
      change laws_sameDisk_j2 u = some r at h
      unfold laws_sameDisk_j2 at h
      refine Wp.srg [] [] ?_
      refine Runs.alln ?_
      refine Wp.fg ⟨[(4, .t (.bool true))], [], []⟩ ?_
      refine Wp.ret ?_
      obtain rfl := Option.some.inj h
      exact RetK [.t (.bool true)] _ [] kr kr (.refl _) .nil
    · refine Wp.srg [] [] ?_
      refine Runs.alln ?_
      refine Wp.fg ⟨[(2, .obj 2 0), (3, .obj 3 0), (4, .t (.bool false)), (5, .t (.int .i64 0))], [(2, ((Disk.enc p0).map .t)), (3, ((Disk.enc p1).map .t))], []⟩ ?_
      refine Wp.block ?_
      refine Wp.loopF (α := Int × Disk × Disk) (fun a => ⟨[(2, .obj 2 0), (3, .obj 3 0), (4, .t (.bool false)), (5, .t (.int .i64 a.1))], [(2, ((Disk.enc a.2.1).map .t)), (3, ((Disk.enc a.2.2).map .t))], []⟩) (fun k_laws_sameDisk_l3 a => laws_sameDisk_l3 u k_laws_sameDisk_l3 a.1 a.2.1 a.2.2 = some r) ?_ ?_ u (0, p0, p1) h (Le.of (mo := []) (mr := []) kr kr kr kr)
      · intro a h; unfold laws_sameDisk_l3 at h; cases h
      · rintro k_laws_sameDisk_l3 ⟨x5, p0, p1⟩ h
        change laws_sameDisk_l3 u (k_laws_sameDisk_l3 + 1) x5 p0 p1 = some r at h
        rw [laws_sameDisk_l3] at h
        refine Wp.seq ?_
        refine Wp.srg [] [] ?_
        refine Runs.batch 3 kr ?_
        refine Runs.lenT (y := .t (.sl 6 (p0.fP.map Put.enc))) (e := 48) Put.enc p0.fP 6 rfl rfl rfl kr kr kr kr kr ?_
        refine Runs.alln ?_
        refine Wp.fg ⟨[(2, .obj 2 0), (3, .obj 3 0), (4, .t (.bool false)), (5, .t (.int .i64 x5)), (42, .t (.bool (decide (x5 < ((p0.fP.length : Int))))))], [(2, ((Disk.enc p0).map .t)), (3, ((Disk.enc p1).map .t))], []⟩ ?_
        refine Wp.cond2 (b := decide (x5 < ((p0.fP.length : Int)))) kr (fun hc => ?_) (fun hc => ?_)
        · have h := cond_t h hc
          refine Wp.skip (thenN ?_)
          refine Wp.seq ?_
          refine Wp.block ?_
          refine Wp.srg [] [] ?_
          refine Runs.batch 3 kr ?_
          obtain ⟨y7, e_y7, h⟩ := bind_some h
          refine Runs.idxT (e := 48) (kk := .i64) (sz := 6) Put.enc p0.fP x5 rfl kr kr kr kr kr kr e_y7 ?_
          refine Runs.alln ?_
          refine Wp.fg ⟨[(2, .obj 2 0), (3, .obj 3 0), (4, .t (.bool false)), (5, .t (.int .i64 x5)), (6, .obj 6 0)], [(2, ((Disk.enc p0).map .t)), (3, ((Disk.enc p1).map .t)), (6, ((Put.enc y7).map .t))], []⟩ ?_
          refine Wp.srg [] [] ?_
          refine Runs.batch 3 kr ?_
          obtain ⟨y8, e_y8, h⟩ := bind_some h
          refine Runs.idxT (e := 48) (kk := .i64) (sz := 6) Put.enc p1.fP x5 rfl kr kr kr kr kr kr e_y8 ?_
          refine Runs.alln ?_
          refine Wp.fg ⟨[(2, .obj 2 0), (3, .obj 3 0), (4, .t (.bool false)), (5, .t (.int .i64 x5)), (6, .obj 6 0), (7, .obj 7 0)], [(2, ((Disk.enc p0).map .t)), (3, ((Disk.enc p1).map .t)), (6, ((Put.enc y7).map .t)), (7, ((Put.enc y8).map .t))], []⟩ ?_
          refine Wp.seqJ (α := Int × Bool × Disk × Disk) (fun a => ⟨[(2, .obj 2 0), (3, .obj 3 0), (4, .t (.bool false)), (5, .t (.int .i64 a.1)), (81, .t (.bool a.2.1))], [(2, ((Disk.enc a.2.2.1).map .t)), (3, ((Disk.enc a.2.2.2).map .t))], []⟩) (fun a => laws_sameDisk_j4 u (fun z0 z1 z2 => laws_sameDisk_l3 u k_laws_sameDisk_l3 z0 z1 z2) a.1 a.2.1 a.2.2.1 a.2.2.2 = some r) ?_ ?_
          · rintro ⟨x5, x10, p0, p1⟩ h
            change laws_sameDisk_j4 u (fun z0 z1 z2 => laws_sameDisk_l3 u k_laws_sameDisk_l3 z0 z1 z2) x5 x10 p0 p1 = some r at h
            unfold laws_sameDisk_j4 at h
            refine Wp.cond2 (b := x10) kr (fun hc => ?_) (fun hc => ?_)
            · have h := cond_t h hc
              refine Wp.srg [] [] ?_
              refine Runs.alln ?_
              refine Wp.fg ⟨[(2, .obj 2 0), (3, .obj 3 0), (4, .t (.bool false)), (5, .t (.int .i64 x5))], [(2, ((Disk.enc p0).map .t)), (3, ((Disk.enc p1).map .t))], []⟩ ?_
              refine Wp.ret ?_
              refine blkR ?_
              refine thenR ?_
              refine thenR ?_
              refine blkR ?_
              refine thenR ?_
              obtain rfl := Option.some.inj h
              exact RetK [.t (.bool false)] _ [] kr kr (.refl _) .nil
            have h := cond_f h hc
            refine Wp.skip ?_
            refine blkN ?_
            refine thenN ?_
            refine Wp.rg [] [] ?_
            refine Runs.alln ?_
            exact ⟨(bAdd .i64 x5 1, p0, p1), h, Le.of (mo := []) (mr := []) kr kr kr kr⟩
          · refine Wp.rg [] [] ?_
            refine Runs.batch 6 kr ?_
            rcases tf (y7.fWhat != y8.fWhat) with hc | hc
            · have h := cond_t h hc
              refine Runs.known 60 (v := true) kr hc ?_
              refine Runs.alln ?_
              exact ⟨(x5, true, p0, p1), h, Le.of (mo := []) (mr := []) kr kr kr kr⟩
            have h := cond_f h hc
            refine Runs.known 60 (v := false) kr hc ?_
            refine Runs.batch 7 kr ?_
            rcases tf (y7.fAt != y8.fAt) with hc | hc
            · have h := cond_t h hc
              refine Runs.known 67 (v := true) kr hc ?_
              refine Runs.alln ?_
              exact ⟨(x5, true, p0, p1), h, Le.of (mo := []) (mr := []) kr kr kr kr⟩
            have h := cond_f h hc
            refine Runs.known 67 (v := false) kr hc ?_
            refine Runs.batch 7 kr ?_
            rcases tf (!([y7.fR.fGen, y7.fR.fSlot, y7.fR.fLen] == [y8.fR.fGen, y8.fR.fSlot, y8.fR.fLen])) with hc | hc
            · have h := cond_t h hc
              refine Runs.known 74 (v := true) kr hc ?_
              refine Runs.alln ?_
              exact ⟨(x5, true, p0, p1), h, Le.of (mo := []) (mr := []) kr kr kr kr⟩
            have h := cond_f h hc
            refine Runs.known 74 (v := false) kr hc ?_
            refine Runs.batch 4 kr ?_
            obtain ⟨r9, e_r9, h⟩ := bind_some h
            refine Runs.callK false 79 42 [] [.t (.sl 1 (y7.fB.map (eInt .u8))), .t (.sl 1 (y8.fB.map (eInt .u8)))] _ _ _ rfl rfl kr kr kr kr kr (laws_same_ok u y7.fB y8.fB r9 e_r9) kr ?_
            refine Runs.alln ?_
            exact ⟨(x5, !r9, p0, p1), h, Le.of (mo := []) (mr := []) kr kr kr kr⟩
        have h := cond_f h hc
        refine Wp.exit ?_
        refine thenE ?_
        refine thenE ?_
        refine blkE ?_
        refine thenN ?_
        exact ⟨(), h, Le.of (mo := []) (mr := []) kr kr kr kr⟩
  · refine Wp.rg [] [] ?_
    refine Runs.batch 4 kr ?_
    obtain ⟨r1, e_r1, h⟩ := bind_some h
    refine Runs.callK false 12 42 [] [.t (.sl 1 (p0.fA.map (eInt .u8))), .t (.sl 1 (p1.fA.map (eInt .u8)))] _ _ _ rfl rfl kr kr kr kr kr (laws_same_ok u p0.fA p1.fA r1 e_r1) kr ?_
    refine Runs.batch 2 kr ?_
    rcases tf (!r1) with hc | hc
    · have h := cond_t h hc
      refine Runs.known 14 (v := true) kr hc ?_
      refine Runs.alln ?_
      exact ⟨(true, p0, p1), h, Le.of (mo := []) (mr := []) kr kr kr kr⟩
    have h := cond_f h hc
    refine Runs.known 14 (v := false) kr hc ?_
    refine Runs.batch 4 kr ?_
    obtain ⟨r2, e_r2, h⟩ := bind_some h
    refine Runs.callK false 19 42 [] [.t (.sl 1 (p0.fB.map (eInt .u8))), .t (.sl 1 (p1.fB.map (eInt .u8)))] _ _ _ rfl rfl kr kr kr kr kr (laws_same_ok u p0.fB p1.fB r2 e_r2) kr ?_
    refine Runs.batch 3 kr ?_
    rcases tf (!r2) with hc | hc
    · have h := cond_t h hc
      refine Runs.known 22 (v := true) kr hc ?_
      refine Runs.alln ?_
      exact ⟨(true, p0, p1), h, Le.of (mo := []) (mr := []) kr kr kr kr⟩
    have h := cond_f h hc
    refine Runs.known 22 (v := false) kr hc ?_
    refine Runs.batch 7 kr ?_
    rcases tf (!([p0.fR.fGen, p0.fR.fSlot, p0.fR.fLen] == [p1.fR.fGen, p1.fR.fSlot, p1.fR.fLen])) with hc | hc
    · have h := cond_t h hc
      refine Runs.known 29 (v := true) kr hc ?_
      refine Runs.alln ?_
      exact ⟨(true, p0, p1), h, Le.of (mo := []) (mr := []) kr kr kr kr⟩
    have h := cond_f h hc
    refine Runs.known 29 (v := false) kr hc ?_
    refine Runs.batch 2 kr ?_
    refine Runs.lenT (y := .t (.sl 6 (p0.fP.map Put.enc))) (e := 48) Put.enc p0.fP 6 rfl rfl rfl kr kr kr kr kr ?_
    refine Runs.batch 2 kr ?_
    refine Runs.lenT (y := .t (.sl 6 (p1.fP.map Put.enc))) (e := 48) Put.enc p1.fP 6 rfl rfl rfl kr kr kr kr kr ?_
    refine Runs.alln ?_
    exact ⟨(((p0.fP.length : Int)) != ((p1.fP.length : Int)), p0, p1), h, Le.of (mo := []) (mr := []) kr kr kr kr⟩
theorem impl_OnePut_ok (u : Nat) (p0 : Disk) (p1 : Put) (r : Disk) (h : impl_OnePut u p0 p1 = some r) : CallOK Try.prog 32 [.agg [.t (.sl 1 (p0.fA.map (eInt .u8))), .t (.sl 1 (p0.fB.map (eInt .u8))), .t (.int .i64 p0.fR.fGen), .t (.int .i64 p0.fR.fSlot), .t (.int .i64 p0.fR.fLen), .t (.sl 6 (p0.fP.map Put.enc))], .agg [.t (.int .i64 p1.fWhat), .t (.int .i64 p1.fAt), .t (.sl 1 (p1.fB.map (eInt .u8))), .t (.int .i64 p1.fR.fGen), .t (.int .i64 p1.fR.fSlot), .t (.int .i64 p1.fR.fLen)]] (.agg [.ow 5 1 (r.fA.map (eInt .u8)), .ow 5 1 (r.fB.map (eInt .u8)), .t (.int .i64 r.fR.fGen), .t (.int .i64 r.fR.fSlot), .t (.int .i64 r.fR.fLen), .ow 48 6 (r.fP.map Put.enc)]) [] := by
  unfold impl_OnePut at h
  refine CallOK.of_bodyK (fn := Try.f32) (m := true) [.agg ((Disk.enc p0).map .t), .agg ((Put.enc p1).map .t)] kr rfl kr kr kr kr kr ?_
  refine Wp.srg [] [] ?_
  refine Runs.alln ?_
  refine Wp.fg ⟨[(2, .obj 2 0), (3, .obj 3 0), (4, .obj 4 0)], [(2, ((Disk.enc p0).map .t)), (3, ((Put.enc p1).map .t)), (4, [.nil, .nil, .t (.int .i64 0), .t (.int .i64 0), .t (.int .i64 0), .nil])], []⟩ ?_
  refine Wp.srg [] [] ?_
  refine Runs.batch 1 kr ?_
  obtain ⟨r1, e_r1, h⟩ := bind_some h
  refine Runs.callK false 7 84 [] [.agg ((Disk.enc p0).map .t)] _ _ _ rfl rfl kr kr kr kr kr (impl_copyDisk_ok u p0 r1 e_r1) kr ?_
  refine Runs.alln ?_
  refine Wp.fg ⟨[(3, .obj 3 0), (4, .obj 4 0), (5, .obj 5 0)], [(3, ((Put.enc p1).map .t)), (4, [.nil, .nil, .t (.int .i64 0), .t (.int .i64 0), .t (.int .i64 0), .nil]), (5, [.own 458752, .own 458753, .t (.int .i64 r1.fR.fGen), .t (.int .i64 r1.fR.fSlot), .t (.int .i64 r1.fR.fLen), .own 458757])], [(458752, .live 5 1 (r1.fA.map (eInt .u8))), (458753, .live 5 1 (r1.fB.map (eInt .u8))), (458757, .live 48 6 (r1.fP.map Put.enc))]⟩ ?_
  refine Wp.seqJ (α := (List Int) × (List Int) × Int × Int × Int × (List Put)) (fun a => ⟨[(4, .obj 4 0), (5, .obj 5 0)], [(4, [.nil, .nil, .t (.int .i64 0), .t (.int .i64 0), .t (.int .i64 0), .nil]), (5, [.own 328192, .own 328193, .t (.int .i64 a.2.2.1), .t (.int .i64 a.2.2.2.1), .t (.int .i64 a.2.2.2.2.1), .own 328197])], [(328192, .live 5 1 (a.1.map (eInt .u8))), (328193, .live 5 1 (a.2.1.map (eInt .u8))), (328197, .live 48 6 (a.2.2.2.2.2.map Put.enc))]⟩) (fun a => impl_OnePut_j1 u a.1 a.2.1 a.2.2.1 a.2.2.2.1 a.2.2.2.2.1 a.2.2.2.2.2 = some r) ?_ ?_
  · rintro ⟨x4, x5, x6, x7, x8, x9⟩ h
    change impl_OnePut_j1 u x4 x5 x6 x7 x8 x9 = some r at h
    unfold impl_OnePut_j1 at h
    refine Wp.srg [] [] ?_
    refine Runs.alln ?_
    refine Wp.fg ⟨[(4, .obj 4 0)], [(4, [.own 328192, .own 328193, .t (.int .i64 x6), .t (.int .i64 x7), .t (.int .i64 x8), .own 328197])], [(328192, .live 5 1 (x4.map (eInt .u8))), (328193, .live 5 1 (x5.map (eInt .u8))), (328197, .live 48 6 (x9.map Put.enc))]⟩ ?_
    refine Wp.ret ?_
    obtain rfl := Option.some.inj h
    exact RetK [.agg [.own 328192, .own 328193, .t (.int .i64 x6), .t (.int .i64 x7), .t (.int .i64 x8), .own 328197]] _ [] kr kr (.refl _) .nil
  · refine Wp.srg [] [] ?_
    refine Runs.batch 1 kr ?_
    obtain ⟨r2, e_r2, h⟩ := bind_some h
    refine Runs.callK false 9 93 [] [.agg ((Put.enc p1).map .t)] _ _ _ rfl rfl kr kr kr kr kr (impl_isPut_ok u p1 r2 e_r2) kr ?_
    refine Runs.done ?_
    refine thenN ?_
    refine Wp.fg ⟨[(3, .obj 3 0), (4, .obj 4 0), (5, .obj 5 0), (9, .t (.bool r2))], [(3, ((Put.enc p1).map .t)), (4, [.nil, .nil, .t (.int .i64 0), .t (.int .i64 0), .t (.int .i64 0), .nil]), (5, [.own 458752, .own 458753, .t (.int .i64 r1.fR.fGen), .t (.int .i64 r1.fR.fSlot), .t (.int .i64 r1.fR.fLen), .own 458757])], [(458752, .live 5 1 (r1.fA.map (eInt .u8))), (458753, .live 5 1 (r1.fB.map (eInt .u8))), (458757, .live 48 6 (r1.fP.map Put.enc))]⟩ ?_
    refine Wp.cond2 (b := r2) kr (fun hc => ?_) (fun hc => ?_)
    · have h := cond_t h hc
      refine Wp.rg [] [] ?_
      refine Runs.batch 1 kr ?_
      obtain ⟨r3, e_r3, h⟩ := bind_some h
      refine Runs.callK true 11 94 [] [.obj 5 0, .agg ((Put.enc p1).map .t)] _ _ _ rfl rfl kr kr kr kr kr (impl_Disk__perform__own_p0_fP_ok u r1 p1 r3 e_r3) kr ?_
      refine Runs.done ?_
      refine thenN ?_
      exact ⟨(r3.fA, r3.fB, r3.fR.fGen, r3.fR.fSlot, r3.fR.fLen, r3.fP), h, Le.of (mo := []) (mr := [(328192, 722240), (328193, 722241), (328197, 722245)]) kr kr kr kr⟩
    have h := cond_f h hc
    refine Wp.skip (thenN ?_)
    exact ⟨(r1.fA, r1.fB, r1.fR.fGen, r1.fR.fSlot, r1.fR.fLen, r1.fP), h, Le.of (mo := []) (mr := [(328192, 458752), (328193, 458753), (328197, 458757)]) kr kr kr kr⟩
theorem impl_Sure_1_ok (u : Nat) (p0 : Int) (r : Bool) (h : impl_Sure_1 u p0 = some r) : CallOK Try.prog 97 [.one (.t (.int .i64 p0))] (.one (.t (.bool r))) [] := by
  unfold impl_Sure_1 at h
  refine CallOK.of_bodyK (fn := Try.f97) (m := false) [.t (.int .i64 p0)] kr rfl kr kr kr kr kr ?_
  refine Wp.srg [] [] ?_
  refine Runs.alln ?_
  refine Wp.fg ⟨[(2, .t (.bool false))], [], []⟩ ?_
  refine Wp.srg [] [] ?_
  refine Runs.alln ?_
  refine Wp.fg ⟨[(2, .t (.bool true))], [], []⟩ ?_
  refine Wp.ret ?_
  obtain rfl := Option.some.inj h
  exact RetK [.t (.bool true)] _ [] kr kr (.refl _) .nil
theorem impl_Disk__settled__impl_Sure_1_ok (u : Nat) (p0 : Disk) (r : Disk) (h : impl_Disk__settled__impl_Sure_1 u p0 = some r) : CallOK Try.prog 89 [.agg [.t (.sl 1 (p0.fA.map (eInt .u8))), .t (.sl 1 (p0.fB.map (eInt .u8))), .t (.int .i64 p0.fR.fGen), .t (.int .i64 p0.fR.fSlot), .t (.int .i64 p0.fR.fLen), .t (.sl 6 (p0.fP.map Put.enc))], .clo 97 []] (.agg [.ow 5 1 (r.fA.map (eInt .u8)), .ow 5 1 (r.fB.map (eInt .u8)), .t (.int .i64 r.fR.fGen), .t (.int .i64 r.fR.fSlot), .t (.int .i64 r.fR.fLen), .ow 48 6 (r.fP.map Put.enc)]) [] := by
  unfold impl_Disk__settled__impl_Sure_1 at h
  refine CallOK.of_bodyK (fn := Try.f89) (m := true) [.agg ((Disk.enc p0).map .t), .clo 97 []] kr rfl kr kr kr kr kr ?_
  refine Wp.srg [] [] ?_
  refine Runs.alln ?_
  refine Wp.fg ⟨[(1, .clo 97 []), (2, .obj 2 0), (4, .obj 4 0)], [(2, ((Disk.enc p0).map .t)), (4, [.nil, .nil, .t (.int .i64 0), .t (.int .i64 0), .t (.int .i64 0), .nil])], []⟩ ?_
  refine Wp.srg [] [] ?_
  refine Runs.batch 1 kr ?_
  obtain ⟨r1, e_r1, h⟩ := bind_some h
  refine Runs.callK false 9 84 [] [.agg ((Disk.enc p0).map .t)] _ _ _ rfl rfl kr kr kr kr kr (impl_copyDisk_ok u p0 r1 e_r1) kr ?_
  refine Runs.alln ?_
  refine Wp.fg ⟨[(1, .clo 97 []), (2, .obj 2 0), (4, .obj 4 0), (5, .obj 5 0)], [(2, ((Disk.enc p0).map .t)), (4, [.nil, .nil, .t (.int .i64 0), .t (.int .i64 0), .t (.int .i64 0), .nil]), (5, [.own 589824, .own 589825, .t (.int .i64 r1.fR.fGen), .t (.int .i64 r1.fR.fSlot), .t (.int .i64 r1.fR.fLen), .own 589829])], [(589824, .live 5 1 (r1.fA.map (eInt .u8))), (589825, .live 5 1 (r1.fB.map (eInt .u8))), (589829, .live 48 6 (r1.fP.map Put.enc))]⟩ ?_
  refine Wp.seq ?_
  refine Wp.srg [] [] ?_
  refine Runs.batch 1 kr ?_
  obtain ⟨r2, e_r2, h⟩ := bind_some h
  refine Runs.callK false 11 38 [] [.agg ((Disk.enc p0).map .t)] _ _ _ rfl rfl kr kr kr kr kr (impl_DiskOk_ok u p0 r2 e_r2) kr ?_
  refine Runs.alln ?_
  refine Wp.fg ⟨[(1, .clo 97 []), (2, .obj 2 0), (4, .obj 4 0), (5, .obj 5 0), (12, .t (.bool (!r2)))], [(2, ((Disk.enc p0).map .t)), (4, [.nil, .nil, .t (.int .i64 0), .t (.int .i64 0), .t (.int .i64 0), .nil]), (5, [.own 589824, .own 589825, .t (.int .i64 r1.fR.fGen), .t (.int .i64 r1.fR.fSlot), .t (.int .i64 r1.fR.fLen), .own 589829])], [(589824, .live 5 1 (r1.fA.map (eInt .u8))), (589825, .live 5 1 (r1.fB.map (eInt .u8))), (589829, .live 48 6 (r1.fP.map Put.enc))]⟩ ?_
  refine Wp.cond2 (b := !r2) kr (fun hc => ?_) (fun hc => ?_)
  · have h := cond_t h hc
    refine Wp.srg [] [] ?_
    refine Runs.alln ?_
    refine Wp.fg ⟨[(1, .clo 97 []), (2, .obj 2 0), (4, .obj 4 0), (5, .obj 5 0)], [(2, ((Disk.enc p0).map .t)), (4, [.own 589824, .own 589825, .t (.int .i64 r1.fR.fGen), .t (.int .i64 r1.fR.fSlot), .t (.int .i64 r1.fR.fLen), .own 589829]), (5, [.own 589824, .own 589825, .t (.int .i64 r1.fR.fGen), .t (.int .i64 r1.fR.fSlot), .t (.int .i64 r1.fR.fLen), .own 589829])], [(589824, .live 5 1 (r1.fA.map (eInt .u8))), (589825, .live 5 1 (r1.fB.map (eInt .u8))), (589829, .live 48 6 (r1.fP.map Put.enc))]⟩ ?_
    refine Wp.ret ?_
    refine thenR ?_
    obtain rfl := Option.some.inj h
    exact RetK [.agg [.own 589824, .own 589825, .t (.int .i64 r1.fR.fGen), .t (.int .i64 r1.fR.fSlot), .t (.int .i64 r1.fR.fLen), .own 589829]] _ [] kr kr (.refl _) .nil
  have h := cond_f h hc
  refine Wp.skip (thenN ?_)
  refine Wp.seqJ (α := (List Int) × (List Int) × Int × Int × Int × (List Put)) (fun a => ⟨[(4, .obj 4 0), (5, .obj 5 0)], [(4, [.nil, .nil, .t (.int .i64 0), .t (.int .i64 0), .t (.int .i64 0), .nil]), (5, [.own 328192, .own 328193, .t (.int .i64 a.2.2.1), .t (.int .i64 a.2.2.2.1), .t (.int .i64 a.2.2.2.2.1), .own 328197])], [(328192, .live 5 1 (a.1.map (eInt .u8))), (328193, .live 5 1 (a.2.1.map (eInt .u8))), (328197, .live 48 6 (a.2.2.2.2.2.map Put.enc))]⟩) (fun a => impl_Disk__settled__impl_Sure_1_j1 u a.1 a.2.1 a.2.2.1 a.2.2.2.1 a.2.2.2.2.1 a.2.2.2.2.2 = some r) ?_ ?_
  · rintro ⟨x33, x34, x35, x36, x37, x38⟩ h
    change impl_Disk__settled__impl_Sure_1_j1 u x33 x34 x35 x36 x37 x38 = some r at h
    unfold impl_Disk__settled__impl_Sure_1_j1 at h
    refine Wp.srg [] [] ?_
    refine Runs.alln ?_
    refine Wp.fg ⟨[(4, .obj 4 0), (5, .obj 5 0)], [(4, [.nil, .nil, .t (.int .i64 0), .t (.int .i64 0), .t (.int .i64 0), .nil]), (5, [.own 328192, .own 328193, .t (.int .i64 x35), .t (.int .i64 x36), .t (.int .i64 x37), .nil])], [(328192, .live 5 1 (x33.map (eInt .u8))), (328193, .live 5 1 (x34.map (eInt .u8)))]⟩ ?_
    refine Wp.srg [] [] ?_
    refine Runs.alln ?_
    refine Wp.fg ⟨[(4, .obj 4 0)], [(4, [.own 328192, .own 328193, .t (.int .i64 x35), .t (.int .i64 x36), .t (.int .i64 x37), .nil])], [(328192, .live 5 1 (x33.map (eInt .u8))), (328193, .live 5 1 (x34.map (eInt .u8)))]⟩ ?_
    refine Wp.ret ?_
    obtain rfl := Option.some.inj h
    exact RetK [.agg [.own 328192, .own 328193, .t (.int .i64 x35), .t (.int .i64 x36), .t (.int .i64 x37), .nil]] (.agg [.ow 5 1 (x33.map (eInt .u8)), .ow 5 1 (x34.map (eInt .u8)), .t (.int .i64 x35), .t (.int .i64 x36), .t (.int .i64 x37), .nil]) [] kr kr (.agg (.cons (.refl _) (.cons (.refl _) (.cons (.refl _) (.cons (.refl _) (.cons (.refl _) (.cons (.nilO _ _) .nil))))))) .nil
  · refine Wp.srg [] [] ?_
    refine Runs.batch 2 kr ?_
    refine Runs.lenT (y := .t (.sl 6 (p0.fP.map Put.enc))) (e := 48) Put.enc p0.fP 6 rfl rfl rfl kr kr kr kr kr ?_
    refine Runs.alln ?_
    refine Wp.fg ⟨[(1, .clo 97 []), (4, .obj 4 0), (5, .obj 5 0), (15, .t (.sl 6 (p0.fP.map Put.enc))), (16, .t (.int .i64 ((p0.fP.length : Int)))), (17, .t (.int .i64 0))], [(4, [.nil, .nil, .t (.int .i64 0), .t (.int .i64 0), .t (.int .i64 0), .nil]), (5, [.own 589824, .own 589825, .t (.int .i64 r1.fR.fGen), .t (.int .i64 r1.fR.fSlot), .t (.int .i64 r1.fR.fLen), .own 589829])], [(589824, .live 5 1 (r1.fA.map (eInt .u8))), (589825, .live 5 1 (r1.fB.map (eInt .u8))), (589829, .live 48 6 (r1.fP.map Put.enc))]⟩ ?_
    refine Wp.block ?_
    refine Wp.loopF (α := Disk × Int × (List Int) × (List Int) × Int × Int × Int × (List Put)) (fun a => ⟨[(1, .clo 97 []), (4, .obj 4 0), (5, .obj 5 0), (15, .t (.sl 6 (a.1.fP.map Put.enc))), (16, .t (.int .i64 ((a.1.fP.length : Int)))), (17, .t (.int .i64 a.2.1))], [(4, [.nil, .nil, .t (.int .i64 0), .t (.int .i64 0), .t (.int .i64 0), .nil]), (5, [.own 328192, .own 328193, .t (.int .i64 a.2.2.2.2.1), .t (.int .i64 a.2.2.2.2.2.1), .t (.int .i64 a.2.2.2.2.2.2.1), .own 328197])], [(328192, .live 5 1 (a.2.2.1.map (eInt .u8))), (328193, .live 5 1 (a.2.2.2.1.map (eInt .u8))), (328197, .live 48 6 (a.2.2.2.2.2.2.2.map Put.enc))]⟩) (fun k_impl_Disk__settled__impl_Sure_1_l2 a => impl_Disk__settled__impl_Sure_1_l2 u k_impl_Disk__settled__impl_Sure_1_l2 a.1 a.2.1 a.2.2.1 a.2.2.2.1 a.2.2.2.2.1 a.2.2.2.2.2.1 a.2.2.2.2.2.2.1 a.2.2.2.2.2.2.2 = some r) ?_ ?_ u (p0, 0, r1.fA, r1.fB, r1.fR.fGen, r1.fR.fSlot, r1.fR.fLen, r1.fP) h (Le.of (mo := []) (mr := [(328192, 589824), (328193, 589825), (328197, 589829)]) kr kr kr kr)
    · intro a h; unfold impl_Disk__settled__impl_Sure_1_l2 at h; cases h
    · rintro k_impl_Disk__settled__impl_Sure_1_l2 ⟨p0, x10, x11, x12, x13, x14, x15, x16⟩ h
      change impl_Disk__settled__impl_Sure_1_l2 u (k_impl_Disk__settled__impl_Sure_1_l2 + 1) p0 x10 x11 x12 x13 x14 x15 x16 = some r at h
      rw [impl_Disk__settled__impl_Sure_1_l2] at h
      refine Wp.srg [] [] ?_
      refine Runs.alln ?_
      refine Wp.fg ⟨[(1, .clo 97 []), (4, .obj 4 0), (5, .obj 5 0), (15, .t (.sl 6 (p0.fP.map Put.enc))), (16, .t (.int .i64 ((p0.fP.length : Int)))), (17, .t (.int .i64 x10)), (18, .t (.bool (decide (x10 < ((p0.fP.length : Int))))))], [(4, [.nil, .nil, .t (.int .i64 0), .t (.int .i64 0), .t (.int .i64 0), .nil]), (5, [.own 328192, .own 328193, .t (.int .i64 x13), .t (.int .i64 x14), .t (.int .i64 x15), .own 328197])], [(328192, .live 5 1 (x11.map (eInt .u8))), (328193, .live 5 1 (x12.map (eInt .u8))), (328197, .live 48 6 (x16.map Put.enc))]⟩ ?_
      refine Wp.seq ?_
      refine Wp.cond2 (b := decide (x10 < ((p0.fP.length : Int)))) kr (fun hc => ?_) (fun hc => ?_)
      · have h := cond_t h hc
        refine Wp.skip (thenN ?_)
        refine Wp.seqJ (α := Disk × Int × (List Int) × (List Int) × Int × Int × Int × (List Put)) (fun a => ⟨[(1, .clo 97 []), (4, .obj 4 0), (5, .obj 5 0), (15, .t (.sl 6 (a.1.fP.map Put.enc))), (16, .t (.int .i64 ((a.1.fP.length : Int)))), (17, .t (.int .i64 a.2.1))], [(4, [.nil, .nil, .t (.int .i64 0), .t (.int .i64 0), .t (.int .i64 0), .nil]), (5, [.own 328192, .own 328193, .t (.int .i64 a.2.2.2.2.1), .t (.int .i64 a.2.2.2.2.2.1), .t (.int .i64 a.2.2.2.2.2.2.1), .own 328197])], [(328192, .live 5 1 (a.2.2.1.map (eInt .u8))), (328193, .live 5 1 (a.2.2.2.1.map (eInt .u8))), (328197, .live 48 6 (a.2.2.2.2.2.2.2.map Put.enc))]⟩) (fun a => impl_Disk__settled__impl_Sure_1_j3 u (fun z0 z1 z2 z3 z4 z5 z6 z7 => impl_Disk__settled__impl_Sure_1_l2 u k_impl_Disk__settled__impl_Sure_1_l2 z0 z1 z2 z3 z4 z5 z6 z7) a.1 a.2.1 a.2.2.1 a.2.2.2.1 a.2.2.2.2.1 a.2.2.2.2.2.1 a.2.2.2.2.2.2.1 a.2.2.2.2.2.2.2 = some r) ?_ ?_
        · rintro ⟨p0, x10, x27, x28, x29, x30, x31, x32⟩ h
          change impl_Disk__settled__impl_Sure_1_j3 u (fun z0 z1 z2 z3 z4 z5 z6 z7 => impl_Disk__settled__impl_Sure_1_l2 u k_impl_Disk__settled__impl_Sure_1_l2 z0 z1 z2 z3 z4 z5 z6 z7) p0 x10 x27 x28 x29 x30 x31 x32 = some r at h
          unfold impl_Disk__settled__impl_Sure_1_j3 at h
          refine Wp.rg [] [] ?_
          refine Runs.alln ?_
          exact ⟨(p0, bAdd .i64 x10 1, x27, x28, x29, x30, x31, x32), h, Le.of (mo := []) (mr := []) kr kr kr kr⟩
        · refine Wp.block ?_
          refine Wp.srg [] [] ?_
          refine Runs.batch 1 kr ?_
          obtain ⟨y24, e_y24, h⟩ := bind_some h
          refine Runs.idxT (e := 48) (kk := .i64) (sz := 6) Put.enc p0.fP x10 rfl kr kr kr kr kr kr e_y24 ?_
          refine Runs.alln ?_
          refine Wp.fg ⟨[(1, .clo 97 []), (4, .obj 4 0), (5, .obj 5 0), (6, .t (.int .i64 x10)), (7, .obj 7 0), (15, .t (.sl 6 (p0.fP.map Put.enc))), (16, .t (.int .i64 ((p0.fP.length : Int)))), (17, .t (.int .i64 x10))], [(4, [.nil, .nil, .t (.int .i64 0), .t (.int .i64 0), .t (.int .i64 0), .nil]), (5, [.own 328192, .own 328193, .t (.int .i64 x13), .t (.int .i64 x14), .t (.int .i64 x15), .own 328197]), (7, ((Put.enc y24).map .t))], [(328192, .live 5 1 (x11.map (eInt .u8))), (328193, .live 5 1 (x12.map (eInt .u8))), (328197, .live 48 6 (x16.map Put.enc))]⟩ ?_
          refine Wp.srg [] [] ?_
          refine Runs.batch 2 kr ?_
          obtain ⟨r25, e_r25, h⟩ := bind_some h
          refine Runs.callK false 24 97 [] [.t (.int .i64 x10)] _ _ _ rfl rfl kr kr kr kr kr (impl_Sure_1_ok u x10 r25 e_r25) kr ?_
          refine Runs.done ?_
          refine thenN ?_
          refine Wp.fg ⟨[(1, .clo 97 []), (4, .obj 4 0), (5, .obj 5 0), (7, .obj 7 0), (15, .t (.sl 6 (p0.fP.map Put.enc))), (16, .t (.int .i64 ((p0.fP.length : Int)))), (17, .t (.int .i64 x10)), (24, .t (.bool r25))], [(4, [.nil, .nil, .t (.int .i64 0), .t (.int .i64 0), .t (.int .i64 0), .nil]), (5, [.own 328192, .own 328193, .t (.int .i64 x13), .t (.int .i64 x14), .t (.int .i64 x15), .own 328197]), (7, ((Put.enc y24).map .t))], [(328192, .live 5 1 (x11.map (eInt .u8))), (328193, .live 5 1 (x12.map (eInt .u8))), (328197, .live 48 6 (x16.map Put.enc))]⟩ ?_
          refine Wp.cond2 (b := r25) kr (fun hc => ?_) (fun hc => ?_)
          · have h := cond_t h hc
            refine Wp.rg [] [] ?_
            refine Runs.batch 1 kr ?_
            obtain ⟨r26, e_r26, h⟩ := bind_some h
            refine Runs.callK true 26 94 [] [.obj 5 0, .agg ((Put.enc y24).map .t)] _ _ _ rfl rfl kr kr kr kr kr (impl_Disk__perform__own_p0_fP_ok u ((Disk.mk x11 x12 ((Record.mk x13 x14 x15)) x16)) y24 r26 e_r26) kr ?_
            refine Runs.done ?_
            refine blkN ?_
            refine thenN ?_
            exact ⟨(p0, x10, r26.fA, r26.fB, r26.fR.fGen, r26.fR.fSlot, r26.fR.fLen, r26.fP), h, Le.of (mo := []) (mr := [(328192, 1705280), (328193, 1705281), (328197, 1705285)]) kr kr kr kr⟩
          have h := cond_f h hc
          refine Wp.skip ?_
          refine blkN ?_
          refine thenN ?_
          exact ⟨(p0, x10, x11, x12, x13, x14, x15, x16), h, Le.of (mo := []) (mr := []) kr kr kr kr⟩
      have h := cond_f h hc
      refine Wp.exit ?_
      refine thenE ?_
      refine thenE ?_
      refine blkE ?_
      refine thenN ?_
      exact ⟨(x11, x12, x13, x14, x15, x16), h, Le.of (mo := []) (mr := []) kr kr kr kr⟩
theorem impl_Sure_ok (u : Nat) (p0 : Disk) (r : Disk) (h : impl_Sure u p0 = some r) : CallOK Try.prog 34 [.agg [.t (.sl 1 (p0.fA.map (eInt .u8))), .t (.sl 1 (p0.fB.map (eInt .u8))), .t (.int .i64 p0.fR.fGen), .t (.int .i64 p0.fR.fSlot), .t (.int .i64 p0.fR.fLen), .t (.sl 6 (p0.fP.map Put.enc))]] (.agg [.ow 5 1 (r.fA.map (eInt .u8)), .ow 5 1 (r.fB.map (eInt .u8)), .t (.int .i64 r.fR.fGen), .t (.int .i64 r.fR.fSlot), .t (.int .i64 r.fR.fLen), .ow 48 6 (r.fP.map Put.enc)]) [] := by
  unfold impl_Sure at h
  refine CallOK.of_bodyK (fn := Try.f34) (m := true) [.agg ((Disk.enc p0).map .t)] kr rfl kr kr kr kr kr ?_
  refine Wp.srg [] [] ?_
  refine Runs.alln ?_
  refine Wp.fg ⟨[(1, .obj 1 0), (2, .obj 2 0)], [(1, ((Disk.enc p0).map .t)), (2, [.nil, .nil, .t (.int .i64 0), .t (.int .i64 0), .t (.int .i64 0), .nil])], []⟩ ?_
  refine Wp.srg [] [] ?_
  refine Runs.batch 1 kr ?_
  obtain ⟨r1, e_r1, h⟩ := bind_some h
  refine Runs.callK false 4 89 [] [.agg ((Disk.enc p0).map .t), .clo 97 []] _ _ _ rfl rfl kr kr kr kr kr (impl_Disk__settled__impl_Sure_1_ok u p0 r1 e_r1) kr ?_
  refine Runs.alln ?_
  refine Wp.fg ⟨[(2, .obj 2 0)], [(2, [.own 262144, .own 262145, .t (.int .i64 r1.fR.fGen), .t (.int .i64 r1.fR.fSlot), .t (.int .i64 r1.fR.fLen), .own 262149])], [(262144, .live 5 1 (r1.fA.map (eInt .u8))), (262145, .live 5 1 (r1.fB.map (eInt .u8))), (262149, .live 48 6 (r1.fP.map Put.enc))]⟩ ?_
  refine Wp.ret ?_
  obtain rfl := Option.some.inj h
  exact RetK [.agg [.own 262144, .own 262145, .t (.int .i64 r1.fR.fGen), .t (.int .i64 r1.fR.fSlot), .t (.int .i64 r1.fR.fLen), .own 262149]] _ [] kr kr (.refl _) .nil
theorem spec_Sure_ok (u : Nat) (p0 : Disk) (r : Disk) (h : spec_Sure u p0 = some r) : CallOK Try.prog 35 [.agg [.t (.sl 1 (p0.fA.map (eInt .u8))), .t (.sl 1 (p0.fB.map (eInt .u8))), .t (.int .i64 p0.fR.fGen), .t (.int .i64 p0.fR.fSlot), .t (.int .i64 p0.fR.fLen), .t (.sl 6 (p0.fP.map Put.enc))]] (.agg [.ow 5 1 (r.fA.map (eInt .u8)), .ow 5 1 (r.fB.map (eInt .u8)), .t (.int .i64 r.fR.fGen), .t (.int .i64 r.fR.fSlot), .t (.int .i64 r.fR.fLen), .ow 48 6 (r.fP.map Put.enc)]) [] := by
  unfold spec_Sure at h
  refine CallOK.of_bodyK (fn := Try.f35) (m := true) [.agg ((Disk.enc p0).map .t)] kr rfl kr kr kr kr kr ?_
  refine Wp.srg [] [] ?_
  refine Runs.alln ?_
  refine Wp.fg ⟨[(1, .obj 1 0), (2, .obj 2 0)], [(1, ((Disk.enc p0).map .t)), (2, [.nil, .nil, .t (.int .i64 0), .t (.int .i64 0), .t (.int .i64 0), .nil])], []⟩ ?_
  refine Wp.srg [] [] ?_
  refine Runs.batch 1 kr ?_
  obtain ⟨r1, e_r1, h⟩ := bind_some h
  refine Runs.callK false 6 87 [] [.agg ((Disk.enc p0).map .t)] _ _ _ rfl rfl kr kr kr kr kr (spec_l9Copy_ok u p0 r1 e_r1) kr ?_
  refine Runs.alln ?_
  refine Wp.fg ⟨[(1, .obj 1 0), (2, .obj 2 0), (3, .obj 3 0)], [(1, ((Disk.enc p0).map .t)), (2, [.nil, .nil, .t (.int .i64 0), .t (.int .i64 0), .t (.int .i64 0), .nil]), (3, [.own 393216, .own 393217, .t (.int .i64 r1.fR.fGen), .t (.int .i64 r1.fR.fSlot), .t (.int .i64 r1.fR.fLen), .own 393221])], [(393216, .live 5 1 (r1.fA.map (eInt .u8))), (393217, .live 5 1 (r1.fB.map (eInt .u8))), (393221, .live 48 6 (r1.fP.map Put.enc))]⟩ ?_
  refine Wp.seq ?_
  refine Wp.srg [] [] ?_
  refine Runs.batch 1 kr ?_
  obtain ⟨r2, e_r2, h⟩ := bind_some h
  refine Runs.callK false 8 39 [] [.agg ((Disk.enc p0).map .t)] _ _ _ rfl rfl kr kr kr kr kr (spec_DiskOk_ok u p0 r2 e_r2) kr ?_
  refine Runs.alln ?_
  refine Wp.fg ⟨[(1, .obj 1 0), (2, .obj 2 0), (3, .obj 3 0), (9, .t (.bool (!r2)))], [(1, ((Disk.enc p0).map .t)), (2, [.nil, .nil, .t (.int .i64 0), .t (.int .i64 0), .t (.int .i64 0), .nil]), (3, [.own 393216, .own 393217, .t (.int .i64 r1.fR.fGen), .t (.int .i64 r1.fR.fSlot), .t (.int .i64 r1.fR.fLen), .own 393221])], [(393216, .live 5 1 (r1.fA.map (eInt .u8))), (393217, .live 5 1 (r1.fB.map (eInt .u8))), (393221, .live 48 6 (r1.fP.map Put.enc))]⟩ ?_
  refine Wp.cond2 (b := !r2) kr (fun hc => ?_) (fun hc => ?_)
  · have h := cond_t h hc
    refine Wp.srg [] [] ?_
    refine Runs.alln ?_
    refine Wp.fg ⟨[(1, .obj 1 0), (2, .obj 2 0), (3, .obj 3 0)], [(1, ((Disk.enc p0).map .t)), (2, [.own 393216, .own 393217, .t (.int .i64 r1.fR.fGen), .t (.int .i64 r1.fR.fSlot), .t (.int .i64 r1.fR.fLen), .own 393221]), (3, [.own 393216, .own 393217, .t (.int .i64 r1.fR.fGen), .t (.int .i64 r1.fR.fSlot), .t (.int .i64 r1.fR.fLen), .own 393221])], [(393216, .live 5 1 (r1.fA.map (eInt .u8))), (393217, .live 5 1 (r1.fB.map (eInt .u8))), (393221, .live 48 6 (r1.fP.map Put.enc))]⟩ ?_
    refine Wp.ret ?_
    refine thenR ?_
    obtain rfl := Option.some.inj h
    exact RetK [.agg [.own 393216, .own 393217, .t (.int .i64 r1.fR.fGen), .t (.int .i64 r1.fR.fSlot), .t (.int .i64 r1.fR.fLen), .own 393221]] _ [] kr kr (.refl _) .nil
  have h := cond_f h hc
  refine Wp.skip (thenN ?_)
  refine Wp.seqJ (α := (List Int) × (List Int) × Int × Int × Int × (List Put)) (fun a => ⟨[(2, .obj 2 0), (3, .obj 3 0)], [(2, [.nil, .nil, .t (.int .i64 0), .t (.int .i64 0), .t (.int .i64 0), .nil]), (3, [.own 197120, .own 197121, .t (.int .i64 a.2.2.1), .t (.int .i64 a.2.2.2.1), .t (.int .i64 a.2.2.2.2.1), .own 197125])], [(197120, .live 5 1 (a.1.map (eInt .u8))), (197121, .live 5 1 (a.2.1.map (eInt .u8))), (197125, .live 48 6 (a.2.2.2.2.2.map Put.enc))]⟩) (fun a => spec_Sure_j1 u a.1 a.2.1 a.2.2.1 a.2.2.2.1 a.2.2.2.2.1 a.2.2.2.2.2 = some r) ?_ ?_
  · rintro ⟨x26, x27, x28, x29, x30, x31⟩ h
    change spec_Sure_j1 u x26 x27 x28 x29 x30 x31 = some r at h
    unfold spec_Sure_j1 at h
    refine Wp.srg [] [] ?_
    refine Runs.alln ?_
    refine Wp.fg ⟨[(2, .obj 2 0), (3, .obj 3 0)], [(2, [.nil, .nil, .t (.int .i64 0), .t (.int .i64 0), .t (.int .i64 0), .nil]), (3, [.own 197120, .own 197121, .t (.int .i64 x28), .t (.int .i64 x29), .t (.int .i64 x30), .own 1638400])], [(197120, .live 5 1 (x26.map (eInt .u8))), (197121, .live 5 1 (x27.map (eInt .u8))), (1638400, .live 48 6 ((([] : List Put)).map Put.enc))]⟩ ?_
    refine Wp.srg [] [] ?_
    refine Runs.alln ?_
    refine Wp.fg ⟨[(2, .obj 2 0)], [(2, [.own 197120, .own 197121, .t (.int .i64 x28), .t (.int .i64 x29), .t (.int .i64 x30), .own 1638400])], [(197120, .live 5 1 (x26.map (eInt .u8))), (197121, .live 5 1 (x27.map (eInt .u8))), (1638400, .live 48 6 ((([] : List Put)).map Put.enc))]⟩ ?_
    refine Wp.ret ?_
    obtain rfl := Option.some.inj h
    exact RetK [.agg [.own 197120, .own 197121, .t (.int .i64 x28), .t (.int .i64 x29), .t (.int .i64 x30), .own 1638400]] _ [] kr kr (.refl _) .nil
  · refine Wp.srg [] [] ?_
    refine Runs.alln ?_
    refine Wp.fg ⟨[(1, .obj 1 0), (2, .obj 2 0), (3, .obj 3 0), (4, .t (.int .i64 0))], [(1, ((Disk.enc p0).map .t)), (2, [.nil, .nil, .t (.int .i64 0), .t (.int .i64 0), .t (.int .i64 0), .nil]), (3, [.own 393216, .own 393217, .t (.int .i64 r1.fR.fGen), .t (.int .i64 r1.fR.fSlot), .t (.int .i64 r1.fR.fLen), .own 393221])], [(393216, .live 5 1 (r1.fA.map (eInt .u8))), (393217, .live 5 1 (r1.fB.map (eInt .u8))), (393221, .live 48 6 (r1.fP.map Put.enc))]⟩ ?_
    refine Wp.block ?_
    refine Wp.loopF (α := Int × Disk × (List Int) × (List Int) × Int × Int × Int × (List Put)) (fun a => ⟨[(1, .obj 1 0), (2, .obj 2 0), (3, .obj 3 0), (4, .t (.int .i64 a.1))], [(1, ((Disk.enc a.2.1).map .t)), (2, [.nil, .nil, .t (.int .i64 0), .t (.int .i64 0), .t (.int .i64 0), .nil]), (3, [.own 197120, .own 197121, .t (.int .i64 a.2.2.2.2.1), .t (.int .i64 a.2.2.2.2.2.1), .t (.int .i64 a.2.2.2.2.2.2.1), .own 197125])], [(197120, .live 5 1 (a.2.2.1.map (eInt .u8))), (197121, .live 5 1 (a.2.2.2.1.map (eInt .u8))), (197125, .live 48 6 (a.2.2.2.2.2.2.2.map Put.enc))]⟩) (fun k_spec_Sure_l2 a => spec_Sure_l2 u k_spec_Sure_l2 a.1 a.2.1 a.2.2.1 a.2.2.2.1 a.2.2.2.2.1 a.2.2.2.2.2.1 a.2.2.2.2.2.2.1 a.2.2.2.2.2.2.2 = some r) ?_ ?_ u (0, p0, r1.fA, r1.fB, r1.fR.fGen, r1.fR.fSlot, r1.fR.fLen, r1.fP) h (Le.of (mo := []) (mr := [(197120, 393216), (197121, 393217), (197125, 393221)]) kr kr kr kr)
    · intro a h; unfold spec_Sure_l2 at h; cases h
    · rintro k_spec_Sure_l2 ⟨x10, p0, x11, x12, x13, x14, x15, x16⟩ h
      change spec_Sure_l2 u (k_spec_Sure_l2 + 1) x10 p0 x11 x12 x13 x14 x15 x16 = some r at h
      rw [spec_Sure_l2] at h
      refine Wp.seq ?_
      refine Wp.srg [] [] ?_
      refine Runs.batch 3 kr ?_
      refine Runs.lenT (y := .t (.sl 6 (p0.fP.map Put.enc))) (e := 48) Put.enc p0.fP 6 rfl rfl rfl kr kr kr kr kr ?_
      refine Runs.alln ?_
      refine Wp.fg ⟨[(1, .obj 1 0), (2, .obj 2 0), (3, .obj 3 0), (4, .t (.int .i64 x10)), (15, .t (.bool (decide (x10 < ((p0.fP.length : Int))))))], [(1, ((Disk.enc p0).map .t)), (2, [.nil, .nil, .t (.int .i64 0), .t (.int .i64 0), .t (.int .i64 0), .nil]), (3, [.own 197120, .own 197121, .t (.int .i64 x13), .t (.int .i64 x14), .t (.int .i64 x15), .own 197125])], [(197120, .live 5 1 (x11.map (eInt .u8))), (197121, .live 5 1 (x12.map (eInt .u8))), (197125, .live 48 6 (x16.map Put.enc))]⟩ ?_
      refine Wp.cond2 (b := decide (x10 < ((p0.fP.length : Int)))) kr (fun hc => ?_) (fun hc => ?_)
      · have h := cond_t h hc
        refine Wp.skip (thenN ?_)
        refine Wp.seq ?_
        refine Wp.block ?_
        refine Wp.le (Le.trans (Le.frzO 3 0 197120 5 1 [.own 197120, .own 197121, .t (.int .i64 x13), .t (.int .i64 x14), .t (.int .i64 x15), .own 197125] (x11.map (eInt .u8)) kr kr kr) (Le.trans (Le.frzO 3 1 197121 5 1 [.t (.sl 1 (x11.map (eInt .u8))), .own 197121, .t (.int .i64 x13), .t (.int .i64 x14), .t (.int .i64 x15), .own 197125] (x12.map (eInt .u8)) kr kr kr) (Le.trans (Le.frzO 3 5 197125 48 6 [.t (.sl 1 (x11.map (eInt .u8))), .t (.sl 1 (x12.map (eInt .u8))), .t (.int .i64 x13), .t (.int .i64 x14), .t (.int .i64 x15), .own 197125] (x16.map Put.enc) kr kr kr) (Le.of (s := ⟨[(1, .obj 1 0), (2, .obj 2 0), (3, .obj 3 0), (4, .t (.int .i64 x10))], [(1, ((Disk.enc p0).map .t)), (2, [.nil, .nil, .t (.int .i64 0), .t (.int .i64 0), .t (.int .i64 0), .nil]), (3, [.t (.sl 1 (x11.map (eInt .u8))), .t (.sl 1 (x12.map (eInt .u8))), .t (.int .i64 x13), .t (.int .i64 x14), .t (.int .i64 x15), .t (.sl 6 (x16.map Put.enc))])], []⟩) (mo := []) (mr := []) kr kr kr kr)))) ?_
        refine Wp.regionA (pOf []) (rhoOf [(1, .obj 1), (3, .obj 3), (4, .frz), (18, .frz), (19, .obj 1), (20, .frz), (21, .frz), (22, .frz), (23, .frz), (24, .own 24)]) kr kr ?_
        refine Runs.batch 4 kr ?_
        obtain ⟨y24, e_y24, h⟩ := bind_some h
        refine Runs.idxT (e := 48) (kk := .i64) (sz := 6) Put.enc p0.fP x10 rfl kr kr kr kr kr kr e_y24 ?_
        refine Runs.batch 1 kr ?_
        obtain ⟨r25, e_r25, h⟩ := bind_some h
        refine Runs.callK false 24 33 [] [.agg [.t (.sl 1 (x11.map (eInt .u8))), .t (.sl 1 (x12.map (eInt .u8))), .t (.int .i64 x13), .t (.int .i64 x14), .t (.int .i64 x15), .t (.sl 6 (x16.map Put.enc))], .agg ((Put.enc y24).map .t)] _ _ _ rfl rfl kr kr kr kr kr (spec_OnePut_ok u ((Disk.mk x11 x12 ((Record.mk x13 x14 x15)) x16)) y24 r25 e_r25) kr ?_
        refine Runs.all kr ?_
        refine blkN ?_
        refine thenN ?_
        refine Wp.rg [] [] ?_
        refine Runs.alln ?_
        exact ⟨(bAdd .i64 x10 1, p0, r25.fA, r25.fB, r25.fR.fGen, r25.fR.fSlot, r25.fR.fLen, r25.fP), h, Le.of (mo := []) (mr := [(197120, 1572864), (197121, 1572865), (197125, 1572869)]) kr kr kr kr⟩
      have h := cond_f h hc
      refine Wp.exit ?_
      refine thenE ?_
      refine thenE ?_
      refine blkE ?_
      refine thenN ?_
      exact ⟨(x11, x12, x13, x14, x15, x16), h, Le.of (mo := []) (mr := []) kr kr kr kr⟩
theorem impl_DiskNew_ok (u : Nat) (p0 : Int) (p1 : List Int) (r : Disk) (h : impl_DiskNew u p0 p1 = some r) : CallOK Try.prog 36 [.one (.t (.int .i64 p0)), .one (.t (.sl 1 (p1.map (eInt .u8))))] (.agg [.ow 5 1 (r.fA.map (eInt .u8)), .ow 5 1 (r.fB.map (eInt .u8)), .t (.int .i64 r.fR.fGen), .t (.int .i64 r.fR.fSlot), .t (.int .i64 r.fR.fLen), .ow 48 6 (r.fP.map Put.enc)]) [] := by
  unfold impl_DiskNew at h
  refine CallOK.of_bodyK (fn := Try.f36) (m := true) [.t (.int .i64 p0), .t (.sl 1 (p1.map (eInt .u8)))] kr rfl kr kr kr kr kr ?_
  refine Wp.srg [] [] ?_
  refine Runs.alln ?_
  refine Wp.fg ⟨[(0, .t (.int .i64 p0)), (1, .t (.sl 1 (p1.map (eInt .u8)))), (4, .obj 4 0)], [(4, [.nil, .nil, .t (.int .i64 0), .t (.int .i64 0), .t (.int .i64 0), .nil])], []⟩ ?_
  refine Wp.seq ?_
  refine Wp.seqJ (α := Int × (List Int) × Bool) (fun a => ⟨[(0, .t (.int .i64 a.1)), (1, .t (.sl 1 (a.2.1.map (eInt .u8)))), (4, .obj 4 0), (12, .t (.bool a.2.2))], [(4, [.nil, .nil, .t (.int .i64 0), .t (.int .i64 0), .t (.int .i64 0), .nil])], []⟩) (fun a => impl_DiskNew_j1 u a.1 a.2.1 a.2.2 = some r) ?_ ?_
  · rintro ⟨p0, p1, x2⟩ h
    change impl_DiskNew_j1 u p0 p1 x2 = some r at h
    unfold impl_DiskNew_j1 at h
    refine Wp.cond2 (b := x2) kr (fun hc => ?_) (fun hc => ?_)
    · have h := cond_t h hc
      refine Wp.srg [] [] ?_
      refine Runs.alln ?_
      refine Wp.fg ⟨[(0, .t (.int .i64 p0)), (1, .t (.sl 1 (p1.map (eInt .u8)))), (4, .obj 4 0)], [(4, [.nil, .nil, .t (.int .i64 0), .t (.int .i64 0), .t (.int .i64 0), .nil])], []⟩ ?_
      refine Wp.ret ?_
      refine thenR ?_
      obtain rfl := Option.some.inj h
      exact RetK [.agg [.nil, .nil, .t (.int .i64 0), .t (.int .i64 0), .t (.int .i64 0), .nil]] (.agg [.nil, .nil, .t (.int .i64 0), .t (.int .i64 0), .t (.int .i64 0), .nil]) [] kr kr (.agg (.cons (.nilO _ _) (.cons (.nilO _ _) (.cons (.refl _) (.cons (.refl _) (.cons (.refl _) (.cons (.nilO _ _) .nil))))))) .nil
    have h := cond_f h hc
    refine Wp.skip (thenN ?_)
    refine Wp.srg [] [] ?_
    refine Runs.batch 1 kr ?_
    obtain ⟨r3, e_r3, h⟩ := bind_some h
    refine Runs.callK false 15 99 [] [.t (.sl 1 (p1.map (eInt .u8)))] _ _ _ rfl rfl kr kr kr kr kr (impl_cloned_ok u p1 r3 e_r3) kr ?_
    refine Runs.batch 2 kr ?_
    refine Runs.lenT (y := .t (.sl 1 (p1.map (eInt .u8)))) (e := 5) (eInt .u8) p1 1 rfl rfl rfl kr kr kr kr kr ?_
    refine Runs.alln ?_
    refine Wp.fg ⟨[(4, .obj 4 0)], [(4, [.own 983040, .nil, .t (.int .i64 p0), .t (.int .i64 0), .t (.int .i64 ((p1.length : Int))), .nil])], [(983040, .live 5 1 (r3.map (eInt .u8)))]⟩ ?_
    refine Wp.ret ?_
    obtain rfl := Option.some.inj h
    exact RetK [.agg [.own 983040, .nil, .t (.int .i64 p0), .t (.int .i64 0), .t (.int .i64 ((p1.length : Int))), .nil]] (.agg [.ow 5 1 (r3.map (eInt .u8)), .nil, .t (.int .i64 p0), .t (.int .i64 0), .t (.int .i64 ((p1.length : Int))), .nil]) [] kr kr (.agg (.cons (.refl _) (.cons (.nilO _ _) (.cons (.refl _) (.cons (.refl _) (.cons (.refl _) (.cons (.nilO _ _) .nil))))))) .nil
  · refine Wp.rg [] [] ?_
    refine Runs.batch 1 kr ?_
    obtain ⟨r1, e_r1, h⟩ := bind_some h
    refine Runs.callK false 6 98 [] [.t (.int .i64 p0)] _ _ _ rfl rfl kr kr kr kr kr (impl_isGen_ok u p0 r1 e_r1) kr ?_
    refine Runs.batch 2 kr ?_
    rcases tf (!r1) with hc | hc
    · have h := cond_t h hc
      refine Runs.known 8 (v := true) kr hc ?_
      refine Runs.alln ?_
      exact ⟨(p0, p1, true), h, Le.of (mo := []) (mr := []) kr kr kr kr⟩
    have h := cond_f h hc
    refine Runs.known 8 (v := false) kr hc ?_
    refine Runs.batch 1 kr ?_
    refine Runs.lenT (y := .t (.sl 1 (p1.map (eInt .u8)))) (e := 5) (eInt .u8) p1 1 rfl rfl rfl kr kr kr kr kr ?_
    refine Runs.alln ?_
    exact ⟨(p0, p1, decide (((p1.length : Int)) > 240)), h, Le.of (mo := []) (mr := []) kr kr kr kr⟩
theorem spec_DiskNew_ok (u : Nat) (p0 : Int) (p1 : List Int) (r : Disk) (h : spec_DiskNew u p0 p1 = some r) : CallOK Try.prog 37 [.one (.t (.int .i64 p0)), .one (.t (.sl 1 (p1.map (eInt .u8))))] (.agg [.ow 5 1 (r.fA.map (eInt .u8)), .ow 5 1 (r.fB.map (eInt .u8)), .t (.int .i64 r.fR.fGen), .t (.int .i64 r.fR.fSlot), .t (.int .i64 r.fR.fLen), .ow 48 6 (r.fP.map Put.enc)]) [] := by
  unfold spec_DiskNew at h
  refine CallOK.of_bodyK (fn := Try.f37) (m := true) [.t (.int .i64 p0), .t (.sl 1 (p1.map (eInt .u8)))] kr rfl kr kr kr kr kr ?_
  refine Wp.srg [] [] ?_
  refine Runs.alln ?_
  refine Wp.fg ⟨[(0, .t (.int .i64 p0)), (1, .t (.sl 1 (p1.map (eInt .u8)))), (4, .obj 4 0)], [(4, [.nil, .nil, .t (.int .i64 0), .t (.int .i64 0), .t (.int .i64 0), .nil])], []⟩ ?_
  refine Wp.seq ?_
  refine Wp.seqJ (α := Int × (List Int) × Bool) (fun a => ⟨[(0, .t (.int .i64 a.1)), (1, .t (.sl 1 (a.2.1.map (eInt .u8)))), (4, .obj 4 0), (12, .t (.bool a.2.2))], [(4, [.nil, .nil, .t (.int .i64 0), .t (.int .i64 0), .t (.int .i64 0), .nil])], []⟩) (fun a => spec_DiskNew_j1 u a.1 a.2.1 a.2.2 = some r) ?_ ?_
  · rintro ⟨p0, p1, x2⟩ h
    change spec_DiskNew_j1 u p0 p1 x2 = some r at h
    unfold spec_DiskNew_j1 at h
    refine Wp.cond2 (b := x2) kr (fun hc => ?_) (fun hc => ?_)
    · have h := cond_t h hc
      refine Wp.srg [] [] ?_
      refine Runs.alln ?_
      refine Wp.fg ⟨[(0, .t (.int .i64 p0)), (1, .t (.sl 1 (p1.map (eInt .u8)))), (4, .obj 4 0)], [(4, [.nil, .nil, .t (.int .i64 0), .t (.int .i64 0), .t (.int .i64 0), .nil])], []⟩ ?_
      refine Wp.ret ?_
      refine thenR ?_
      obtain rfl := Option.some.inj h
      exact RetK [.agg [.nil, .nil, .t (.int .i64 0), .t (.int .i64 0), .t (.int .i64 0), .nil]] (.agg [.nil, .nil, .t (.int .i64 0), .t (.int .i64 0), .t (.int .i64 0), .nil]) [] kr kr (.agg (.cons (.nilO _ _) (.cons (.nilO _ _) (.cons (.refl _) (.cons (.refl _) (.cons (.refl _) (.cons (.nilO _ _) .nil))))))) .nil
    have h := cond_f h hc
    refine Wp.skip (thenN ?_)
    refine Wp.srg [] [] ?_
    refine Runs.batch 2 kr ?_
    obtain ⟨_, e_3, h⟩ := bind_some h
    refine Runs.appT (y := .t (.sl 1 (p1.map (eInt .u8)))) (eInt .u8) 16 1 5 1 1 917504 (([] : List Int)) p1 rfl rfl rfl rfl kr kr kr kr kr kr (.inl rfl) kr (of_decide_eq_true (chk_some e_3)) kr kr ?_
    refine Runs.batch 2 kr ?_
    refine Runs.lenT (y := .t (.sl 1 (p1.map (eInt .u8)))) (e := 5) (eInt .u8) p1 1 rfl rfl rfl kr kr kr kr kr ?_
    refine Runs.alln ?_
    refine Wp.fg ⟨[(4, .obj 4 0)], [(4, [.own 1048576, .nil, .t (.int .i64 p0), .t (.int .i64 0), .t (.int .i64 ((p1.length : Int))), .nil])], [(1048576, .live 5 1 (((([] : List Int)) ++ p1).map (eInt .u8)))]⟩ ?_
    refine Wp.ret ?_
    obtain rfl := Option.some.inj h
    exact RetK [.agg [.own 1048576, .nil, .t (.int .i64 p0), .t (.int .i64 0), .t (.int .i64 ((p1.length : Int))), .nil]] (.agg [.ow 5 1 (((([] : List Int)) ++ p1).map (eInt .u8)), .nil, .t (.int .i64 p0), .t (.int .i64 0), .t (.int .i64 ((p1.length : Int))), .nil]) [] kr kr (.agg (.cons (.refl _) (.cons (.nilO _ _) (.cons (.refl _) (.cons (.refl _) (.cons (.refl _) (.cons (.nilO _ _) .nil))))))) .nil
  · refine Wp.rg [] [] ?_
    refine Runs.batch 1 kr ?_
    obtain ⟨r1, e_r1, h⟩ := bind_some h
    refine Runs.callK false 6 86 [] [.t (.int .i64 p0), .t (.int .i64 0), .t (.int .i64 1000000)] _ _ _ rfl rfl kr kr kr kr kr (spec_l1In_ok u p0 0 1000000 r1 e_r1) kr ?_
    refine Runs.batch 2 kr ?_
    rcases tf (!r1) with hc | hc
    · have h := cond_t h hc
      refine Runs.known 8 (v := true) kr hc ?_
      refine Runs.alln ?_
      exact ⟨(p0, p1, true), h, Le.of (mo := []) (mr := []) kr kr kr kr⟩
    have h := cond_f h hc
    refine Runs.known 8 (v := false) kr hc ?_
    refine Runs.batch 1 kr ?_
    refine Runs.lenT (y := .t (.sl 1 (p1.map (eInt .u8)))) (e := 5) (eInt .u8) p1 1 rfl rfl rfl kr kr kr kr kr ?_
    refine Runs.alln ?_
    exact ⟨(p0, p1, decide (((p1.length : Int)) > 240)), h, Le.of (mo := []) (mr := []) kr kr kr kr⟩
theorem impl_Least_ok (u : Nat) (p0 : Int) (p1 : Int) (r : Int) (h : impl_Least u p0 p1 = some r) : CallOK Try.prog 41 [.one (.t (.int .i64 p0)), .one (.t (.int .i64 p1))] (.one (.t (.int .i64 r))) [] := by
  unfold impl_Least at h
  refine CallOK.of_bodyK (fn := Try.f41) (m := false) [.t (.int .i64 p0), .t (.int .i64 p1)] kr rfl kr kr kr kr kr ?_
  refine Wp.srg [] [] ?_
  refine Runs.alln ?_
  refine Wp.fg ⟨[(0, .t (.int .i64 p0)), (1, .t (.int .i64 p1)), (4, .t (.int .i64 0))], [], []⟩ ?_
  refine Wp.srg [] [] ?_
  refine Runs.alln ?_
  refine Wp.fg ⟨[(4, .t (.int .i64 (if p1 < p0 then p1 else p0)))], [], []⟩ ?_
  refine Wp.ret ?_
  obtain rfl := Option.some.inj h
  exact RetK [.t (.int .i64 (if p1 < p0 then p1 else p0))] _ [] kr kr (.refl _) .nil
theorem impl_FullSet_ok (u : Nat) (p0 : Int) (r : Int) (h : impl_FullSet u p0 = some r) : CallOK Try.prog 40 [.one (.t (.int .i64 p0))] (.one (.t (.int .i64 r))) [] := by
  unfold impl_FullSet at h
  refine CallOK.of_bodyK (fn := Try.f40) (m := false) [.t (.int .i64 p0)] kr rfl kr kr kr kr kr ?_
  refine Wp.srg [] [] ?_
  refine Runs.alln ?_
  refine Wp.fg ⟨[(0, .t (.int .i64 p0)), (2, .t (.int .i64 0))], [], []⟩ ?_
  refine Wp.seq ?_
  refine Wp.srg [] [] ?_
  refine Runs.batch 1 kr ?_
  obtain ⟨r1, e_r1, h⟩ := bind_some h
  refine Runs.callK false 4 106 [] [.t (.int .i64 p0), .t (.int .i64 0), .t (.int .i64 40)] _ _ _ rfl rfl kr kr kr kr kr (impl_within_ok u p0 0 40 r1 e_r1) kr ?_
  refine Runs.alln ?_
  refine Wp.fg ⟨[(0, .t (.int .i64 p0)), (2, .t (.int .i64 0)), (5, .t (.bool (!r1)))], [], []⟩ ?_
  refine Wp.cond2 (b := !r1) kr (fun hc => ?_) (fun hc => ?_)
  · have h := cond_t h hc
    refine Wp.srg [] [] ?_
    refine Runs.alln ?_
    refine Wp.fg ⟨[(0, .t (.int .i64 p0)), (2, .t (.int .i64 0))], [], []⟩ ?_
    refine Wp.ret ?_
    refine thenR ?_
    obtain rfl := Option.some.inj h
    exact RetK [.t (.int .i64 0)] _ [] kr kr (.refl _) .nil
  have h := cond_f h hc
  refine Wp.skip (thenN ?_)
  refine Wp.srg [] [] ?_
  refine Runs.batch 1 kr ?_
  obtain ⟨_, e_2, h⟩ := bind_some h
  refine Runs.num .shl (.int .i64 1) (.int .i64 p0) (.int .i64 (bShl .i64 1 p0)) rfl kr kr kr kr (bin_shl _ _ _ _ _ (chk_some e_2)) ?_
  refine Runs.alln ?_
  refine Wp.fg ⟨[(2, .t (.int .i64 (bSub .i64 (bShl .i64 1 p0) 1)))], [], []⟩ ?_
  refine Wp.ret ?_
  obtain rfl := Option.some.inj h
  exact RetK [.t (.int .i64 (bSub .i64 (bShl .i64 1 p0) 1))] _ [] kr kr (.refl _) .nil
theorem laws_FnDisks_ok (u : Nat) (p0 : List Int) (r : Bool) (h : laws_FnDisks u p0 = some r) : CallOK Try.prog 5 [.one (.t (.sl 1 (p0.map (eInt .u8))))] (.one (.t (.bool r))) [] := by
  unfold laws_FnDisks at h
  refine CallOK.of_bodyK (fn := Try.f5) (m := false) [.t (.sl 1 (p0.map (eInt .u8)))] kr rfl kr kr kr kr kr ?_
  refine Wp.srg [] [] ?_
  refine Runs.alln ?_
  refine Wp.fg ⟨[(0, .t (.sl 1 (p0.map (eInt .u8)))), (2, .t (.bool false))], [], []⟩ ?_
  refine Wp.seq ?_
  refine Wp.srg [] [] ?_
  refine Runs.batch 1 kr ?_
  obtain ⟨r1, e_r1, h⟩ := bind_some h
  refine Runs.callK false 28 17 [] [.t (.sl 1 (p0.map (eInt .u8)))] _ _ _ rfl rfl kr kr kr kr kr (laws_big_ok u p0 r1 e_r1) kr ?_
  refine Runs.done ?_
  refine thenN ?_
  refine Wp.fg ⟨[(0, .t (.sl 1 (p0.map (eInt .u8)))), (2, .t (.bool false)), (28, .t (.bool r1))], [], []⟩ ?_
  refine Wp.cond2 (b := r1) kr (fun hc => ?_) (fun hc => ?_)
  · have h := cond_t h hc
    refine Wp.srg [] [] ?_
    refine Runs.alln ?_
    refine Wp.fg ⟨[(0, .t (.sl 1 (p0.map (eInt .u8)))), (2, .t (.bool true))], [], []⟩ ?_
    refine Wp.ret ?_
    refine thenR ?_
    obtain rfl := Option.some.inj h
    exact RetK [.t (.bool true)] _ [] kr kr (.refl _) .nil
  have h := cond_f h hc
  refine Wp.skip (thenN ?_)
  refine Wp.srg [] [] ?_
  refine Runs.batch 1 kr ?_
  obtain ⟨r2, e_r2, h⟩ := bind_some h
  refine Runs.callK false 30 18 [] [.t (.sl 1 (p0.map (eInt .u8)))] _ _ _ rfl rfl kr kr kr kr kr (spec_DrawDisk_ok u p0 r2 e_r2) kr ?_
  refine Runs.alln ?_
  refine Wp.fg ⟨[(0, .t (.sl 1 (p0.map (eInt .u8)))), (2, .t (.bool false)), (3, .obj 3 0)], [(3, [.own 1966080, .own 1966081, .t (.int .i64 r2.fR.fGen), .t (.int .i64 r2.fR.fSlot), .t (.int .i64 r2.fR.fLen), .own 1966085])], [(1966080, .live 5 1 (r2.fA.map (eInt .u8))), (1966081, .live 5 1 (r2.fB.map (eInt .u8))), (1966085, .live 48 6 (r2.fP.map Put.enc))]⟩ ?_
  refine Wp.srg [] [] ?_
  refine Runs.batch 1 kr ?_
  obtain ⟨r3, e_r3, h⟩ := bind_some h
  refine Runs.callK false 33 19 [] [.t (.sl 1 (p0.map (eInt .u8)))] _ _ _ rfl rfl kr kr kr kr kr (spec_DrawFall_ok u p0 r3 e_r3) kr ?_
  refine Runs.alln ?_
  refine Wp.fg ⟨[(0, .t (.sl 1 (p0.map (eInt .u8)))), (2, .t (.bool false)), (3, .obj 3 0), (4, .obj 4 0), (5, .t (.int .i64 r3.2))], [(3, [.own 1966080, .own 1966081, .t (.int .i64 r2.fR.fGen), .t (.int .i64 r2.fR.fSlot), .t (.int .i64 r2.fR.fLen), .own 1966085]), (4, ((Disk.enc r3.1).map .t))], [(1966080, .live 5 1 (r2.fA.map (eInt .u8))), (1966081, .live 5 1 (r2.fB.map (eInt .u8))), (1966085, .live 48 6 (r2.fP.map Put.enc))]⟩ ?_
  refine Wp.srg [] [] ?_
  refine Runs.batch 1 kr ?_
  obtain ⟨r4, e_r4, h⟩ := bind_some h
  refine Runs.callK false 38 20 [] [.t (.sl 1 (p0.map (eInt .u8)))] _ _ _ rfl rfl kr kr kr kr kr (spec_DrawOnePut_ok u p0 r4 e_r4) kr ?_
  refine Runs.alln ?_
  refine Wp.fg ⟨[(0, .t (.sl 1 (p0.map (eInt .u8)))), (2, .t (.bool false)), (3, .obj 3 0), (4, .obj 4 0), (5, .t (.int .i64 r3.2)), (6, .obj 6 0), (7, .obj 7 0)], [(3, [.own 1966080, .own 1966081, .t (.int .i64 r2.fR.fGen), .t (.int .i64 r2.fR.fSlot), .t (.int .i64 r2.fR.fLen), .own 1966085]), (4, ((Disk.enc r3.1).map .t)), (6, ((Disk.enc r4.1).map .t)), (7, ((Put.enc r4.2).map .t))], [(1966080, .live 5 1 (r2.fA.map (eInt .u8))), (1966081, .live 5 1 (r2.fB.map (eInt .u8))), (1966085, .live 48 6 (r2.fP.map Put.enc))]⟩ ?_
  refine Wp.srg [] [] ?_
  refine Runs.batch 1 kr ?_
  obtain ⟨r5, e_r5, h⟩ := bind_some h
  refine Runs.callK false 42 21 [] [.t (.sl 1 (p0.map (eInt .u8)))] _ _ _ rfl rfl kr kr kr kr kr (spec_DrawSure_ok u p0 r5 e_r5) kr ?_
  refine Runs.alln ?_
  refine Wp.fg ⟨[(0, .t (.sl 1 (p0.map (eInt .u8)))), (2, .t (.bool false)), (3, .obj 3 0), (4, .obj 4 0), (5, .t (.int .i64 r3.2)), (6, .obj 6 0), (7, .obj 7 0), (8, .obj 8 0)], [(3, [.own 1966080, .own 1966081, .t (.int .i64 r2.fR.fGen), .t (.int .i64 r2.fR.fSlot), .t (.int .i64 r2.fR.fLen), .own 1966085]), (4, ((Disk.enc r3.1).map .t)), (6, ((Disk.enc r4.1).map .t)), (7, ((Put.enc r4.2).map .t)), (8, [.own 2752512, .own 2752513, .t (.int .i64 r5.fR.fGen), .t (.int .i64 r5.fR.fSlot), .t (.int .i64 r5.fR.fLen), .own 2752517])], [(1966080, .live 5 1 (r2.fA.map (eInt .u8))), (1966081, .live 5 1 (r2.fB.map (eInt .u8))), (1966085, .live 48 6 (r2.fP.map Put.enc)), (2752512, .live 5 1 (r5.fA.map (eInt .u8))), (2752513, .live 5 1 (r5.fB.map (eInt .u8))), (2752517, .live 48 6 (r5.fP.map Put.enc))]⟩ ?_
  refine Wp.srg [] [] ?_
  refine Runs.batch 1 kr ?_
  obtain ⟨r6, e_r6, h⟩ := bind_some h
  refine Runs.callK false 45 22 [] [.t (.sl 1 (p0.map (eInt .u8)))] _ _ _ rfl rfl kr kr kr kr kr (spec_DrawPutBytes_ok u p0 r6 e_r6) kr ?_
  refine Runs.alln ?_
  refine Wp.fg ⟨[(0, .t (.sl 1 (p0.map (eInt .u8)))), (2, .t (.bool false)), (3, .obj 3 0), (4, .obj 4 0), (5, .t (.int .i64 r3.2)), (6, .obj 6 0), (7, .obj 7 0), (8, .obj 8 0), (9, .obj 9 0), (10, .t (.int .i64 r6.2.1)), (11, .t (.int .i64 r6.2.2.1)), (12, .own 2952192)], [(3, [.own 1966080, .own 1966081, .t (.int .i64 r2.fR.fGen), .t (.int .i64 r2.fR.fSlot), .t (.int .i64 r2.fR.fLen), .own 1966085]), (4, ((Disk.enc r3.1).map .t)), (6, ((Disk.enc r4.1).map .t)), (7, ((Put.enc r4.2).map .t)), (8, [.own 2752512, .own 2752513, .t (.int .i64 r5.fR.fGen), .t (.int .i64 r5.fR.fSlot), .t (.int .i64 r5.fR.fLen), .own 2752517]), (9, ((Disk.enc r6.1).map .t))], [(1966080, .live 5 1 (r2.fA.map (eInt .u8))), (1966081, .live 5 1 (r2.fB.map (eInt .u8))), (1966085, .live 48 6 (r2.fP.map Put.enc)), (2752512, .live 5 1 (r5.fA.map (eInt .u8))), (2752513, .live 5 1 (r5.fB.map (eInt .u8))), (2752517, .live 48 6 (r5.fP.map Put.enc)), (2952192, .live 5 1 (r6.2.2.2.map (eInt .u8)))]⟩ ?_
  refine Wp.srg [] [] ?_
  refine Runs.batch 4 kr ?_
  obtain ⟨r7, e_r7, h⟩ := bind_some h
  refine Runs.callDK 55 23 [] [.agg ((Disk.enc r6.1).map .t), .t (.int .i64 r6.2.1), .t (.int .i64 r6.2.2.1), .own 2952192] [.agg ((Disk.enc r6.1).map .t), .one (.t (.int .i64 r6.2.1)), .one (.t (.int .i64 r6.2.2.1)), .one (.t (.sl 1 (r6.2.2.2.map (eInt .u8))))] (.tup [.agg [.ow 5 1 (r7.1.fA.map (eInt .u8)), .ow 5 1 (r7.1.fB.map (eInt .u8)), .t (.int .i64 r7.1.fR.fGen), .t (.int .i64 r7.1.fR.fSlot), .t (.int .i64 r7.1.fR.fLen), .ow 48 6 (r7.1.fP.map Put.enc)], .one (.t (.bool r7.2))]) rfl rfl kr kr kr kr kr (impl_PutBytes_okd u r6.1 r6.2.1 r6.2.2.1 r6.2.2.2 r7 e_r7) kr ?_
  refine Runs.alln ?_
  refine Wp.fg ⟨[(0, .t (.sl 1 (p0.map (eInt .u8)))), (2, .t (.bool false)), (3, .obj 3 0), (4, .obj 4 0), (5, .t (.int .i64 r3.2)), (6, .obj 6 0), (7, .obj 7 0), (8, .obj 8 0), (9, .obj 9 0), (10, .t (.int .i64 r6.2.1)), (11, .t (.int .i64 r6.2.2.1)), (12, .own 2952192), (13, .obj 13 0), (14, .t (.bool r7.2))], [(3, [.own 1966080, .own 1966081, .t (.int .i64 r2.fR.fGen), .t (.int .i64 r2.fR.fSlot), .t (.int .i64 r2.fR.fLen), .own 1966085]), (4, ((Disk.enc r3.1).map .t)), (6, ((Disk.enc r4.1).map .t)), (7, ((Put.enc r4.2).map .t)), (8, [.own 2752512, .own 2752513, .t (.int .i64 r5.fR.fGen), .t (.int .i64 r5.fR.fSlot), .t (.int .i64 r5.fR.fLen), .own 2752517]), (9, ((Disk.enc r6.1).map .t)), (13, [.own 3604480, .own 3604481, .t (.int .i64 r7.1.fR.fGen), .t (.int .i64 r7.1.fR.fSlot), .t (.int .i64 r7.1.fR.fLen), .own 3604485])], [(1966080, .live 5 1 (r2.fA.map (eInt .u8))), (1966081, .live 5 1 (r2.fB.map (eInt .u8))), (1966085, .live 48 6 (r2.fP.map Put.enc)), (2752512, .live 5 1 (r5.fA.map (eInt .u8))), (2752513, .live 5 1 (r5.fB.map (eInt .u8))), (2752517, .live 48 6 (r5.fP.map Put.enc)), (2952192, .live 5 1 (r6.2.2.2.map (eInt .u8))), (3604480, .live 5 1 (r7.1.fA.map (eInt .u8))), (3604481, .live 5 1 (r7.1.fB.map (eInt .u8))), (3604485, .live 48 6 (r7.1.fP.map Put.enc))]⟩ ?_
  refine Wp.srg [] [] ?_
  refine Runs.batch 4 kr ?_
  obtain ⟨r8, e_r8, h⟩ := bind_some h
  refine Runs.callDK 63 24 [] [.agg ((Disk.enc r6.1).map .t), .t (.int .i64 r6.2.1), .t (.int .i64 r6.2.2.1), .own 2952192] [.agg ((Disk.enc r6.1).map .t), .one (.t (.int .i64 r6.2.1)), .one (.t (.int .i64 r6.2.2.1)), .one (.t (.sl 1 (r6.2.2.2.map (eInt .u8))))] (.tup [.agg [.ow 5 1 (r8.1.fA.map (eInt .u8)), .ow 5 1 (r8.1.fB.map (eInt .u8)), .t (.int .i64 r8.1.fR.fGen), .t (.int .i64 r8.1.fR.fSlot), .t (.int .i64 r8.1.fR.fLen), .ow 48 6 (r8.1.fP.map Put.enc)], .one (.t (.bool r8.2))]) rfl rfl kr kr kr kr kr (spec_PutBytes_okd u r6.1 r6.2.1 r6.2.2.1 r6.2.2.2 r8 e_r8) kr ?_
  refine Runs.alln ?_
  refine Wp.fg ⟨[(0, .t (.sl 1 (p0.map (eInt .u8)))), (2, .t (.bool false)), (3, .obj 3 0), (4, .obj 4 0), (5, .t (.int .i64 r3.2)), (6, .obj 6 0), (7, .obj 7 0), (8, .obj 8 0), (13, .obj 13 0), (14, .t (.bool r7.2)), (15, .obj 15 0), (16, .t (.bool r8.2))], [(3, [.own 1966080, .own 1966081, .t (.int .i64 r2.fR.fGen), .t (.int .i64 r2.fR.fSlot), .t (.int .i64 r2.fR.fLen), .own 1966085]), (4, ((Disk.enc r3.1).map .t)), (6, ((Disk.enc r4.1).map .t)), (7, ((Put.enc r4.2).map .t)), (8, [.own 2752512, .own 2752513, .t (.int .i64 r5.fR.fGen), .t (.int .i64 r5.fR.fSlot), .t (.int .i64 r5.fR.fLen), .own 2752517]), (13, [.own 3604480, .own 3604481, .t (.int .i64 r7.1.fR.fGen), .t (.int .i64 r7.1.fR.fSlot), .t (.int .i64 r7.1.fR.fLen), .own 3604485]), (15, [.own 4128768, .own 4128769, .t (.int .i64 r8.1.fR.fGen), .t (.int .i64 r8.1.fR.fSlot), .t (.int .i64 r8.1.fR.fLen), .own 4128773])], [(1966080, .live 5 1 (r2.fA.map (eInt .u8))), (1966081, .live 5 1 (r2.fB.map (eInt .u8))), (1966085, .live 48 6 (r2.fP.map Put.enc)), (2752512, .live 5 1 (r5.fA.map (eInt .u8))), (2752513, .live 5 1 (r5.fB.map (eInt .u8))), (2752517, .live 48 6 (r5.fP.map Put.enc)), (3604480, .live 5 1 (r7.1.fA.map (eInt .u8))), (3604481, .live 5 1 (r7.1.fB.map (eInt .u8))), (3604485, .live 48 6 (r7.1.fP.map Put.enc)), (4128768, .live 5 1 (r8.1.fA.map (eInt .u8))), (4128769, .live 5 1 (r8.1.fB.map (eInt .u8))), (4128773, .live 48 6 (r8.1.fP.map Put.enc))]⟩ ?_
  refine Wp.srg [] [] ?_
  refine Runs.batch 1 kr ?_
  obtain ⟨r9, e_r9, h⟩ := bind_some h
  refine Runs.callK false 68 25 [] [.t (.sl 1 (p0.map (eInt .u8)))] _ _ _ rfl rfl kr kr kr kr kr (spec_DrawPutRecord_ok u p0 r9 e_r9) kr ?_
  refine Runs.alln ?_
  refine Wp.fg ⟨[(0, .t (.sl 1 (p0.map (eInt .u8)))), (2, .t (.bool false)), (3, .obj 3 0), (4, .obj 4 0), (5, .t (.int .i64 r3.2)), (6, .obj 6 0), (7, .obj 7 0), (8, .obj 8 0), (13, .obj 13 0), (14, .t (.bool r7.2)), (15, .obj 15 0), (16, .t (.bool r8.2)), (17, .obj 17 0), (18, .obj 18 0)], [(3, [.own 1966080, .own 1966081, .t (.int .i64 r2.fR.fGen), .t (.int .i64 r2.fR.fSlot), .t (.int .i64 r2.fR.fLen), .own 1966085]), (4, ((Disk.enc r3.1).map .t)), (6, ((Disk.enc r4.1).map .t)), (7, ((Put.enc r4.2).map .t)), (8, [.own 2752512, .own 2752513, .t (.int .i64 r5.fR.fGen), .t (.int .i64 r5.fR.fSlot), .t (.int .i64 r5.fR.fLen), .own 2752517]), (13, [.own 3604480, .own 3604481, .t (.int .i64 r7.1.fR.fGen), .t (.int .i64 r7.1.fR.fSlot), .t (.int .i64 r7.1.fR.fLen), .own 3604485]), (15, [.own 4128768, .own 4128769, .t (.int .i64 r8.1.fR.fGen), .t (.int .i64 r8.1.fR.fSlot), .t (.int .i64 r8.1.fR.fLen), .own 4128773]), (17, ((Disk.enc r9.1).map .t)), (18, ((Record.enc r9.2).map .t))], [(1966080, .live 5 1 (r2.fA.map (eInt .u8))), (1966081, .live 5 1 (r2.fB.map (eInt .u8))), (1966085, .live 48 6 (r2.fP.map Put.enc)), (2752512, .live 5 1 (r5.fA.map (eInt .u8))), (2752513, .live 5 1 (r5.fB.map (eInt .u8))), (2752517, .live 48 6 (r5.fP.map Put.enc)), (3604480, .live 5 1 (r7.1.fA.map (eInt .u8))), (3604481, .live 5 1 (r7.1.fB.map (eInt .u8))), (3604485, .live 48 6 (r7.1.fP.map Put.enc)), (4128768, .live 5 1 (r8.1.fA.map (eInt .u8))), (4128769, .live 5 1 (r8.1.fB.map (eInt .u8))), (4128773, .live 48 6 (r8.1.fP.map Put.enc))]⟩ ?_
  refine Wp.srg [] [] ?_
  refine Runs.batch 2 kr ?_
  obtain ⟨r10, e_r10, h⟩ := bind_some h
  refine Runs.callK false 74 26 [] [.agg ((Disk.enc r9.1).map .t), .agg ((Record.enc r9.2).map .t)] _ _ _ rfl rfl kr kr kr kr kr (impl_PutRecord_ok u r9.1 r9.2 r10 e_r10) kr ?_
  refine Runs.alln ?_
  refine Wp.fg ⟨[(0, .t (.sl 1 (p0.map (eInt .u8)))), (2, .t (.bool false)), (3, .obj 3 0), (4, .obj 4 0), (5, .t (.int .i64 r3.2)), (6, .obj 6 0), (7, .obj 7 0), (8, .obj 8 0), (13, .obj 13 0), (14, .t (.bool r7.2)), (15, .obj 15 0), (16, .t (.bool r8.2)), (17, .obj 17 0), (18, .obj 18 0), (19, .obj 19 0), (20, .t (.bool r10.2))], [(3, [.own 1966080, .own 1966081, .t (.int .i64 r2.fR.fGen), .t (.int .i64 r2.fR.fSlot), .t (.int .i64 r2.fR.fLen), .own 1966085]), (4, ((Disk.enc r3.1).map .t)), (6, ((Disk.enc r4.1).map .t)), (7, ((Put.enc r4.2).map .t)), (8, [.own 2752512, .own 2752513, .t (.int .i64 r5.fR.fGen), .t (.int .i64 r5.fR.fSlot), .t (.int .i64 r5.fR.fLen), .own 2752517]), (13, [.own 3604480, .own 3604481, .t (.int .i64 r7.1.fR.fGen), .t (.int .i64 r7.1.fR.fSlot), .t (.int .i64 r7.1.fR.fLen), .own 3604485]), (15, [.own 4128768, .own 4128769, .t (.int .i64 r8.1.fR.fGen), .t (.int .i64 r8.1.fR.fSlot), .t (.int .i64 r8.1.fR.fLen), .own 4128773]), (17, ((Disk.enc r9.1).map .t)), (18, ((Record.enc r9.2).map .t)), (19, [.own 4849664, .own 4849665, .t (.int .i64 r10.1.fR.fGen), .t (.int .i64 r10.1.fR.fSlot), .t (.int .i64 r10.1.fR.fLen), .own 4849669])], [(1966080, .live 5 1 (r2.fA.map (eInt .u8))), (1966081, .live 5 1 (r2.fB.map (eInt .u8))), (1966085, .live 48 6 (r2.fP.map Put.enc)), (2752512, .live 5 1 (r5.fA.map (eInt .u8))), (2752513, .live 5 1 (r5.fB.map (eInt .u8))), (2752517, .live 48 6 (r5.fP.map Put.enc)), (3604480, .live 5 1 (r7.1.fA.map (eInt .u8))), (3604481, .live 5 1 (r7.1.fB.map (eInt .u8))), (3604485, .live 48 6 (r7.1.fP.map Put.enc)), (4128768, .live 5 1 (r8.1.fA.map (eInt .u8))), (4128769, .live 5 1 (r8.1.fB.map (eInt .u8))), (4128773, .live 48 6 (r8.1.fP.map Put.enc)), (4849664, .live 5 1 (r10.1.fA.map (eInt .u8))), (4849665, .live 5 1 (r10.1.fB.map (eInt .u8))), (4849669, .live 48 6 (r10.1.fP.map Put.enc))]⟩ ?_
  refine Wp.srg [] [] ?_
  refine Runs.batch 2 kr ?_
  obtain ⟨r11, e_r11, h⟩ := bind_some h
  refine Runs.callK false 80 27 [] [.agg ((Disk.enc r9.1).map .t), .agg ((Record.enc r9.2).map .t)] _ _ _ rfl rfl kr kr kr kr kr (spec_PutRecord_ok u r9.1 r9.2 r11 e_r11) kr ?_
  refine Runs.alln ?_
  refine Wp.fg ⟨[(0, .t (.sl 1 (p0.map (eInt .u8)))), (2, .t (.bool false)), (3, .obj 3 0), (4, .obj 4 0), (5, .t (.int .i64 r3.2)), (6, .obj 6 0), (7, .obj 7 0), (8, .obj 8 0), (13, .obj 13 0), (14, .t (.bool r7.2)), (15, .obj 15 0), (16, .t (.bool r8.2)), (19, .obj 19 0), (20, .t (.bool r10.2)), (21, .obj 21 0), (22, .t (.bool r11.2))], [(3, [.own 1966080, .own 1966081, .t (.int .i64 r2.fR.fGen), .t (.int .i64 r2.fR.fSlot), .t (.int .i64 r2.fR.fLen), .own 1966085]), (4, ((Disk.enc r3.1).map .t)), (6, ((Disk.enc r4.1).map .t)), (7, ((Put.enc r4.2).map .t)), (8, [.own 2752512, .own 2752513, .t (.int .i64 r5.fR.fGen), .t (.int .i64 r5.fR.fSlot), .t (.int .i64 r5.fR.fLen), .own 2752517]), (13, [.own 3604480, .own 3604481, .t (.int .i64 r7.1.fR.fGen), .t (.int .i64 r7.1.fR.fSlot), .t (.int .i64 r7.1.fR.fLen), .own 3604485]), (15, [.own 4128768, .own 4128769, .t (.int .i64 r8.1.fR.fGen), .t (.int .i64 r8.1.fR.fSlot), .t (.int .i64 r8.1.fR.fLen), .own 4128773]), (19, [.own 4849664, .own 4849665, .t (.int .i64 r10.1.fR.fGen), .t (.int .i64 r10.1.fR.fSlot), .t (.int .i64 r10.1.fR.fLen), .own 4849669]), (21, [.own 5242880, .own 5242881, .t (.int .i64 r11.1.fR.fGen), .t (.int .i64 r11.1.fR.fSlot), .t (.int .i64 r11.1.fR.fLen), .own 5242885])], [(1966080, .live 5 1 (r2.fA.map (eInt .u8))), (1966081, .live 5 1 (r2.fB.map (eInt .u8))), (1966085, .live 48 6 (r2.fP.map Put.enc)), (2752512, .live 5 1 (r5.fA.map (eInt .u8))), (2752513, .live 5 1 (r5.fB.map (eInt .u8))), (2752517, .live 48 6 (r5.fP.map Put.enc)), (3604480, .live 5 1 (r7.1.fA.map (eInt .u8))), (3604481, .live 5 1 (r7.1.fB.map (eInt .u8))), (3604485, .live 48 6 (r7.1.fP.map Put.enc)), (4128768, .live 5 1 (r8.1.fA.map (eInt .u8))), (4128769, .live 5 1 (r8.1.fB.map (eInt .u8))), (4128773, .live 48 6 (r8.1.fP.map Put.enc)), (4849664, .live 5 1 (r10.1.fA.map (eInt .u8))), (4849665, .live 5 1 (r10.1.fB.map (eInt .u8))), (4849669, .live 48 6 (r10.1.fP.map Put.enc)), (5242880, .live 5 1 (r11.1.fA.map (eInt .u8))), (5242881, .live 5 1 (r11.1.fB.map (eInt .u8))), (5242885, .live 48 6 (r11.1.fP.map Put.enc))]⟩ ?_
  refine Wp.srg [] [] ?_
  refine Runs.batch 1 kr ?_
  obtain ⟨r12, e_r12, h⟩ := bind_some h
  refine Runs.callK false 85 28 [] [.t (.sl 1 (p0.map (eInt .u8)))] _ _ _ rfl rfl kr kr kr kr kr (spec_DrawDiskNew_ok u p0 r12 e_r12) kr ?_
  refine Runs.alln ?_
  refine Wp.fg ⟨[(2, .t (.bool false)), (3, .obj 3 0), (4, .obj 4 0), (5, .t (.int .i64 r3.2)), (6, .obj 6 0), (7, .obj 7 0), (8, .obj 8 0), (13, .obj 13 0), (14, .t (.bool r7.2)), (15, .obj 15 0), (16, .t (.bool r8.2)), (19, .obj 19 0), (20, .t (.bool r10.2)), (21, .obj 21 0), (22, .t (.bool r11.2)), (23, .t (.int .i64 r12.1)), (24, .own 5571584)], [(3, [.own 1966080, .own 1966081, .t (.int .i64 r2.fR.fGen), .t (.int .i64 r2.fR.fSlot), .t (.int .i64 r2.fR.fLen), .own 1966085]), (4, ((Disk.enc r3.1).map .t)), (6, ((Disk.enc r4.1).map .t)), (7, ((Put.enc r4.2).map .t)), (8, [.own 2752512, .own 2752513, .t (.int .i64 r5.fR.fGen), .t (.int .i64 r5.fR.fSlot), .t (.int .i64 r5.fR.fLen), .own 2752517]), (13, [.own 3604480, .own 3604481, .t (.int .i64 r7.1.fR.fGen), .t (.int .i64 r7.1.fR.fSlot), .t (.int .i64 r7.1.fR.fLen), .own 3604485]), (15, [.own 4128768, .own 4128769, .t (.int .i64 r8.1.fR.fGen), .t (.int .i64 r8.1.fR.fSlot), .t (.int .i64 r8.1.fR.fLen), .own 4128773]), (19, [.own 4849664, .own 4849665, .t (.int .i64 r10.1.fR.fGen), .t (.int .i64 r10.1.fR.fSlot), .t (.int .i64 r10.1.fR.fLen), .own 4849669]), (21, [.own 5242880, .own 5242881, .t (.int .i64 r11.1.fR.fGen), .t (.int .i64 r11.1.fR.fSlot), .t (.int .i64 r11.1.fR.fLen), .own 5242885])], [(1966080, .live 5 1 (r2.fA.map (eInt .u8))), (1966081, .live 5 1 (r2.fB.map (eInt .u8))), (1966085, .live 48 6 (r2.fP.map Put.enc)), (2752512, .live 5 1 (r5.fA.map (eInt .u8))), (2752513, .live 5 1 (r5.fB.map (eInt .u8))), (2752517, .live 48 6 (r5.fP.map Put.enc)), (3604480, .live 5 1 (r7.1.fA.map (eInt .u8))), (3604481, .live 5 1 (r7.1.fB.map (eInt .u8))), (3604485, .live 48 6 (r7.1.fP.map Put.enc)), (4128768, .live 5 1 (r8.1.fA.map (eInt .u8))), (4128769, .live 5 1 (r8.1.fB.map (eInt .u8))), (4128773, .live 48 6 (r8.1.fP.map Put.enc)), (4849664, .live 5 1 (r10.1.fA.map (eInt .u8))), (4849665, .live 5 1 (r10.1.fB.map (eInt .u8))), (4849669, .live 48 6 (r10.1.fP.map Put.enc)), (5242880, .live 5 1 (r11.1.fA.map (eInt .u8))), (5242881, .live 5 1 (r11.1.fB.map (eInt .u8))), (5242885, .live 48 6 (r11.1.fP.map Put.enc)), (5571584, .live 5 1 (r12.2.map (eInt .u8)))]⟩ ?_
  refine Wp.seq ?_
  refine Wp.seqJ (α := Bool × Disk) (fun a => ⟨[(2, .t (.bool false)), (3, .obj 3 0), (152, .t (.bool a.1))], [(3, [.own 197120, .own 197121, .t (.int .i64 a.2.fR.fGen), .t (.int .i64 a.2.fR.fSlot), .t (.int .i64 a.2.fR.fLen), .own 197125])], [(197120, .live 5 1 (a.2.fA.map (eInt .u8))), (197121, .live 5 1 (a.2.fB.map (eInt .u8))), (197125, .live 48 6 (a.2.fP.map Put.enc))]⟩) (fun a => laws_FnDisks_j1 u a.1 a.2 = some r) ?_ ?_
  · rintro ⟨x29, r2⟩ h
    change laws_FnDisks_j1 u x29 r2 = some r at h
    unfold laws_FnDisks_j1 at h
    refine Wp.cond2 (b := x29) kr (fun hc => ?_) (fun hc => ?_)
    · have h := cond_t h hc
      refine Wp.srg [] [] ?_
      refine Runs.alln ?_
      refine Wp.fg ⟨[(2, .t (.bool false)), (3, .obj 3 0)], [(3, [.own 197120, .own 197121, .t (.int .i64 r2.fR.fGen), .t (.int .i64 r2.fR.fSlot), .t (.int .i64 r2.fR.fLen), .own 197125])], [(197120, .live 5 1 (r2.fA.map (eInt .u8))), (197121, .live 5 1 (r2.fB.map (eInt .u8))), (197125, .live 48 6 (r2.fP.map Put.enc))]⟩ ?_
      refine Wp.ret ?_
      refine thenR ?_
      obtain rfl := Option.some.inj h
      exact RetK [.t (.bool false)] _ [] kr kr (.refl _) .nil
    have h := cond_f h hc
    refine Wp.skip (thenN ?_)
    refine Wp.seq ?_
    refine Wp.le (Le.trans (Le.frzO 3 0 197120 5 1 [.own 197120, .own 197121, .t (.int .i64 r2.fR.fGen), .t (.int .i64 r2.fR.fSlot), .t (.int .i64 r2.fR.fLen), .own 197125] (r2.fA.map (eInt .u8)) kr kr kr) (Le.trans (Le.frzO 3 1 197121 5 1 [.t (.sl 1 (r2.fA.map (eInt .u8))), .own 197121, .t (.int .i64 r2.fR.fGen), .t (.int .i64 r2.fR.fSlot), .t (.int .i64 r2.fR.fLen), .own 197125] (r2.fB.map (eInt .u8)) kr kr kr) (Le.trans (Le.frzO 3 5 197125 48 6 [.t (.sl 1 (r2.fA.map (eInt .u8))), .t (.sl 1 (r2.fB.map (eInt .u8))), .t (.int .i64 r2.fR.fGen), .t (.int .i64 r2.fR.fSlot), .t (.int .i64 r2.fR.fLen), .own 197125] (r2.fP.map Put.enc) kr kr kr) (Le.of (s := ⟨[(2, .t (.bool false)), (3, .obj 3 0)], [(3, ((Disk.enc r2).map .t))], []⟩) (mo := []) (mr := []) kr kr kr kr)))) ?_
    refine Wp.regionA (pOf []) (rhoOf [(3, .obj 3), (25, .obj 25), (153, .frz), (154, .obj 3), (155, .frz), (156, .frz), (157, .frz), (158, .frz), (159, .own 159)]) kr kr ?_
    refine Runs.batch 3 kr ?_
    refine Runs.lenT (y := .t (.sl 6 (r2.fP.map Put.enc))) (e := 48) Put.enc r2.fP 6 rfl rfl rfl kr kr kr kr kr ?_
    obtain ⟨r30, e_r30, h⟩ := bind_some h
    refine Runs.callK false 157 41 [] [.t (.int .i64 ((r2.fP.length : Int))), .t (.int .i64 40)] _ _ _ rfl rfl kr kr kr kr kr (impl_Least_ok u ((r2.fP.length : Int)) 40 r30 e_r30) kr ?_
    obtain ⟨r31, e_r31, h⟩ := bind_some h
    refine Runs.callK false 158 40 [] [.t (.int .i64 r30)] _ _ _ rfl rfl kr kr kr kr kr (impl_FullSet_ok u r30 r31 e_r31) kr ?_
    obtain ⟨r32, e_r32, h⟩ := bind_some h
    refine Runs.callK false 159 30 [] [.agg ((Disk.enc r2).map .t), .t (.int .i64 r31)] _ _ _ rfl rfl kr kr kr kr kr (impl_Fall_ok u r2 r31 r32 e_r32) kr ?_
    refine Runs.alln ?_
    refine Wp.fg ⟨[(2, .t (.bool false)), (3, .obj 3 0), (25, .obj 25 0)], [(3, ((Disk.enc r2).map .t)), (25, [.own 10420224, .own 10420225, .t (.int .i64 r32.fR.fGen), .t (.int .i64 r32.fR.fSlot), .t (.int .i64 r32.fR.fLen), .own 10420229])], [(10420224, .live 5 1 (r32.fA.map (eInt .u8))), (10420225, .live 5 1 (r32.fB.map (eInt .u8))), (10420229, .live 48 6 (r32.fP.map Put.enc))]⟩ ?_
    refine Wp.srg [] [] ?_
    refine Runs.batch 1 kr ?_
    obtain ⟨r33, e_r33, h⟩ := bind_some h
    refine Runs.callK false 161 30 [] [.agg ((Disk.enc r2).map .t), .t (.int .i64 0)] _ _ _ rfl rfl kr kr kr kr kr (impl_Fall_ok u r2 0 r33 e_r33) kr ?_
    refine Runs.alln ?_
    refine Wp.fg ⟨[(2, .t (.bool false)), (3, .obj 3 0), (25, .obj 25 0), (26, .obj 26 0)], [(3, ((Disk.enc r2).map .t)), (25, [.own 10420224, .own 10420225, .t (.int .i64 r32.fR.fGen), .t (.int .i64 r32.fR.fSlot), .t (.int .i64 r32.fR.fLen), .own 10420229]), (26, [.own 10551296, .own 10551297, .t (.int .i64 r33.fR.fGen), .t (.int .i64 r33.fR.fSlot), .t (.int .i64 r33.fR.fLen), .own 10551301])], [(10420224, .live 5 1 (r32.fA.map (eInt .u8))), (10420225, .live 5 1 (r32.fB.map (eInt .u8))), (10420229, .live 48 6 (r32.fP.map Put.enc)), (10551296, .live 5 1 (r33.fA.map (eInt .u8))), (10551297, .live 5 1 (r33.fB.map (eInt .u8))), (10551301, .live 48 6 (r33.fP.map Put.enc))]⟩ ?_
    refine Wp.seq ?_
    refine Wp.le (Le.trans (Le.frzO 25 0 10420224 5 1 [.own 10420224, .own 10420225, .t (.int .i64 r32.fR.fGen), .t (.int .i64 r32.fR.fSlot), .t (.int .i64 r32.fR.fLen), .own 10420229] (r32.fA.map (eInt .u8)) kr kr kr) (Le.trans (Le.frzO 25 1 10420225 5 1 [.t (.sl 1 (r32.fA.map (eInt .u8))), .own 10420225, .t (.int .i64 r32.fR.fGen), .t (.int .i64 r32.fR.fSlot), .t (.int .i64 r32.fR.fLen), .own 10420229] (r32.fB.map (eInt .u8)) kr kr kr) (Le.trans (Le.frzO 25 5 10420229 48 6 [.t (.sl 1 (r32.fA.map (eInt .u8))), .t (.sl 1 (r32.fB.map (eInt .u8))), .t (.int .i64 r32.fR.fGen), .t (.int .i64 r32.fR.fSlot), .t (.int .i64 r32.fR.fLen), .own 10420229] (r32.fP.map Put.enc) kr kr kr) (Le.trans (Le.frzO 26 0 10551296 5 1 [.own 10551296, .own 10551297, .t (.int .i64 r33.fR.fGen), .t (.int .i64 r33.fR.fSlot), .t (.int .i64 r33.fR.fLen), .own 10551301] (r33.fA.map (eInt .u8)) kr kr kr) (Le.trans (Le.frzO 26 1 10551297 5 1 [.t (.sl 1 (r33.fA.map (eInt .u8))), .own 10551297, .t (.int .i64 r33.fR.fGen), .t (.int .i64 r33.fR.fSlot), .t (.int .i64 r33.fR.fLen), .own 10551301] (r33.fB.map (eInt .u8)) kr kr kr) (Le.trans (Le.frzO 26 5 10551301 48 6 [.t (.sl 1 (r33.fA.map (eInt .u8))), .t (.sl 1 (r33.fB.map (eInt .u8))), .t (.int .i64 r33.fR.fGen), .t (.int .i64 r33.fR.fSlot), .t (.int .i64 r33.fR.fLen), .own 10551301] (r33.fP.map Put.enc) kr kr kr) (Le.of (s := ⟨[(2, .t (.bool false)), (3, .obj 3 0), (25, .obj 25 0), (26, .obj 26 0)], [(3, ((Disk.enc r2).map .t)), (25, ((Disk.enc r32).map .t)), (26, ((Disk.enc r33).map .t))], []⟩) (mo := []) (mr := []) kr kr kr kr))))))) ?_
    refine Wp.regionA (pOf []) (rhoOf [(3, .obj 3), (25, .obj 25), (26, .obj 26), (162, .frz), (163, .frz), (164, .frz), (165, .obj 3), (166, .frz), (167, .frz), (168, .frz), (169, .frz), (170, .frz), (171, .frz), (172, .own 172), (175, .frz), (176, .frz), (177, .obj 26), (178, .frz), (179, .obj 3), (180, .frz), (182, .frz), (183, .frz), (184, .obj 26), (185, .frz), (186, .obj 3), (187, .frz), (189, .frz), (190, .frz), (191, .obj 26), (192, .frz), (193, .obj 3), (194, .frz), (196, .frz), (197, .frz), (198, .obj 26), (199, .frz), (200, .frz), (202, .frz), (203, .frz), (204, .frz), (205, .own 205), (206, .own 206), (207, .frz), (208, .own 208), (210, .frz)]) kr kr ?_
    refine Runs.batch 1 kr ?_
    obtain ⟨r34, e_r34, h⟩ := bind_some h
    refine Runs.callK false 163 38 [] [.agg ((Disk.enc r2).map .t)] _ _ _ rfl rfl kr kr kr kr kr (impl_DiskOk_ok u r2 r34 e_r34) kr ?_
    refine Runs.batch 1 kr ?_
    rcases tf (r34) with hc | hc
    · have h := cond_t h hc
      refine Runs.known 164 (v := true) kr hc ?_
      refine Runs.batch 2 kr ?_
      refine Runs.lenT (y := .t (.sl 6 (r2.fP.map Put.enc))) (e := 48) Put.enc r2.fP 6 rfl rfl rfl kr kr kr kr kr ?_
      refine Runs.batch 2 kr ?_
      rcases tf (decide (((r2.fP.length : Int)) > 40)) with hc | hc
      · have h := cond_t h hc
        refine Runs.known 169 (v := true) kr hc ?_
        refine Runs.batch 11 kr ?_
        obtain ⟨r35, e_r35, h⟩ := bind_some h
        refine Runs.callK false 181 42 [] [.t (.sl 1 (r33.fA.map (eInt .u8))), .t (.sl 1 (r2.fA.map (eInt .u8)))] _ _ _ rfl rfl kr kr kr kr kr (laws_same_ok u r33.fA r2.fA r35 e_r35) kr ?_
        refine Runs.batch 2 kr ?_
        rcases tf (r35) with hc | hc
        · have h := cond_t h hc
          refine Runs.known 183 (v := true) kr hc ?_
          refine Runs.batch 4 kr ?_
          obtain ⟨r36, e_r36, h⟩ := bind_some h
          refine Runs.callK false 188 42 [] [.t (.sl 1 (r33.fB.map (eInt .u8))), .t (.sl 1 (r2.fB.map (eInt .u8)))] _ _ _ rfl rfl kr kr kr kr kr (laws_same_ok u r33.fB r2.fB r36 e_r36) kr ?_
          refine Runs.batch 2 kr ?_
          rcases tf (r36) with hc | hc
          · have h := cond_t h hc
            refine Runs.known 190 (v := true) kr hc ?_
            refine Runs.batch 7 kr ?_
            rcases tf ([r33.fR.fGen, r33.fR.fSlot, r33.fR.fLen] == [r2.fR.fGen, r2.fR.fSlot, r2.fR.fLen]) with hc | hc
            · have h := cond_t h hc
              refine Runs.known 197 (v := true) kr hc ?_
              refine Runs.batch 2 kr ?_
              refine Runs.lenT (y := .t (.sl 6 (r33.fP.map Put.enc))) (e := 48) Put.enc r33.fP 6 rfl rfl rfl kr kr kr kr kr ?_
              refine Runs.batch 3 kr ?_
              rcases tf (((r33.fP.length : Int)) == 0) with hc | hc
              · have h := cond_t h hc
                refine Runs.known 203 (v := true) kr hc ?_
                refine Runs.batch 1 kr ?_
                obtain ⟨r37, e_r37, h⟩ := bind_some h
                refine Runs.callK false 205 34 [] [.agg ((Disk.enc r2).map .t)] _ _ _ rfl rfl kr kr kr kr kr (impl_Sure_ok u r2 r37 e_r37) kr ?_
                obtain ⟨r38, e_r38, h⟩ := bind_some h
                refine Runs.callK false 206 34 [] [.agg [.own 13434880, .own 13434881, .t (.int .i64 r37.fR.fGen), .t (.int .i64 r37.fR.fSlot), .t (.int .i64 r37.fR.fLen), .own 13434885]] _ _ _ rfl rfl kr kr kr kr kr (impl_Sure_ok u r37 r38 e_r38) kr ?_
                refine Runs.batch 1 kr ?_
                obtain ⟨r39, e_r39, h⟩ := bind_some h
                refine Runs.callK false 208 34 [] [.agg ((Disk.enc r2).map .t)] _ _ _ rfl rfl kr kr kr kr kr (impl_Sure_ok u r2 r39 e_r39) kr ?_
                obtain ⟨r40, e_r40, h⟩ := bind_some h
                refine Runs.callBK 209 29 [] [.agg [.own 13500416, .own 13500417, .t (.int .i64 r38.fR.fGen), .t (.int .i64 r38.fR.fSlot), .t (.int .i64 r38.fR.fLen), .own 13500421], .agg [.own 13631488, .own 13631489, .t (.int .i64 r39.fR.fGen), .t (.int .i64 r39.fR.fSlot), .t (.int .i64 r39.fR.fLen), .own 13631493]] [.agg ((Disk.enc r38).map .t), .agg ((Disk.enc r39).map .t)] (.one (.t (.bool r40))) rfl rfl kr kr kr kr kr (laws_sameDisk_ok u r38 r39 r40 e_r40) (by simp [V.plain, V.plains, C.plain, T.sc]) kr ?_
                refine Runs.alln ?_
                refine Wp.fg ⟨[(2, .t (.bool r40))], [], []⟩ ?_
                refine Wp.ret ?_
                obtain rfl := Option.some.inj h
                exact RetK [.t (.bool r40)] _ [] kr kr (.refl _) .nil
              have h := cond_f h hc
              refine Runs.known 203 (v := false) kr hc ?_
              refine Runs.alln ?_
              refine Wp.fg ⟨[(2, .t (.bool false))], [], []⟩ ?_
              refine Wp.ret ?_
              obtain rfl := Option.some.inj h
              exact RetK [.t (.bool false)] _ [] kr kr (.refl _) .nil
            have h := cond_f h hc
            refine Runs.known 197 (v := false) kr hc ?_
            refine Runs.alln ?_
            refine Wp.fg ⟨[(2, .t (.bool false))], [], []⟩ ?_
            refine Wp.ret ?_
            obtain rfl := Option.some.inj h
            exact RetK [.t (.bool false)] _ [] kr kr (.refl _) .nil
          have h := cond_f h hc
          refine Runs.known 190 (v := false) kr hc ?_
          refine Runs.alln ?_
          refine Wp.fg ⟨[(2, .t (.bool false))], [], []⟩ ?_
          refine Wp.ret ?_
          obtain rfl := Option.some.inj h
          exact RetK [.t (.bool false)] _ [] kr kr (.refl _) .nil
        have h := cond_f h hc
        refine Runs.known 183 (v := false) kr hc ?_
        refine Runs.alln ?_
        refine Wp.fg ⟨[(2, .t (.bool false))], [], []⟩ ?_
        refine Wp.ret ?_
        obtain rfl := Option.some.inj h
        exact RetK [.t (.bool false)] _ [] kr kr (.refl _) .nil
      have h := cond_f h hc
      refine Runs.known 169 (v := false) kr hc ?_
      refine Runs.batch 2 kr ?_
      obtain ⟨r41, e_r41, h⟩ := bind_some h
      refine Runs.callK false 172 34 [] [.agg ((Disk.enc r2).map .t)] _ _ _ rfl rfl kr kr kr kr kr (impl_Sure_ok u r2 r41 e_r41) kr ?_
      obtain ⟨r42, e_r42, h⟩ := bind_some h
      refine Runs.callBK 173 29 [] [.agg ((Disk.enc r32).map .t), .agg [.own 11272192, .own 11272193, .t (.int .i64 r41.fR.fGen), .t (.int .i64 r41.fR.fSlot), .t (.int .i64 r41.fR.fLen), .own 11272197]] [.agg ((Disk.enc r32).map .t), .agg ((Disk.enc r41).map .t)] (.one (.t (.bool r42))) rfl rfl kr kr kr kr kr (laws_sameDisk_ok u r32 r41 r42 e_r42) (by simp [V.plain, V.plains, C.plain, T.sc]) kr ?_
      refine Runs.batch 3 kr ?_
      rcases tf (r42) with hc | hc
      · have h := cond_t h hc
        refine Runs.known 176 (v := true) kr hc ?_
        refine Runs.batch 4 kr ?_
        obtain ⟨r43, e_r43, h⟩ := bind_some h
        refine Runs.callK false 181 42 [] [.t (.sl 1 (r33.fA.map (eInt .u8))), .t (.sl 1 (r2.fA.map (eInt .u8)))] _ _ _ rfl rfl kr kr kr kr kr (laws_same_ok u r33.fA r2.fA r43 e_r43) kr ?_
        refine Runs.batch 2 kr ?_
        rcases tf (r43) with hc | hc
        · have h := cond_t h hc
          refine Runs.known 183 (v := true) kr hc ?_
          refine Runs.batch 4 kr ?_
          obtain ⟨r44, e_r44, h⟩ := bind_some h
          refine Runs.callK false 188 42 [] [.t (.sl 1 (r33.fB.map (eInt .u8))), .t (.sl 1 (r2.fB.map (eInt .u8)))] _ _ _ rfl rfl kr kr kr kr kr (laws_same_ok u r33.fB r2.fB r44 e_r44) kr ?_
          refine Runs.batch 2 kr ?_
          rcases tf (r44) with hc | hc
          · have h := cond_t h hc
            refine Runs.known 190 (v := true) kr hc ?_
            refine Runs.batch 7 kr ?_
            rcases tf ([r33.fR.fGen, r33.fR.fSlot, r33.fR.fLen] == [r2.fR.fGen, r2.fR.fSlot, r2.fR.fLen]) with hc | hc
            · have h := cond_t h hc
              refine Runs.known 197 (v := true) kr hc ?_
              refine Runs.batch 2 kr ?_
              refine Runs.lenT (y := .t (.sl 6 (r33.fP.map Put.enc))) (e := 48) Put.enc r33.fP 6 rfl rfl rfl kr kr kr kr kr ?_
              refine Runs.batch 3 kr ?_
              rcases tf (((r33.fP.length : Int)) == 0) with hc | hc
              · have h := cond_t h hc
                refine Runs.known 203 (v := true) kr hc ?_
                refine Runs.batch 1 kr ?_
                obtain ⟨r45, e_r45, h⟩ := bind_some h
                refine Runs.callK false 205 34 [] [.agg ((Disk.enc r2).map .t)] _ _ _ rfl rfl kr kr kr kr kr (impl_Sure_ok u r2 r45 e_r45) kr ?_
                obtain ⟨r46, e_r46, h⟩ := bind_some h
                refine Runs.callK false 206 34 [] [.agg [.own 13434880, .own 13434881, .t (.int .i64 r45.fR.fGen), .t (.int .i64 r45.fR.fSlot), .t (.int .i64 r45.fR.fLen), .own 13434885]] _ _ _ rfl rfl kr kr kr kr kr (impl_Sure_ok u r45 r46 e_r46) kr ?_
                refine Runs.batch 1 kr ?_
                obtain ⟨r47, e_r47, h⟩ := bind_some h
                refine Runs.callK false 208 34 [] [.agg ((Disk.enc r2).map .t)] _ _ _ rfl rfl kr kr kr kr kr (impl_Sure_ok u r2 r47 e_r47) kr ?_
                obtain ⟨r48, e_r48, h⟩ := bind_some h
                refine Runs.callBK 209 29 [] [.agg [.own 13500416, .own 13500417, .t (.int .i64 r46.fR.fGen), .t (.int .i64 r46.fR.fSlot), .t (.int .i64 r46.fR.fLen), .own 13500421], .agg [.own 13631488, .own 13631489, .t (.int .i64 r47.fR.fGen), .t (.int .i64 r47.fR.fSlot), .t (.int .i64 r47.fR.fLen), .own 13631493]] [.agg ((Disk.enc r46).map .t), .agg ((Disk.enc r47).map .t)] (.one (.t (.bool r48))) rfl rfl kr kr kr kr kr (laws_sameDisk_ok u r46 r47 r48 e_r48) (by simp [V.plain, V.plains, C.plain, T.sc]) kr ?_
                refine Runs.alln ?_
                refine Wp.fg ⟨[(2, .t (.bool r48))], [], []⟩ ?_
                refine Wp.ret ?_
                obtain rfl := Option.some.inj h
                exact RetK [.t (.bool r48)] _ [] kr kr (.refl _) .nil
              have h := cond_f h hc
              refine Runs.known 203 (v := false) kr hc ?_
              refine Runs.alln ?_
              refine Wp.fg ⟨[(2, .t (.bool false))], [], []⟩ ?_
              refine Wp.ret ?_
              obtain rfl := Option.some.inj h
              exact RetK [.t (.bool false)] _ [] kr kr (.refl _) .nil
            have h := cond_f h hc
            refine Runs.known 197 (v := false) kr hc ?_
            refine Runs.alln ?_
            refine Wp.fg ⟨[(2, .t (.bool false))], [], []⟩ ?_
            refine Wp.ret ?_
            obtain rfl := Option.some.inj h
            exact RetK [.t (.bool false)] _ [] kr kr (.refl _) .nil
          have h := cond_f h hc
          refine Runs.known 190 (v := false) kr hc ?_
          refine Runs.alln ?_
          refine Wp.fg ⟨[(2, .t (.bool false))], [], []⟩ ?_
          refine Wp.ret ?_
          obtain rfl := Option.some.inj h
          exact RetK [.t (.bool false)] _ [] kr kr (.refl _) .nil
        have h := cond_f h hc
        refine Runs.known 183 (v := false) kr hc ?_
        refine Runs.alln ?_
        refine Wp.fg ⟨[(2, .t (.bool false))], [], []⟩ ?_
        refine Wp.ret ?_
        obtain rfl := Option.some.inj h
        exact RetK [.t (.bool false)] _ [] kr kr (.refl _) .nil
      have h := cond_f h hc
      refine Runs.known 176 (v := false) kr hc ?_
      refine Runs.alln ?_
      refine Wp.fg ⟨[(2, .t (.bool false))], [], []⟩ ?_
      refine Wp.ret ?_
      obtain rfl := Option.some.inj h
      exact RetK [.t (.bool false)] _ [] kr kr (.refl _) .nil
    have h := cond_f h hc
    refine Runs.known 164 (v := false) kr hc ?_
    refine Runs.alln ?_
    refine Wp.fg ⟨[(2, .t (.bool false))], [], []⟩ ?_
    refine Wp.ret ?_
    obtain rfl := Option.some.inj h
    exact RetK [.t (.bool false)] _ [] kr kr (.refl _) .nil
  · refine Wp.le (Le.trans (Le.frzO 8 0 2752512 5 1 [.own 2752512, .own 2752513, .t (.int .i64 r5.fR.fGen), .t (.int .i64 r5.fR.fSlot), .t (.int .i64 r5.fR.fLen), .own 2752517] (r5.fA.map (eInt .u8)) kr kr kr) (Le.trans (Le.frzO 8 1 2752513 5 1 [.t (.sl 1 (r5.fA.map (eInt .u8))), .own 2752513, .t (.int .i64 r5.fR.fGen), .t (.int .i64 r5.fR.fSlot), .t (.int .i64 r5.fR.fLen), .own 2752517] (r5.fB.map (eInt .u8)) kr kr kr) (Le.trans (Le.frzO 8 5 2752517 48 6 [.t (.sl 1 (r5.fA.map (eInt .u8))), .t (.sl 1 (r5.fB.map (eInt .u8))), .t (.int .i64 r5.fR.fGen), .t (.int .i64 r5.fR.fSlot), .t (.int .i64 r5.fR.fLen), .own 2752517] (r5.fP.map Put.enc) kr kr kr) (Le.trans (Le.frzO 13 0 3604480 5 1 [.own 3604480, .own 3604481, .t (.int .i64 r7.1.fR.fGen), .t (.int .i64 r7.1.fR.fSlot), .t (.int .i64 r7.1.fR.fLen), .own 3604485] (r7.1.fA.map (eInt .u8)) kr kr kr) (Le.trans (Le.frzO 13 1 3604481 5 1 [.t (.sl 1 (r7.1.fA.map (eInt .u8))), .own 3604481, .t (.int .i64 r7.1.fR.fGen), .t (.int .i64 r7.1.fR.fSlot), .t (.int .i64 r7.1.fR.fLen), .own 3604485] (r7.1.fB.map (eInt .u8)) kr kr kr) (Le.trans (Le.frzO 13 5 3604485 48 6 [.t (.sl 1 (r7.1.fA.map (eInt .u8))), .t (.sl 1 (r7.1.fB.map (eInt .u8))), .t (.int .i64 r7.1.fR.fGen), .t (.int .i64 r7.1.fR.fSlot), .t (.int .i64 r7.1.fR.fLen), .own 3604485] (r7.1.fP.map Put.enc) kr kr kr) (Le.trans (Le.frzO 15 0 4128768 5 1 [.own 4128768, .own 4128769, .t (.int .i64 r8.1.fR.fGen), .t (.int .i64 r8.1.fR.fSlot), .t (.int .i64 r8.1.fR.fLen), .own 4128773] (r8.1.fA.map (eInt .u8)) kr kr kr) (Le.trans (Le.frzO 15 1 4128769 5 1 [.t (.sl 1 (r8.1.fA.map (eInt .u8))), .own 4128769, .t (.int .i64 r8.1.fR.fGen), .t (.int .i64 r8.1.fR.fSlot), .t (.int .i64 r8.1.fR.fLen), .own 4128773] (r8.1.fB.map (eInt .u8)) kr kr kr) (Le.trans (Le.frzO 15 5 4128773 48 6 [.t (.sl 1 (r8.1.fA.map (eInt .u8))), .t (.sl 1 (r8.1.fB.map (eInt .u8))), .t (.int .i64 r8.1.fR.fGen), .t (.int .i64 r8.1.fR.fSlot), .t (.int .i64 r8.1.fR.fLen), .own 4128773] (r8.1.fP.map Put.enc) kr kr kr) (Le.trans (Le.frzO 19 0 4849664 5 1 [.own 4849664, .own 4849665, .t (.int .i64 r10.1.fR.fGen), .t (.int .i64 r10.1.fR.fSlot), .t (.int .i64 r10.1.fR.fLen), .own 4849669] (r10.1.fA.map (eInt .u8)) kr kr kr) (Le.trans (Le.frzO 19 1 4849665 5 1 [.t (.sl 1 (r10.1.fA.map (eInt .u8))), .own 4849665, .t (.int .i64 r10.1.fR.fGen), .t (.int .i64 r10.1.fR.fSlot), .t (.int .i64 r10.1.fR.fLen), .own 4849669] (r10.1.fB.map (eInt .u8)) kr kr kr) (Le.trans (Le.frzO 19 5 4849669 48 6 [.t (.sl 1 (r10.1.fA.map (eInt .u8))), .t (.sl 1 (r10.1.fB.map (eInt .u8))), .t (.int .i64 r10.1.fR.fGen), .t (.int .i64 r10.1.fR.fSlot), .t (.int .i64 r10.1.fR.fLen), .own 4849669] (r10.1.fP.map Put.enc) kr kr kr) (Le.trans (Le.frzO 21 0 5242880 5 1 [.own 5242880, .own 5242881, .t (.int .i64 r11.1.fR.fGen), .t (.int .i64 r11.1.fR.fSlot), .t (.int .i64 r11.1.fR.fLen), .own 5242885] (r11.1.fA.map (eInt .u8)) kr kr kr) (Le.trans (Le.frzO 21 1 5242881 5 1 [.t (.sl 1 (r11.1.fA.map (eInt .u8))), .own 5242881, .t (.int .i64 r11.1.fR.fGen), .t (.int .i64 r11.1.fR.fSlot), .t (.int .i64 r11.1.fR.fLen), .own 5242885] (r11.1.fB.map (eInt .u8)) kr kr kr) (Le.trans (Le.frzO 21 5 5242885 48 6 [.t (.sl 1 (r11.1.fA.map (eInt .u8))), .t (.sl 1 (r11.1.fB.map (eInt .u8))), .t (.int .i64 r11.1.fR.fGen), .t (.int .i64 r11.1.fR.fSlot), .t (.int .i64 r11.1.fR.fLen), .own 5242885] (r11.1.fP.map Put.enc) kr kr kr) (Le.of (s := ⟨[(2, .t (.bool false)), (3, .obj 3 0), (4, .obj 4 0), (5, .t (.int .i64 r3.2)), (6, .obj 6 0), (7, .obj 7 0), (8, .obj 8 0), (13, .obj 13 0), (14, .t (.bool r7.2)), (15, .obj 15 0), (16, .t (.bool r8.2)), (19, .obj 19 0), (20, .t (.bool r10.2)), (21, .obj 21 0), (22, .t (.bool r11.2)), (23, .t (.int .i64 r12.1)), (24, .own 5571584)], [(3, [.own 1966080, .own 1966081, .t (.int .i64 r2.fR.fGen), .t (.int .i64 r2.fR.fSlot), .t (.int .i64 r2.fR.fLen), .own 1966085]), (4, ((Disk.enc r3.1).map .t)), (6, ((Disk.enc r4.1).map .t)), (7, ((Put.enc r4.2).map .t)), (8, ((Disk.enc r5).map .t)), (13, ((Disk.enc r7.1).map .t)), (15, ((Disk.enc r8.1).map .t)), (19, ((Disk.enc r10.1).map .t)), (21, ((Disk.enc r11.1).map .t))], [(1966080, .live 5 1 (r2.fA.map (eInt .u8))), (1966081, .live 5 1 (r2.fB.map (eInt .u8))), (1966085, .live 48 6 (r2.fP.map Put.enc)), (5571584, .live 5 1 (r12.2.map (eInt .u8)))]⟩) (mo := []) (mr := []) kr kr kr kr)))))))))))))))) ?_
    refine Wp.regionA (pOf []) (rhoOf [(4, .obj 4), (5, .frz), (6, .obj 6), (7, .obj 7), (8, .obj 8), (13, .obj 13), (14, .frz), (15, .obj 15), (16, .frz), (19, .obj 19), (20, .frz), (21, .obj 21), (22, .frz), (23, .frz), (24, .own 85), (88, .frz), (89, .frz), (90, .own 90), (91, .frz), (92, .frz), (93, .own 93), (94, .frz), (95, .frz), (96, .frz), (97, .frz), (98, .frz), (99, .own 99), (100, .frz), (101, .frz), (102, .own 102), (103, .frz), (105, .frz), (106, .frz), (107, .frz), (108, .own 108), (109, .frz), (110, .own 110), (111, .frz), (113, .frz), (114, .frz), (115, .frz), (116, .frz), (117, .frz), (119, .frz), (120, .frz), (121, .frz), (122, .frz), (124, .frz), (125, .frz), (126, .frz), (127, .frz), (128, .frz), (130, .frz), (131, .frz), (132, .frz), (133, .frz), (135, .frz), (136, .frz), (137, .frz), (138, .own 85), (139, .own 139), (140, .frz), (141, .own 85), (142, .own 142), (143, .frz), (145, .frz), (146, .frz), (147, .frz), (148, .frz), (149, .frz), (150, .frz)]) kr kr ?_
    refine Runs.batch 2 kr ?_
    obtain ⟨r13, e_r13, h⟩ := bind_some h
    refine Runs.callK false 90 30 [] [.agg ((Disk.enc r3.1).map .t), .t (.int .i64 r3.2)] _ _ _ rfl rfl kr kr kr kr kr (impl_Fall_ok u r3.1 r3.2 r13 e_r13) kr ?_
    refine Runs.batch 2 kr ?_
    obtain ⟨r14, e_r14, h⟩ := bind_some h
    refine Runs.callK false 93 31 [] [.agg ((Disk.enc r3.1).map .t), .t (.int .i64 r3.2)] _ _ _ rfl rfl kr kr kr kr kr (spec_Fall_ok u r3.1 r3.2 r14 e_r14) kr ?_
    obtain ⟨r15, e_r15, h⟩ := bind_some h
    refine Runs.callBK 94 29 [] [.agg [.own 5898240, .own 5898241, .t (.int .i64 r13.fR.fGen), .t (.int .i64 r13.fR.fSlot), .t (.int .i64 r13.fR.fLen), .own 5898245], .agg [.own 6094848, .own 6094849, .t (.int .i64 r14.fR.fGen), .t (.int .i64 r14.fR.fSlot), .t (.int .i64 r14.fR.fLen), .own 6094853]] [.agg ((Disk.enc r13).map .t), .agg ((Disk.enc r14).map .t)] (.one (.t (.bool r15))) rfl rfl kr kr kr kr kr (laws_sameDisk_ok u r13 r14 r15 e_r15) (by simp [V.plain, V.plains, C.plain, T.sc]) kr ?_
    refine Runs.batch 2 kr ?_
    rcases tf (!r15) with hc | hc
    · have h := cond_t h hc
      refine Runs.known 96 (v := true) kr hc ?_
      refine Runs.alln ?_
      exact ⟨(true, r2), h, Le.of (mo := []) (mr := [(197120, 1966080), (197121, 1966081), (197125, 1966085)]) kr kr kr kr⟩
    have h := cond_f h hc
    refine Runs.known 96 (v := false) kr hc ?_
    refine Runs.batch 2 kr ?_
    obtain ⟨r16, e_r16, h⟩ := bind_some h
    refine Runs.callK false 99 32 [] [.agg ((Disk.enc r4.1).map .t), .agg ((Put.enc r4.2).map .t)] _ _ _ rfl rfl kr kr kr kr kr (impl_OnePut_ok u r4.1 r4.2 r16 e_r16) kr ?_
    refine Runs.batch 2 kr ?_
    obtain ⟨r17, e_r17, h⟩ := bind_some h
    refine Runs.callK false 102 33 [] [.agg ((Disk.enc r4.1).map .t), .agg ((Put.enc r4.2).map .t)] _ _ _ rfl rfl kr kr kr kr kr (spec_OnePut_ok u r4.1 r4.2 r17 e_r17) kr ?_
    obtain ⟨r18, e_r18, h⟩ := bind_some h
    refine Runs.callBK 103 29 [] [.agg [.own 6488064, .own 6488065, .t (.int .i64 r16.fR.fGen), .t (.int .i64 r16.fR.fSlot), .t (.int .i64 r16.fR.fLen), .own 6488069], .agg [.own 6684672, .own 6684673, .t (.int .i64 r17.fR.fGen), .t (.int .i64 r17.fR.fSlot), .t (.int .i64 r17.fR.fLen), .own 6684677]] [.agg ((Disk.enc r16).map .t), .agg ((Disk.enc r17).map .t)] (.one (.t (.bool r18))) rfl rfl kr kr kr kr kr (laws_sameDisk_ok u r16 r17 r18 e_r18) (by simp [V.plain, V.plains, C.plain, T.sc]) kr ?_
    refine Runs.batch 3 kr ?_
    rcases tf (!r18) with hc | hc
    · have h := cond_t h hc
      refine Runs.known 106 (v := true) kr hc ?_
      refine Runs.alln ?_
      exact ⟨(true, r2), h, Le.of (mo := []) (mr := [(197120, 1966080), (197121, 1966081), (197125, 1966085)]) kr kr kr kr⟩
    have h := cond_f h hc
    refine Runs.known 106 (v := false) kr hc ?_
    refine Runs.batch 1 kr ?_
    obtain ⟨r19, e_r19, h⟩ := bind_some h
    refine Runs.callK false 108 34 [] [.agg ((Disk.enc r5).map .t)] _ _ _ rfl rfl kr kr kr kr kr (impl_Sure_ok u r5 r19 e_r19) kr ?_
    refine Runs.batch 1 kr ?_
    obtain ⟨r20, e_r20, h⟩ := bind_some h
    refine Runs.callK false 110 35 [] [.agg ((Disk.enc r5).map .t)] _ _ _ rfl rfl kr kr kr kr kr (spec_Sure_ok u r5 r20 e_r20) kr ?_
    obtain ⟨r21, e_r21, h⟩ := bind_some h
    refine Runs.callBK 111 29 [] [.agg [.own 7077888, .own 7077889, .t (.int .i64 r19.fR.fGen), .t (.int .i64 r19.fR.fSlot), .t (.int .i64 r19.fR.fLen), .own 7077893], .agg [.own 7208960, .own 7208961, .t (.int .i64 r20.fR.fGen), .t (.int .i64 r20.fR.fSlot), .t (.int .i64 r20.fR.fLen), .own 7208965]] [.agg ((Disk.enc r19).map .t), .agg ((Disk.enc r20).map .t)] (.one (.t (.bool r21))) rfl rfl kr kr kr kr kr (laws_sameDisk_ok u r19 r20 r21 e_r21) (by simp [V.plain, V.plains, C.plain, T.sc]) kr ?_
    refine Runs.batch 3 kr ?_
    rcases tf (!r21) with hc | hc
    · have h := cond_t h hc
      refine Runs.known 114 (v := true) kr hc ?_
      refine Runs.alln ?_
      exact ⟨(true, r2), h, Le.of (mo := []) (mr := [(197120, 1966080), (197121, 1966081), (197125, 1966085)]) kr kr kr kr⟩
    have h := cond_f h hc
    refine Runs.known 114 (v := false) kr hc ?_
    refine Runs.batch 2 kr ?_
    obtain ⟨r22, e_r22, h⟩ := bind_some h
    refine Runs.callK false 117 29 [] [.agg ((Disk.enc r7.1).map .t), .agg ((Disk.enc r8.1).map .t)] _ _ _ rfl rfl kr kr kr kr kr (laws_sameDisk_ok u r7.1 r8.1 r22 e_r22) kr ?_
    refine Runs.batch 3 kr ?_
    rcases tf (!r22) with hc | hc
    · have h := cond_t h hc
      refine Runs.known 120 (v := true) kr hc ?_
      refine Runs.alln ?_
      exact ⟨(true, r2), h, Le.of (mo := []) (mr := [(197120, 1966080), (197121, 1966081), (197125, 1966085)]) kr kr kr kr⟩
    have h := cond_f h hc
    refine Runs.known 120 (v := false) kr hc ?_
    refine Runs.batch 5 kr ?_
    rcases tf (!(r7.2 == r8.2)) with hc | hc
    · have h := cond_t h hc
      refine Runs.known 125 (v := true) kr hc ?_
      refine Runs.alln ?_
      exact ⟨(true, r2), h, Le.of (mo := []) (mr := [(197120, 1966080), (197121, 1966081), (197125, 1966085)]) kr kr kr kr⟩
    have h := cond_f h hc
    refine Runs.known 125 (v := false) kr hc ?_
    refine Runs.batch 2 kr ?_
    obtain ⟨r23, e_r23, h⟩ := bind_some h
    refine Runs.callK false 128 29 [] [.agg ((Disk.enc r10.1).map .t), .agg ((Disk.enc r11.1).map .t)] _ _ _ rfl rfl kr kr kr kr kr (laws_sameDisk_ok u r10.1 r11.1 r23 e_r23) kr ?_
    refine Runs.batch 3 kr ?_
    rcases tf (!r23) with hc | hc
    · have h := cond_t h hc
      refine Runs.known 131 (v := true) kr hc ?_
      refine Runs.alln ?_
      exact ⟨(true, r2), h, Le.of (mo := []) (mr := [(197120, 1966080), (197121, 1966081), (197125, 1966085)]) kr kr kr kr⟩
    have h := cond_f h hc
    refine Runs.known 131 (v := false) kr hc ?_
    refine Runs.batch 5 kr ?_
    rcases tf (!(r10.2 == r11.2)) with hc | hc
    · have h := cond_t h hc
      refine Runs.known 136 (v := true) kr hc ?_
      refine Runs.alln ?_
      exact ⟨(true, r2), h, Le.of (mo := []) (mr := [(197120, 1966080), (197121, 1966081), (197125, 1966085)]) kr kr kr kr⟩
    have h := cond_f h hc
    refine Runs.known 136 (v := false) kr hc ?_
    refine Runs.batch 2 kr ?_
    obtain ⟨r24, e_r24, h⟩ := bind_some h
    refine Runs.callK false 139 36 [] [.t (.int .i64 r12.1), .own 5571584] _ _ _ rfl rfl kr kr kr kr kr (impl_DiskNew_ok u r12.1 r12.2 r24 e_r24) kr ?_
    refine Runs.batch 2 kr ?_
    obtain ⟨r25, e_r25, h⟩ := bind_some h
    refine Runs.callK false 142 37 [] [.t (.int .i64 r12.1), .own 5571584] _ _ _ rfl rfl kr kr kr kr kr (spec_DiskNew_ok u r12.1 r12.2 r25 e_r25) kr ?_
    obtain ⟨r26, e_r26, h⟩ := bind_some h
    refine Runs.callBK 143 29 [] [.agg [.own 9109504, .own 9109505, .t (.int .i64 r24.fR.fGen), .t (.int .i64 r24.fR.fSlot), .t (.int .i64 r24.fR.fLen), .own 9109509], .agg [.own 9306112, .own 9306113, .t (.int .i64 r25.fR.fGen), .t (.int .i64 r25.fR.fSlot), .t (.int .i64 r25.fR.fLen), .own 9306117]] [.agg ((Disk.enc r24).map .t), .agg ((Disk.enc r25).map .t)] (.one (.t (.bool r26))) rfl rfl kr kr kr kr kr (laws_sameDisk_ok u r24 r25 r26 e_r26) (by simp [V.plain, V.plains, C.plain, T.sc]) kr ?_
    refine Runs.batch 3 kr ?_
    rcases tf (!r26) with hc | hc
    · have h := cond_t h hc
      refine Runs.known 146 (v := true) kr hc ?_
      refine Runs.alln ?_
      exact ⟨(true, r2), h, Le.of (mo := []) (mr := [(197120, 1966080), (197121, 1966081), (197125, 1966085)]) kr kr kr kr⟩
    have h := cond_f h hc
    refine Runs.known 146 (v := false) kr hc ?_
    refine Runs.batch 1 kr ?_
    obtain ⟨r27, e_r27, h⟩ := bind_some h
    refine Runs.callK false 148 38 [] [.agg ((Disk.enc r3.1).map .t)] _ _ _ rfl rfl kr kr kr kr kr (impl_DiskOk_ok u r3.1 r27 e_r27) kr ?_
    refine Runs.batch 1 kr ?_
    obtain ⟨r28, e_r28, h⟩ := bind_some h
    refine Runs.callK false 150 39 [] [.agg ((Disk.enc r3.1).map .t)] _ _ _ rfl rfl kr kr kr kr kr (spec_DiskOk_ok u r3.1 r28 e_r28) kr ?_
    refine Runs.alln ?_
    exact ⟨(!(r27 == r28), r2), h, Le.of (mo := []) (mr := [(197120, 1966080), (197121, 1966081), (197125, 1966085)]) kr kr kr kr⟩
end Go.Tm
