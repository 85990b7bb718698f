/- The functions as they are translated do what the pure functions say (printed). -/
import Derived.Test.YtohcknmdebahiaaGreatDoorCNetTextK1
import Derived.Test.YtohcknmdebahiaaGreatDoorTm45
import Derived.Shelf.Strings.OnBuilder
import Derived.Test.YtohcknmdebahiaaGreatDoorProg
set_option maxRecDepth 100000
set_option maxHeartbeats 20000000
set_option linter.unusedVariables false
set_option linter.unusedSimpArgs false
namespace Go.Tm
open Go.Proofs
theorem spec_l12Body_ok (u : Nat) (p0 : List Int) (p1 : Int) (p2 : Int) (r : Msg × Int × Bool) (h : spec_l12Body u p0 p1 p2 = some r) : CallOK Tryz.prog 130 [.one (.s p0), .one (.i p1), .one (.i p2)] (.tup [.agg [.i r.1.fKind, .i r.1.fGen, .i r.1.fMan.fGen, .i r.1.fMan.fSize, .i r.1.fMan.fLen, .ow 189 2 (r.1.fMan.fSums.map Sum.enc), .i r.1.fWant, .i r.1.fDone, .i r.1.fI, .ow 5 1 (r.1.fB.map (eInt .u8))], .one (.i r.2.1), .one (.b r.2.2)]) [] := by
 unfold spec_l12Body at h
 refine CallOK.of_bodyK (fn := Tryz.f130) (m := true) [.s p0, .i p1, .i p2] kr rfl kr kr kr kr kr ?_
 refine Wp.sag ⟨[(0, .s p0), (1, .i p1), (2, .i p2), (6, .obj 6 0), (7, .i 0), (8, .b false)], [(6, [.i 0, .i 0, .i 0, .i 0, .i 0, .nil, .i 0, .i 0, .i 0, .nil])], []⟩ ?_
 refine Wp.sag ⟨[(0, .s p0), (1, .i p1), (2, .i p2), (6, .obj 6 0), (7, .i 0), (8, .b false), (9, .obj 9 0)], [(6, [.i 0, .i 0, .i 0, .i 0, .i 0, .nil, .i 0, .i 0, .i 0, .nil]), (9, [.i p2, .i 0, .i 0, .i 0, .i 0, .nil, .i 0, .i 0, .i 0, .nil])], []⟩ ?_
 refine Wp.seq ?_
 refine Wp.sag ⟨[(0, .s p0), (1, .i p1), (2, .i p2), (6, .obj 6 0), (7, .i 0), (8, .b false), (9, .obj 9 0), (30, .b (p2 == 1))], [(6, [.i 0, .i 0, .i 0, .i 0, .i 0, .nil, .i 0, .i 0, .i 0, .nil]), (9, [.i p2, .i 0, .i 0, .i 0, .i 0, .nil, .i 0, .i 0, .i 0, .nil])], []⟩ ?_
 refine Wp.c2 h (fun h => ?_) (fun h => ?_)
 ·refine Wp.sb 2 ?_
  obtain ⟨r1, e_r1, h⟩ := bind_some h
  refine Runs.ck 34 [.s p0, .i p1] (spec_GetMan_ok u p0 p1 r1 e_r1) ?_
  refine Runs.allf ⟨[(0, .s p0), (1, .i p1), (2, .i p2), (6, .obj 6 0), (7, .i 0), (8, .b false), (9, .obj 9 0), (10, .obj 10 0), (11, .i r1.2.1), (12, .b r1.2.2)], [(6, [.i 0, .i 0, .i 0, .i 0, .i 0, .nil, .i 0, .i 0, .i 0, .nil]), (9, [.i p2, .i 0, .i 0, .i 0, .i 0, .nil, .i 0, .i 0, .i 0, .nil]), (10, [.i r1.1.fGen, .i r1.1.fSize, .i r1.1.fLen, .own 2228227])], [(2228227, .live 189 2 (r1.1.fSums.map Sum.enc))]⟩ ?_
  refine Wp.sag ⟨[(0, .s p0), (1, .i p1), (2, .i p2), (6, .obj 6 0), (7, .i 0), (8, .b false), (9, .obj 9 0), (11, .i r1.2.1), (12, .b r1.2.2)], [(6, [.i 0, .i 0, .i 0, .i 0, .i 0, .nil, .i 0, .i 0, .i 0, .nil]), (9, [.i p2, .i 0, .i r1.1.fGen, .i r1.1.fSize, .i r1.1.fLen, .own 2228227, .i 0, .i 0, .i 0, .nil])], [(2228227, .live 189 2 (r1.1.fSums.map Sum.enc))]⟩ ?_
  refine Wp.sag ⟨[(0, .s p0), (1, .i p1), (2, .i p2), (6, .obj 6 0), (7, .i r1.2.1), (8, .b r1.2.2), (9, .obj 9 0)], [(6, [.i p2, .i 0, .i r1.1.fGen, .i r1.1.fSize, .i r1.1.fLen, .own 2228227, .i 0, .i 0, .i 0, .nil]), (9, [.i p2, .i 0, .i r1.1.fGen, .i r1.1.fSize, .i r1.1.fLen, .own 2228227, .i 0, .i 0, .i 0, .nil])], [(2228227, .live 189 2 (r1.1.fSums.map Sum.enc))]⟩ ?_
  refine Wp.ret ?_
  refine thenR ?_
  obtain rfl := oi h
  exact RetK [.agg [.i p2, .i 0, .i r1.1.fGen, .i r1.1.fSize, .i r1.1.fLen, .own 2228227, .i 0, .i 0, .i 0, .nil], .i r1.2.1, .b r1.2.2] (.tup [.agg [.i p2, .i 0, .i r1.1.fGen, .i r1.1.fSize, .i r1.1.fLen, .ow 189 2 (r1.1.fSums.map Sum.enc), .i 0, .i 0, .i 0, .nil], .one (.i r1.2.1), .one (.b r1.2.2)]) [] kr kr (.tup (.cons (.agg (.cons (.refl _) (.cons (.refl _) (.cons (.refl _) (.cons (.refl _) (.cons (.refl _) (.cons (.refl _) (.cons (.refl _) (.cons (.refl _) (.cons (.refl _) (.cons (.nilO _ _) .nil))))))))))) (.cons (.refl _) (.cons (.refl _) .nil)))) .nil
 refine Wp.sk ?_
 refine Wp.sb 2 ?_
 obtain ⟨r2, e_r2, h⟩ := bind_some h
 refine Runs.ck 46 [.s p0, .i p1] (spec_GetVar_ok u p0 p1 r2 e_r2) ?_
 refine Runs.allf ⟨[(0, .s p0), (2, .i p2), (6, .obj 6 0), (7, .i 0), (8, .b false), (9, .obj 9 0), (13, .i r2.1), (14, .i r2.2.1), (15, .b r2.2.2)], [(6, [.i 0, .i 0, .i 0, .i 0, .i 0, .nil, .i 0, .i 0, .i 0, .nil]), (9, [.i p2, .i 0, .i 0, .i 0, .i 0, .nil, .i 0, .i 0, .i 0, .nil])], []⟩ ?_
 refine Wp.sag ⟨[(0, .s p0), (2, .i p2), (6, .obj 6 0), (7, .i 0), (8, .b false), (9, .obj 9 0), (14, .i r2.2.1), (15, .b r2.2.2)], [(6, [.i 0, .i 0, .i 0, .i 0, .i 0, .nil, .i 0, .i 0, .i 0, .nil]), (9, [.i p2, .i r2.1, .i 0, .i 0, .i 0, .nil, .i 0, .i 0, .i 0, .nil])], []⟩ ?_
 refine Wp.seqJ (α := Int × Int × (Int × Int × Bool) × Int × Int) (fun a => ⟨[(6, .obj 6 0), (7, .i 0), (8, .b false), (9, .obj 9 0), (14, .i a.1)], [(6, [.i 0, .i 0, .i 0, .i 0, .i 0, .nil, .i 0, .i 0, .i 0, .nil]), (9, [.i a.2.1, .i a.2.2.1.1, .i 0, .i 0, .i 0, .nil, .i a.2.2.2.1, .i a.2.2.2.2, .i 0, .nil])], []⟩) (fun a => spec_l12Body_j1 u a.1 a.2.1 a.2.2.1 a.2.2.2.1 a.2.2.2.2 = some r) ?_ ?_
 ·rintro ⟨x20, p2, r2, x21, x22⟩ h
  change spec_l12Body_j1 u x20 p2 r2 x21 x22 = some r at h
  unfold spec_l12Body_j1 at h
  refine Wp.sag ⟨[(6, .obj 6 0), (7, .i x20), (8, .b true)], [(6, [.i p2, .i r2.1, .i 0, .i 0, .i 0, .nil, .i x21, .i x22, .i 0, .nil])], []⟩ ?_
  refine Wp.ret ?_
  obtain rfl := oi h
  exact RetK [.agg [.i p2, .i r2.1, .i 0, .i 0, .i 0, .nil, .i x21, .i x22, .i 0, .nil], .i x20, .b true] (.tup [.agg [.i p2, .i r2.1, .i 0, .i 0, .i 0, .nil, .i x21, .i x22, .i 0, .nil], .one (.i x20), .one (.b true)]) [] kr kr (.tup (.cons (.agg (.cons (.refl _) (.cons (.refl _) (.cons (.refl _) (.cons (.refl _) (.cons (.refl _) (.cons (.nilO _ _) (.cons (.refl _) (.cons (.refl _) (.cons (.refl _) (.cons (.nilO _ _) .nil))))))))))) (.cons (.refl _) (.cons (.refl _) .nil)))) .nil
 ·refine Wp.block ?_
  refine Wp.sag ⟨[(0, .s p0), (2, .i p2), (6, .obj 6 0), (7, .i 0), (8, .b false), (9, .obj 9 0), (14, .i r2.2.1), (52, .b (!r2.2.2))], [(6, [.i 0, .i 0, .i 0, .i 0, .i 0, .nil, .i 0, .i 0, .i 0, .nil]), (9, [.i p2, .i r2.1, .i 0, .i 0, .i 0, .nil, .i 0, .i 0, .i 0, .nil])], []⟩ ?_
  refine Wp.c2 h (fun h => ?_) (fun h => ?_)
  ·refine Wp.sag ⟨[(6, .obj 6 0), (7, .i 0), (8, .b false), (9, .obj 9 0), (14, .i r2.2.1)], [(6, [.i p2, .i r2.1, .i 0, .i 0, .i 0, .nil, .i 0, .i 0, .i 0, .nil]), (9, [.i p2, .i r2.1, .i 0, .i 0, .i 0, .nil, .i 0, .i 0, .i 0, .nil])], []⟩ ?_
   refine Wp.ret ?_
   refine blkR ?_
   refine thenR ?_
   obtain rfl := oi h
   exact RetK [.agg [.i p2, .i r2.1, .i 0, .i 0, .i 0, .nil, .i 0, .i 0, .i 0, .nil], .i 0, .b false] (.tup [.agg [.i p2, .i r2.1, .i 0, .i 0, .i 0, .nil, .i 0, .i 0, .i 0, .nil], .one (.i 0), .one (.b false)]) [] kr kr (.tup (.cons (.agg (.cons (.refl _) (.cons (.refl _) (.cons (.refl _) (.cons (.refl _) (.cons (.refl _) (.cons (.nilO _ _) (.cons (.refl _) (.cons (.refl _) (.cons (.refl _) (.cons (.nilO _ _) .nil))))))))))) (.cons (.refl _) (.cons (.refl _) .nil)))) .nil
  refine Wp.sag ⟨[(0, .s p0), (2, .i p2), (6, .obj 6 0), (7, .i 0), (8, .b false), (9, .obj 9 0), (14, .i r2.2.1), (56, .b (p2 == 2))], [(6, [.i 0, .i 0, .i 0, .i 0, .i 0, .nil, .i 0, .i 0, .i 0, .nil]), (9, [.i p2, .i r2.1, .i 0, .i 0, .i 0, .nil, .i 0, .i 0, .i 0, .nil])], []⟩ ?_
  refine Wp.c2 h (fun h => ?_) (fun h => ?_)
  ·refine Wp.sag ⟨[(0, .s p0), (6, .obj 6 0), (7, .i 0), (8, .b false), (9, .obj 9 0), (14, .i r2.2.1), (16, .own 3866624)], [(6, [.i 0, .i 0, .i 0, .i 0, .i 0, .nil, .i 0, .i 0, .i 0, .nil]), (9, [.i p2, .i r2.1, .i 0, .i 0, .i 0, .nil, .i 0, .i 0, .i 0, .nil])], [(3866624, .live 3 1 ((([] : List Int)).map (eInt .i64)))]⟩ ?_
   refine Wp.seqJ (α := Int × (List Int) × Int × (Int × Int × Bool)) (fun a => ⟨[(6, .obj 6 0), (7, .i 0), (8, .b false), (9, .obj 9 0), (14, .i a.1), (16, .own 1048577)], [(6, [.i 0, .i 0, .i 0, .i 0, .i 0, .nil, .i 0, .i 0, .i 0, .nil]), (9, [.i a.2.2.1, .i a.2.2.2.1, .i 0, .i 0, .i 0, .nil, .i 0, .i 0, .i 0, .nil])], [(1048577, .live 3 1 (a.2.1.map (eInt .i64)))]⟩) (fun a => spec_l12Body_j2 u a.1 a.2.1 a.2.2.1 a.2.2.2 = some r) ?_ ?_
   ·rintro ⟨x14, x15, p2, r2⟩ h
    change spec_l12Body_j2 u x14 x15 p2 r2 = some r at h
    unfold spec_l12Body_j2 at h
    refine Wp.seq ?_
    refine Wp.regionA (pOf []) (rhoOf [(9, .obj 9), (16, .own 16), (83, .own 16), (84, .el 16), (85, .frz), (86, .own 16), (87, .el 16), (88, .frz), (89, .frz), (90, .frz), (91, .obj 9)]) kr kr ?_
    refine Runs.batch 1 kr ?_
    obtain ⟨y16, e_y16, h⟩ := bind_some h
    refine Runs.idxO (e := 3) (e' := 3) (kk := .i64) (sz := 1) (eInt .i64) x15 0 1048577 rfl kr kr kr kr kr kr kr e_y16 ?_
    refine Runs.loadE (e' := 3) (sz := 1) (m := 1) (gg := false) (eInt .i64) x15 1048577 (Int.toNat 0) 0 (.i y16) rfl kr kr kr kr kr kr (idx_some e_y16).2 kr ?_
    refine Runs.batch 1 kr ?_
    obtain ⟨y17, e_y17, h⟩ := bind_some h
    refine Runs.idxO (e := 3) (e' := 3) (kk := .i64) (sz := 1) (eInt .i64) x15 1 1048577 rfl kr kr kr kr kr kr kr e_y17 ?_
    refine Runs.loadE (e' := 3) (sz := 1) (m := 1) (gg := false) (eInt .i64) x15 1048577 (Int.toNat 1) 0 (.i y17) rfl kr kr kr kr kr kr (idx_some e_y17).2 kr ?_
    refine Runs.allf ⟨[(6, .obj 6 0), (7, .i 0), (8, .b false), (9, .obj 9 0), (14, .i x14), (16, .own 1048577)], [(6, [.i 0, .i 0, .i 0, .i 0, .i 0, .nil, .i 0, .i 0, .i 0, .nil]), (9, [.i p2, .i r2.1, .i 0, .i 0, .i 0, .nil, .i (bAdd .i64 y16 (bShl .i64 y17 20)), .i 0, .i 0, .nil])], [(1048577, .live 3 1 (x15.map (eInt .i64)))]⟩ ?_
    refine Wp.regionA (pOf []) (rhoOf [(9, .obj 9), (16, .own 16), (92, .own 16), (93, .el 16), (94, .frz), (95, .own 16), (96, .el 16), (97, .frz), (98, .frz), (99, .frz), (100, .obj 9)]) kr kr ?_
    refine Runs.batch 1 kr ?_
    obtain ⟨y18, e_y18, h⟩ := bind_some h
    refine Runs.idxO (e := 3) (e' := 3) (kk := .i64) (sz := 1) (eInt .i64) x15 2 1048577 rfl kr kr kr kr kr kr kr e_y18 ?_
    refine Runs.loadE (e' := 3) (sz := 1) (m := 1) (gg := false) (eInt .i64) x15 1048577 (Int.toNat 2) 0 (.i y18) rfl kr kr kr kr kr kr (idx_some e_y18).2 kr ?_
    refine Runs.batch 1 kr ?_
    obtain ⟨y19, e_y19, h⟩ := bind_some h
    refine Runs.idxO (e := 3) (e' := 3) (kk := .i64) (sz := 1) (eInt .i64) x15 3 1048577 rfl kr kr kr kr kr kr kr e_y19 ?_
    refine Runs.loadE (e' := 3) (sz := 1) (m := 1) (gg := false) (eInt .i64) x15 1048577 (Int.toNat 3) 0 (.i y19) rfl kr kr kr kr kr kr (idx_some e_y19).2 kr ?_
    refine Runs.all kr ?_
    refine blkN ?_
    refine thenN ?_
    exact ⟨(x14, p2, r2, bAdd .i64 y16 (bShl .i64 y17 20), bAdd .i64 y18 (bShl .i64 y19 20)), h, Le.of (mo := []) (mr := []) kr kr kr kr⟩
   ·refine Wp.sag ⟨[(0, .s p0), (6, .obj 6 0), (7, .i 0), (8, .b false), (9, .obj 9 0), (14, .i r2.2.1), (16, .own 3866624), (17, .i 0)], [(6, [.i 0, .i 0, .i 0, .i 0, .i 0, .nil, .i 0, .i 0, .i 0, .nil]), (9, [.i p2, .i r2.1, .i 0, .i 0, .i 0, .nil, .i 0, .i 0, .i 0, .nil])], [(3866624, .live 3 1 ((([] : List Int)).map (eInt .i64)))]⟩ ?_
    refine Wp.block ?_
    refine Wp.loopF (α := (List Int) × Int × (List Int) × Int × Int × (Int × Int × Bool)) (fun a => ⟨[(0, .s a.1), (6, .obj 6 0), (7, .i 0), (8, .b false), (9, .obj 9 0), (14, .i a.2.1), (16, .own 1048577), (17, .i a.2.2.2.1)], [(6, [.i 0, .i 0, .i 0, .i 0, .i 0, .nil, .i 0, .i 0, .i 0, .nil]), (9, [.i a.2.2.2.2.1, .i a.2.2.2.2.2.1, .i 0, .i 0, .i 0, .nil, .i 0, .i 0, .i 0, .nil])], [(1048577, .live 3 1 (a.2.2.1.map (eInt .i64)))]⟩) (fun k_spec_l12Body_l3 a => spec_l12Body_l3 u k_spec_l12Body_l3 a.1 a.2.1 a.2.2.1 a.2.2.2.1 a.2.2.2.2.1 a.2.2.2.2.2 = some r) ?_ ?_ u (p0, r2.2.1, ([] : List Int), 0, p2, r2) h (Le.of (mo := []) (mr := [(1048577, 3866624)]) kr kr kr kr)
    ·intro a h; unfold spec_l12Body_l3 at h; cases h
    ·rintro k_spec_l12Body_l3 ⟨p0, x6, x7, x8, p2, r2⟩ h
     change spec_l12Body_l3 u (k_spec_l12Body_l3 + 1) p0 x6 x7 x8 p2 r2 = some r at h
     rw [spec_l12Body_l3] at h
     refine Wp.seq ?_
     refine Wp.sag ⟨[(0, .s p0), (6, .obj 6 0), (7, .i 0), (8, .b false), (9, .obj 9 0), (14, .i x6), (16, .own 1048577), (17, .i x8), (61, .b (decide (x8 < 4)))], [(6, [.i 0, .i 0, .i 0, .i 0, .i 0, .nil, .i 0, .i 0, .i 0, .nil]), (9, [.i p2, .i r2.1, .i 0, .i 0, .i 0, .nil, .i 0, .i 0, .i 0, .nil])], [(1048577, .live 3 1 (x7.map (eInt .i64)))]⟩ ?_
     refine Wp.c2 h (fun h => ?_) (fun h => ?_)
     ·refine Wp.sk ?_
      refine Wp.seq ?_
      refine Wp.block ?_
      refine Wp.sb 2 ?_
      obtain ⟨r12, e_r12, h⟩ := bind_some h
      refine Runs.ck 67 [.s p0, .i x6] (spec_GetVar_ok u p0 x6 r12 e_r12) ?_
      refine Runs.allf ⟨[(0, .s p0), (6, .obj 6 0), (7, .i 0), (8, .b false), (9, .obj 9 0), (14, .i x6), (16, .own 1048577), (17, .i x8), (18, .i r12.1), (19, .i r12.2.1), (20, .b r12.2.2)], [(6, [.i 0, .i 0, .i 0, .i 0, .i 0, .nil, .i 0, .i 0, .i 0, .nil]), (9, [.i p2, .i r2.1, .i 0, .i 0, .i 0, .nil, .i 0, .i 0, .i 0, .nil])], [(1048577, .live 3 1 (x7.map (eInt .i64)))]⟩ ?_
      refine Wp.seq ?_
      refine Wp.seqJ (α := (List Int) × Int × (List Int) × Int × (Int × Int × Bool) × Bool × Int × (Int × Int × Bool)) (fun a => ⟨[(0, .s a.1), (6, .obj 6 0), (7, .i 0), (8, .b false), (9, .obj 9 0), (14, .i a.2.1), (16, .own 1048577), (17, .i a.2.2.2.1), (18, .i a.2.2.2.2.1.1), (19, .i a.2.2.2.2.1.2.1), (76, .b a.2.2.2.2.2.1)], [(6, [.i 0, .i 0, .i 0, .i 0, .i 0, .nil, .i 0, .i 0, .i 0, .nil]), (9, [.i a.2.2.2.2.2.2.1, .i a.2.2.2.2.2.2.2.1, .i 0, .i 0, .i 0, .nil, .i 0, .i 0, .i 0, .nil])], [(1048577, .live 3 1 (a.2.2.1.map (eInt .i64)))]⟩) (fun a => spec_l12Body_j4 u (fun z0 z1 z2 z3 z4 z5 => spec_l12Body_l3 u k_spec_l12Body_l3 z0 z1 z2 z3 z4 z5) a.1 a.2.1 a.2.2.1 a.2.2.2.1 a.2.2.2.2.1 a.2.2.2.2.2.1 a.2.2.2.2.2.2.1 a.2.2.2.2.2.2.2 = some r) ?_ ?_
      ·rintro ⟨p0, x6, x7, x8, r12, x13, p2, r2⟩ h
       change spec_l12Body_j4 u (fun z0 z1 z2 z3 z4 z5 => spec_l12Body_l3 u k_spec_l12Body_l3 z0 z1 z2 z3 z4 z5) p0 x6 x7 x8 r12 x13 p2 r2 = some r at h
       unfold spec_l12Body_j4 at h
       refine Wp.c2 h (fun h => ?_) (fun h => ?_)
       ·refine Wp.sag ⟨[(0, .s p0), (6, .obj 6 0), (7, .i 0), (8, .b false), (9, .obj 9 0), (14, .i x6), (16, .own 1048577), (17, .i x8), (18, .i r12.1), (19, .i r12.2.1)], [(6, [.i p2, .i r2.1, .i 0, .i 0, .i 0, .nil, .i 0, .i 0, .i 0, .nil]), (9, [.i p2, .i r2.1, .i 0, .i 0, .i 0, .nil, .i 0, .i 0, .i 0, .nil])], [(1048577, .live 3 1 (x7.map (eInt .i64)))]⟩ ?_
        refine Wp.ret ?_
        refine thenR ?_
        refine blkR ?_
        refine thenR ?_
        refine thenR ?_
        refine blkR ?_
        refine thenR ?_
        refine blkR ?_
        refine thenR ?_
        obtain rfl := oi h
        exact RetK [.agg [.i p2, .i r2.1, .i 0, .i 0, .i 0, .nil, .i 0, .i 0, .i 0, .nil], .i 0, .b false] (.tup [.agg [.i p2, .i r2.1, .i 0, .i 0, .i 0, .nil, .i 0, .i 0, .i 0, .nil], .one (.i 0), .one (.b false)]) [] kr kr (.tup (.cons (.agg (.cons (.refl _) (.cons (.refl _) (.cons (.refl _) (.cons (.refl _) (.cons (.refl _) (.cons (.nilO _ _) (.cons (.refl _) (.cons (.refl _) (.cons (.refl _) (.cons (.nilO _ _) .nil))))))))))) (.cons (.refl _) (.cons (.refl _) .nil)))) .nil
       refine Wp.sk ?_
       refine Wp.sb 3 ?_
       obtain ⟨_, e_14, h⟩ := bind_some h
       refine Runs.appT (y := .own 5242880) (eInt .i64) 81 1 3 1 8 1048577 x7 ([r12.1]) rfl rfl rfl rfl kr kr kr kr kr kr (.inl rfl) kr (of_decide_eq_true (chk_some e_14)) kr kr ?_
       refine Runs.allf ⟨[(0, .s p0), (6, .obj 6 0), (7, .i 0), (8, .b false), (9, .obj 9 0), (14, .i x6), (16, .own 5308416), (17, .i x8), (19, .i r12.2.1)], [(6, [.i 0, .i 0, .i 0, .i 0, .i 0, .nil, .i 0, .i 0, .i 0, .nil]), (9, [.i p2, .i r2.1, .i 0, .i 0, .i 0, .nil, .i 0, .i 0, .i 0, .nil])], [(5308416, .live 3 1 ((x7 ++ ([r12.1])).map (eInt .i64)))]⟩ ?_
       refine Wp.rg [] [] ?_
       refine Runs.all kr ?_
       refine blkN ?_
       refine thenN ?_
       refine Wp.rg [] [] ?_
       refine Runs.alln ?_
       exact ⟨(p0, r12.2.1, x7 ++ ([r12.1]), bAdd .i64 x8 1, p2, r2), h, Le.of (mo := []) (mr := [(1048577, 5308416)]) kr kr kr kr⟩
      ·refine Wp.rg [] [] ?_
       refine Runs.batch 3 kr ?_
       rcases tf (!r12.2.2) with hc | hc
       ·have h := cond_t h hc
        refine Runs.known 73 (v := true) kr hc ?_
        refine Runs.alln ?_
        exact ⟨(p0, x6, x7, x8, r12, true, p2, r2), h, Le.of (mo := []) (mr := []) kr kr kr kr⟩
       have h := cond_f h hc
       refine Runs.known 73 (v := false) kr hc ?_
       refine Runs.alln ?_
       exact ⟨(p0, x6, x7, x8, r12, decide (r12.1 ≥ 1048576), p2, r2), h, Le.of (mo := []) (mr := []) kr kr kr kr⟩
     refine Wp.exit ?_
     refine thenE ?_
     refine thenE ?_
     refine blkE ?_
     refine thenN ?_
     exact ⟨(x6, x7, p2, r2), h, Le.of (mo := []) (mr := []) kr kr kr kr⟩
  refine Wp.sag ⟨[(0, .s p0), (6, .obj 6 0), (7, .i 0), (8, .b false), (9, .obj 9 0), (14, .i r2.2.1), (101, .b (p2 == 3))], [(6, [.i 0, .i 0, .i 0, .i 0, .i 0, .nil, .i 0, .i 0, .i 0, .nil]), (9, [.i p2, .i r2.1, .i 0, .i 0, .i 0, .nil, .i 0, .i 0, .i 0, .nil])], []⟩ ?_
  refine Wp.c2 h (fun h => ?_) (fun h => ?_)
  ·refine Wp.sb 2 ?_
   obtain ⟨r13, e_r13, h⟩ := bind_some h
   refine Runs.ck 107 [.s p0, .i r2.2.1] (spec_GetVar_ok u p0 r2.2.1 r13 e_r13) ?_
   refine Runs.allf ⟨[(0, .s p0), (6, .obj 6 0), (7, .i 0), (8, .b false), (9, .obj 9 0), (14, .i r2.2.1), (21, .i r13.1), (22, .i r13.2.1), (23, .b r13.2.2)], [(6, [.i 0, .i 0, .i 0, .i 0, .i 0, .nil, .i 0, .i 0, .i 0, .nil]), (9, [.i p2, .i r2.1, .i 0, .i 0, .i 0, .nil, .i 0, .i 0, .i 0, .nil])], []⟩ ?_
   refine Wp.sb 2 ?_
   obtain ⟨r14, e_r14, h⟩ := bind_some h
   refine Runs.ck 114 [.s p0, .i r13.2.1, .i 6] (spec_GetPart_ok u p0 r13.2.1 6 r14 e_r14) ?_
   refine Runs.allf ⟨[(6, .obj 6 0), (7, .i 0), (8, .b false), (9, .obj 9 0), (14, .i r2.2.1), (21, .i r13.1), (23, .b r13.2.2), (24, .own 7471104), (25, .i r14.2.1), (26, .b r14.2.2)], [(6, [.i 0, .i 0, .i 0, .i 0, .i 0, .nil, .i 0, .i 0, .i 0, .nil]), (9, [.i p2, .i r2.1, .i 0, .i 0, .i 0, .nil, .i 0, .i 0, .i 0, .nil])], [(7471104, .live 5 1 (r14.1.map (eInt .u8)))]⟩ ?_
   refine Wp.sag ⟨[(6, .obj 6 0), (7, .i 0), (8, .b false), (9, .obj 9 0), (14, .i r2.2.1), (23, .b r13.2.2), (24, .own 7471104), (25, .i r14.2.1), (26, .b r14.2.2)], [(6, [.i 0, .i 0, .i 0, .i 0, .i 0, .nil, .i 0, .i 0, .i 0, .nil]), (9, [.i p2, .i r2.1, .i 0, .i 0, .i 0, .nil, .i 0, .i 0, .i r13.1, .nil])], [(7471104, .live 5 1 (r14.1.map (eInt .u8)))]⟩ ?_
   refine Wp.sag ⟨[(6, .obj 6 0), (7, .i 0), (8, .b false), (9, .obj 9 0), (14, .i r2.2.1), (23, .b r13.2.2), (25, .i r14.2.1), (26, .b r14.2.2)], [(6, [.i 0, .i 0, .i 0, .i 0, .i 0, .nil, .i 0, .i 0, .i 0, .nil]), (9, [.i p2, .i r2.1, .i 0, .i 0, .i 0, .nil, .i 0, .i 0, .i r13.1, .own 7471104])], [(7471104, .live 5 1 (r14.1.map (eInt .u8)))]⟩ ?_
   refine Wp.sb 4 ?_
   rcases tf (r13.2.2) with hc | hc
   ·have h := cond_t h hc
    refine Runs.known 125 (v := true) kr hc ?_
    refine Runs.allf ⟨[(6, .obj 6 0), (7, .i r14.2.1), (8, .b r14.2.2), (9, .obj 9 0), (14, .i r2.2.1)], [(6, [.i p2, .i r2.1, .i 0, .i 0, .i 0, .nil, .i 0, .i 0, .i r13.1, .own 7471104]), (9, [.i p2, .i r2.1, .i 0, .i 0, .i 0, .nil, .i 0, .i 0, .i r13.1, .own 7471104])], [(7471104, .live 5 1 (r14.1.map (eInt .u8)))]⟩ ?_
    refine Wp.ret ?_
    refine blkR ?_
    refine thenR ?_
    obtain rfl := oi h
    exact RetK [.agg [.i p2, .i r2.1, .i 0, .i 0, .i 0, .nil, .i 0, .i 0, .i r13.1, .own 7471104], .i r14.2.1, .b r14.2.2] (.tup [.agg [.i p2, .i r2.1, .i 0, .i 0, .i 0, .nil, .i 0, .i 0, .i r13.1, .ow 5 1 (r14.1.map (eInt .u8))], .one (.i r14.2.1), .one (.b r14.2.2)]) [] kr kr (.tup (.cons (.agg (.cons (.refl _) (.cons (.refl _) (.cons (.refl _) (.cons (.refl _) (.cons (.refl _) (.cons (.nilO _ _) (.cons (.refl _) (.cons (.refl _) (.cons (.refl _) (.cons (.refl _) .nil))))))))))) (.cons (.refl _) (.cons (.refl _) .nil)))) .nil
   have h := cond_f h hc
   refine Runs.known 125 (v := false) kr hc ?_
   refine Runs.allf ⟨[(6, .obj 6 0), (7, .i r14.2.1), (8, .b false), (9, .obj 9 0), (14, .i r2.2.1)], [(6, [.i p2, .i r2.1, .i 0, .i 0, .i 0, .nil, .i 0, .i 0, .i r13.1, .own 7471104]), (9, [.i p2, .i r2.1, .i 0, .i 0, .i 0, .nil, .i 0, .i 0, .i r13.1, .own 7471104])], [(7471104, .live 5 1 (r14.1.map (eInt .u8)))]⟩ ?_
   refine Wp.ret ?_
   refine blkR ?_
   refine thenR ?_
   obtain rfl := oi h
   exact RetK [.agg [.i p2, .i r2.1, .i 0, .i 0, .i 0, .nil, .i 0, .i 0, .i r13.1, .own 7471104], .i r14.2.1, .b false] (.tup [.agg [.i p2, .i r2.1, .i 0, .i 0, .i 0, .nil, .i 0, .i 0, .i r13.1, .ow 5 1 (r14.1.map (eInt .u8))], .one (.i r14.2.1), .one (.b false)]) [] kr kr (.tup (.cons (.agg (.cons (.refl _) (.cons (.refl _) (.cons (.refl _) (.cons (.refl _) (.cons (.refl _) (.cons (.nilO _ _) (.cons (.refl _) (.cons (.refl _) (.cons (.refl _) (.cons (.refl _) .nil))))))))))) (.cons (.refl _) (.cons (.refl _) .nil)))) .nil
  refine Wp.skip ?_
  refine blkN ?_
  refine thenN ?_
  exact ⟨(r2.2.1, p2, r2, 0, 0), h, Le.of (mo := []) (mr := []) kr kr kr kr⟩
theorem spec_l6SameSums_ok (u : Nat) (p0 : List Sum) (p1 : List Sum) (r : Bool) (h : spec_l6SameSums u p0 p1 = some r) : CallOK Tryz.prog 196 [.one (.t (.sl 2 (p0.map Sum.enc))), .one (.t (.sl 2 (p1.map Sum.enc)))] (.one (.b r)) [] := by
 unfold spec_l6SameSums at h
 refine CallOK.of_bodyK (fn := Tryz.f196) (m := false) [.t (.sl 2 (p0.map Sum.enc)), .t (.sl 2 (p1.map Sum.enc))] kr rfl kr kr kr kr kr ?_
 refine Wp.sag ⟨[(0, .t (.sl 2 (p0.map Sum.enc))), (1, .t (.sl 2 (p1.map Sum.enc))), (4, .b false)], [], []⟩ ?_
 refine Wp.seq ?_
 refine Wp.sb 1 ?_
 refine Runs.lenT (y := .t (.sl 2 (p0.map Sum.enc))) (e := 189) Sum.enc p0 2 rfl rfl rfl kr kr kr kr kr ?_
 refine Runs.batch 1 kr ?_
 refine Runs.lenT (y := .t (.sl 2 (p1.map Sum.enc))) (e := 189) Sum.enc p1 2 rfl rfl rfl kr kr kr kr kr ?_
 refine Runs.allf ⟨[(0, .t (.sl 2 (p0.map Sum.enc))), (1, .t (.sl 2 (p1.map Sum.enc))), (4, .b false), (10, .b (((p0.length : Int)) != ((p1.length : Int))))], [], []⟩ ?_
 refine Wp.c2 h (fun h => ?_) (fun h => ?_)
 ·refine Wp.sag ⟨[(0, .t (.sl 2 (p0.map Sum.enc))), (1, .t (.sl 2 (p1.map Sum.enc))), (4, .b false)], [], []⟩ ?_
  refine Wp.ret ?_
  refine thenR ?_
  obtain rfl := oi h
  exact RetK [.b false] _ [] kr kr (.refl _) .nil
 refine Wp.sk ?_
 refine Wp.seqJ (α := Unit) (fun a => ⟨[(4, .b false)], [], []⟩) (fun a => spec_l6SameSums_j1 u = some r) ?_ ?_
 ·rintro ⟨⟩ h
  change spec_l6SameSums_j1 u = some r at h
  unfold spec_l6SameSums_j1 at h
  refine Wp.sag ⟨[(4, .b true)], [], []⟩ ?_
  refine Wp.ret ?_
  obtain rfl := oi h
  exact RetK [.b true] _ [] kr kr (.refl _) .nil
 ·refine Wp.sag ⟨[(0, .t (.sl 2 (p0.map Sum.enc))), (1, .t (.sl 2 (p1.map Sum.enc))), (4, .b false), (5, .i 0)], [], []⟩ ?_
  refine Wp.block ?_
  refine Wp.loopF (α := (List Sum) × (List Sum) × Int) (fun a => ⟨[(0, .t (.sl 2 (a.1.map Sum.enc))), (1, .t (.sl 2 (a.2.1.map Sum.enc))), (4, .b false), (5, .i a.2.2)], [], []⟩) (fun k_spec_l6SameSums_l2 a => spec_l6SameSums_l2 u k_spec_l6SameSums_l2 a.1 a.2.1 a.2.2 = some r) ?_ ?_ u (p0, p1, 0) h (Le.of (mo := []) (mr := []) kr kr kr kr)
  ·intro a h; unfold spec_l6SameSums_l2 at h; cases h
  ·rintro k_spec_l6SameSums_l2 ⟨p0, p1, x2⟩ h
   change spec_l6SameSums_l2 u (k_spec_l6SameSums_l2 + 1) p0 p1 x2 = some r at h
   rw [spec_l6SameSums_l2] at h
   refine Wp.seq ?_
   refine Wp.sb 2 ?_
   refine Runs.lenT (y := .t (.sl 2 (p0.map Sum.enc))) (e := 189) Sum.enc p0 2 rfl rfl rfl kr kr kr kr kr ?_
   refine Runs.allf ⟨[(0, .t (.sl 2 (p0.map Sum.enc))), (1, .t (.sl 2 (p1.map Sum.enc))), (4, .b false), (5, .i x2), (14, .b (decide (x2 < ((p0.length : Int)))))], [], []⟩ ?_
   refine Wp.c2 h (fun h => ?_) (fun h => ?_)
   ·refine Wp.sk ?_
    refine Wp.seq ?_
    refine Wp.block ?_
    refine Wp.seq ?_
    refine Wp.regionA (pOf []) (rhoOf [(0, .frz), (1, .frz), (5, .frz), (17, .frz), (18, .frz), (19, .frz), (20, .frz), (21, .frz), (22, .frz), (23, .frz), (24, .frz)]) kr kr ?_
    refine Runs.batch 2 kr ?_
    obtain ⟨y4, e_y4, h⟩ := bind_some h
    refine Runs.idxT (e := 189) (kk := .i64) (sz := 2) Sum.enc p0 x2 rfl kr kr kr kr kr kr e_y4 ?_
    refine Runs.batch 3 kr ?_
    obtain ⟨y5, e_y5, h⟩ := bind_some h
    refine Runs.idxT (e := 189) (kk := .i64) (sz := 2) Sum.enc p1 x2 rfl kr kr kr kr kr kr e_y5 ?_
    refine Runs.allf ⟨[(0, .t (.sl 2 (p0.map Sum.enc))), (1, .t (.sl 2 (p1.map Sum.enc))), (4, .b false), (5, .i x2), (25, .b (!([y4.fW, y4.fS] == [y5.fW, y5.fS])))], [], []⟩ ?_
    refine Wp.c2 h (fun h => ?_) (fun h => ?_)
    ·refine Wp.sag ⟨[(0, .t (.sl 2 (p0.map Sum.enc))), (1, .t (.sl 2 (p1.map Sum.enc))), (4, .b false), (5, .i x2)], [], []⟩ ?_
     refine Wp.ret ?_
     refine blkR ?_
     refine thenR ?_
     refine thenR ?_
     refine blkR ?_
     refine thenR ?_
     obtain rfl := oi h
     exact RetK [.b false] _ [] kr kr (.refl _) .nil
    refine Wp.skip ?_
    refine blkN ?_
    refine thenN ?_
    refine Wp.rg [] [] ?_
    refine Runs.alln ?_
    exact ⟨(p0, p1, bAdd .i64 x2 1), h, Le.of (mo := []) (mr := []) kr kr kr kr⟩
   refine Wp.exit ?_
   refine thenE ?_
   refine thenE ?_
   refine blkE ?_
   refine thenN ?_
   exact ⟨(), h, Le.of (mo := []) (mr := []) kr kr kr kr⟩
theorem spec_SameMan_ok (u : Nat) (p0 : Manifest) (p1 : Manifest) (r : Bool) (h : spec_SameMan u p0 p1 = some r) : CallOK Tryz.prog 171 [.agg [.i p0.fGen, .i p0.fSize, .i p0.fLen, .t (.sl 2 (p0.fSums.map Sum.enc))], .agg [.i p1.fGen, .i p1.fSize, .i p1.fLen, .t (.sl 2 (p1.fSums.map Sum.enc))]] (.one (.b r)) [] := by
 unfold spec_SameMan at h
 refine CallOK.of_bodyK (fn := Tryz.f171) (m := false) [.agg ((Manifest.enc p0).map .t), .agg ((Manifest.enc p1).map .t)] kr rfl kr kr kr kr kr ?_
 refine Wp.sag ⟨[(2, .obj 2 0), (3, .obj 3 0), (4, .b false)], [(2, ((Manifest.enc p0).map .t)), (3, ((Manifest.enc p1).map .t))], []⟩ ?_
 refine Wp.sb 6 ?_
 rcases tf (p0.fGen == p1.fGen) with hc | hc
 ·have h := cond_t h hc
  refine Runs.known 10 (v := true) kr hc ?_
  refine Runs.batch 7 kr ?_
  rcases tf (p0.fSize == p1.fSize) with hc | hc
  ·have h := cond_t h hc
   refine Runs.known 17 (v := true) kr hc ?_
   refine Runs.batch 7 kr ?_
   rcases tf (p0.fLen == p1.fLen) with hc | hc
   ·have h := cond_t h hc
    refine Runs.known 24 (v := true) kr hc ?_
    refine Runs.batch 4 kr ?_
    obtain ⟨r1, e_r1, h⟩ := bind_some h
    refine Runs.ck 29 [.t (.sl 2 (p0.fSums.map Sum.enc)), .t (.sl 2 (p1.fSums.map Sum.enc))] (spec_l6SameSums_ok u p0.fSums p1.fSums r1 e_r1) ?_
    refine Runs.allf ⟨[(4, .b r1)], [], []⟩ ?_
    refine Wp.ret ?_
    obtain rfl := oi h
    exact RetK [.b r1] _ [] kr kr (.refl _) .nil
   have h := cond_f h hc
   refine Runs.known 24 (v := false) kr hc ?_
   refine Runs.allf ⟨[(4, .b false)], [], []⟩ ?_
   refine Wp.ret ?_
   obtain rfl := oi h
   exact RetK [.b false] _ [] kr kr (.refl _) .nil
  have h := cond_f h hc
  refine Runs.known 17 (v := false) kr hc ?_
  refine Runs.allf ⟨[(4, .b false)], [], []⟩ ?_
  refine Wp.ret ?_
  obtain rfl := oi h
  exact RetK [.b false] _ [] kr kr (.refl _) .nil
 have h := cond_f h hc
 refine Runs.known 10 (v := false) kr hc ?_
 refine Runs.allf ⟨[(4, .b false)], [], []⟩ ?_
 refine Wp.ret ?_
 obtain rfl := oi h
 exact RetK [.b false] _ [] kr kr (.refl _) .nil
theorem spec_SetOk_ok (u : Nat) (p0 : Int) (r : Bool) (h : spec_SetOk u p0 = some r) : CallOK Tryz.prog 166 [.one (.i p0)] (.one (.b r)) [] := by
 unfold spec_SetOk at h
 refine CallOK.of_bodyK (fn := Tryz.f166) (m := false) [.i p0] kr rfl kr kr kr kr kr ?_
 refine Wp.sag ⟨[(0, .i p0), (2, .b false)], [], []⟩ ?_
 refine Wp.sb 1 ?_
 obtain ⟨r1, e_r1, h⟩ := bind_some h
 refine Runs.ck 4 [.i p0, .i 0, .i 1099511627775] (spec_l1In_ok u p0 0 1099511627775 r1 e_r1) ?_
 refine Runs.allf ⟨[(2, .b r1)], [], []⟩ ?_
 refine Wp.ret ?_
 obtain rfl := oi h
 exact RetK [.b r1] _ [] kr kr (.refl _) .nil
theorem spec_MsgOk_ok (u : Nat) (p0 : Msg) (r : Bool) (h : spec_MsgOk u p0 = some r) : CallOK Tryz.prog 131 [.agg [.i p0.fKind, .i p0.fGen, .i p0.fMan.fGen, .i p0.fMan.fSize, .i p0.fMan.fLen, .t (.sl 2 (p0.fMan.fSums.map Sum.enc)), .i p0.fWant, .i p0.fDone, .i p0.fI, .s p0.fB]] (.one (.b r)) [] := by
 unfold spec_MsgOk at h
 refine CallOK.of_bodyK (fn := Tryz.f131) (m := false) [.agg ((Msg.enc p0).map .t)] kr rfl kr kr kr kr kr ?_
 refine Wp.sag ⟨[(1, .obj 1 0), (2, .b false)], [(1, ((Msg.enc p0).map .t))], []⟩ ?_
 refine Wp.sb 3 ?_
 obtain ⟨r1, e_r1, h⟩ := bind_some h
 refine Runs.callK false 8 171 [] [.agg ((Manifest.enc p0.fMan).map .t), .agg [.i 0, .i 0, .i 0, .nil]] [.agg ((Manifest.enc p0.fMan).map .t), .agg [.i 0, .i 0, .i 0, .t (.sl 0 [])]] (.one (.b r1)) [] rfl rfl kr kr kr kr kr ((spec_SameMan_ok u p0.fMan ((Manifest.mk 0 0 0 ([]))) r1 e_r1).le (.cons (.refl _) (.cons (.agg (.cons (.refl _) (.cons (.refl _) (.cons (.refl _) (.cons (.sz _ _) .nil))))) .nil))) kr ?_
 refine Runs.allf ⟨[(1, .obj 1 0), (2, .b false), (3, .b r1)], [(1, ((Msg.enc p0).map .t))], []⟩ ?_
 refine Wp.seqJ (α := Bool × Bool × Msg) (fun a => ⟨[(1, .obj 1 0), (2, .b false), (3, .b a.1), (4, .b a.2.1)], [(1, ((Msg.enc a.2.2).map .t))], []⟩) (fun a => spec_MsgOk_j1 u a.1 a.2.1 a.2.2 = some r) ?_ ?_
 ·rintro ⟨r1, x2, p0⟩ h
  change spec_MsgOk_j1 u r1 x2 p0 = some r at h
  unfold spec_MsgOk_j1 at h
  refine Wp.seq ?_
  refine Wp.sag ⟨[(1, .obj 1 0), (2, .b false), (3, .b r1), (4, .b x2), (29, .i p0.fKind)], [(1, ((Msg.enc p0).map .t))], []⟩ ?_
  refine Wp.block ?_
  refine Wp.sag ⟨[(1, .obj 1 0), (2, .b false), (3, .b r1), (4, .b x2), (29, .i p0.fKind), (30, .b (p0.fKind == 1))], [(1, ((Msg.enc p0).map .t))], []⟩ ?_
  refine Wp.c2 h (fun h => ?_) (fun h => ?_)
  ·refine Wp.sb 4 ?_
   rcases tf (p0.fGen == 0) with hc | hc
   ·have h := cond_t h hc
    refine Runs.known 35 (v := true) kr hc ?_
    refine Runs.batch 6 kr ?_
    rcases tf (p0.fMan.fGen != 0) with hc | hc
    ·have h := cond_t h hc
     refine Runs.known 41 (v := true) kr hc ?_
     refine Runs.batch 2 kr ?_
     obtain ⟨r3, e_r3, h⟩ := bind_some h
     refine Runs.ck 44 [.agg ((Manifest.enc p0.fMan).map .t)] (spec_ManOk_ok u p0.fMan r3 e_r3) ?_
     refine Runs.batch 2 kr ?_
     rcases tf (r3) with hc | hc
     ·have h := cond_t h hc
      refine Runs.known 46 (v := true) kr hc ?_
      refine Runs.allf ⟨[(1, .obj 1 0), (2, .b x2), (3, .b r1), (4, .b x2)], [(1, ((Msg.enc p0).map .t))], []⟩ ?_
      refine Wp.ret ?_
      refine blkR ?_
      refine thenR ?_
      obtain rfl := oi h
      exact RetK [.b x2] _ [] kr kr (.refl _) .nil
     have h := cond_f h hc
     refine Runs.known 46 (v := false) kr hc ?_
     refine Runs.allf ⟨[(1, .obj 1 0), (2, .b false), (3, .b r1), (4, .b x2)], [(1, ((Msg.enc p0).map .t))], []⟩ ?_
     refine Wp.ret ?_
     refine blkR ?_
     refine thenR ?_
     obtain rfl := oi h
     exact RetK [.b false] _ [] kr kr (.refl _) .nil
    have h := cond_f h hc
    refine Runs.known 41 (v := false) kr hc ?_
    refine Runs.allf ⟨[(1, .obj 1 0), (2, .b false), (3, .b r1), (4, .b x2)], [(1, ((Msg.enc p0).map .t))], []⟩ ?_
    refine Wp.ret ?_
    refine blkR ?_
    refine thenR ?_
    obtain rfl := oi h
    exact RetK [.b false] _ [] kr kr (.refl _) .nil
   have h := cond_f h hc
   refine Runs.known 35 (v := false) kr hc ?_
   refine Runs.allf ⟨[(1, .obj 1 0), (2, .b false), (3, .b r1), (4, .b x2)], [(1, ((Msg.enc p0).map .t))], []⟩ ?_
   refine Wp.ret ?_
   refine blkR ?_
   refine thenR ?_
   obtain rfl := oi h
   exact RetK [.b false] _ [] kr kr (.refl _) .nil
  refine Wp.sag ⟨[(1, .obj 1 0), (2, .b false), (3, .b r1), (4, .b x2), (29, .i p0.fKind), (49, .b (p0.fKind == 2))], [(1, ((Msg.enc p0).map .t))], []⟩ ?_
  refine Wp.c2 h (fun h => ?_) (fun h => ?_)
  ·refine Wp.sb 2 ?_
   obtain ⟨r4, e_r4, h⟩ := bind_some h
   refine Runs.ck 53 [.i p0.fGen, .i 0, .i 1000000] (spec_l1In_ok u p0.fGen 0 1000000 r4 e_r4) ?_
   refine Runs.batch 1 kr ?_
   rcases tf (r4) with hc | hc
   ·have h := cond_t h hc
    refine Runs.known 54 (v := true) kr hc ?_
    refine Runs.batch 3 kr ?_
    rcases tf (r1) with hc | hc
    ·have h := cond_t h hc
     refine Runs.known 57 (v := true) kr hc ?_
     refine Runs.batch 2 kr ?_
     obtain ⟨r5, e_r5, h⟩ := bind_some h
     refine Runs.ck 60 [.i p0.fWant] (spec_SetOk_ok u p0.fWant r5 e_r5) ?_
     refine Runs.batch 2 kr ?_
     rcases tf (r5) with hc | hc
     ·have h := cond_t h hc
      refine Runs.known 62 (v := true) kr hc ?_
      refine Runs.batch 2 kr ?_
      obtain ⟨r6, e_r6, h⟩ := bind_some h
      refine Runs.ck 65 [.i p0.fDone] (spec_SetOk_ok u p0.fDone r6 e_r6) ?_
      refine Runs.batch 2 kr ?_
      rcases tf (r6) with hc | hc
      ·have h := cond_t h hc
       refine Runs.known 67 (v := true) kr hc ?_
       refine Runs.batch 5 kr ?_
       rcases tf (p0.fI == 0) with hc | hc
       ·have h := cond_t h hc
        refine Runs.known 72 (v := true) kr hc ?_
        refine Runs.batch 2 kr ?_
        refine Runs.lenT (y := .s p0.fB) (e := 5) (eInt .u8) p0.fB 1 rfl rfl rfl kr kr kr kr kr ?_
        refine Runs.allf ⟨[(1, .obj 1 0), (2, .b (((p0.fB.length : Int)) == 0)), (3, .b r1), (4, .b x2)], [(1, ((Msg.enc p0).map .t))], []⟩ ?_
        refine Wp.ret ?_
        refine blkR ?_
        refine thenR ?_
        obtain rfl := oi h
        exact RetK [.b (((p0.fB.length : Int)) == 0)] _ [] kr kr (.refl _) .nil
       have h := cond_f h hc
       refine Runs.known 72 (v := false) kr hc ?_
       refine Runs.allf ⟨[(1, .obj 1 0), (2, .b false), (3, .b r1), (4, .b x2)], [(1, ((Msg.enc p0).map .t))], []⟩ ?_
       refine Wp.ret ?_
       refine blkR ?_
       refine thenR ?_
       obtain rfl := oi h
       exact RetK [.b false] _ [] kr kr (.refl _) .nil
      have h := cond_f h hc
      refine Runs.known 67 (v := false) kr hc ?_
      refine Runs.allf ⟨[(1, .obj 1 0), (2, .b false), (3, .b r1), (4, .b x2)], [(1, ((Msg.enc p0).map .t))], []⟩ ?_
      refine Wp.ret ?_
      refine blkR ?_
      refine thenR ?_
      obtain rfl := oi h
      exact RetK [.b false] _ [] kr kr (.refl _) .nil
     have h := cond_f h hc
     refine Runs.known 62 (v := false) kr hc ?_
     refine Runs.allf ⟨[(1, .obj 1 0), (2, .b false), (3, .b r1), (4, .b x2)], [(1, ((Msg.enc p0).map .t))], []⟩ ?_
     refine Wp.ret ?_
     refine blkR ?_
     refine thenR ?_
     obtain rfl := oi h
     exact RetK [.b false] _ [] kr kr (.refl _) .nil
    have h := cond_f h hc
    refine Runs.known 57 (v := false) kr hc ?_
    refine Runs.allf ⟨[(1, .obj 1 0), (2, .b false), (3, .b r1), (4, .b x2)], [(1, ((Msg.enc p0).map .t))], []⟩ ?_
    refine Wp.ret ?_
    refine blkR ?_
    refine thenR ?_
    obtain rfl := oi h
    exact RetK [.b false] _ [] kr kr (.refl _) .nil
   have h := cond_f h hc
   refine Runs.known 54 (v := false) kr hc ?_
   refine Runs.allf ⟨[(1, .obj 1 0), (2, .b false), (3, .b r1), (4, .b x2)], [(1, ((Msg.enc p0).map .t))], []⟩ ?_
   refine Wp.ret ?_
   refine blkR ?_
   refine thenR ?_
   obtain rfl := oi h
   exact RetK [.b false] _ [] kr kr (.refl _) .nil
  refine Wp.sag ⟨[(1, .obj 1 0), (2, .b false), (3, .b r1), (4, .b x2), (78, .b (p0.fKind == 3))], [(1, ((Msg.enc p0).map .t))], []⟩ ?_
  refine Wp.c2 h (fun h => ?_) (fun h => ?_)
  ·refine Wp.sb 2 ?_
   obtain ⟨r7, e_r7, h⟩ := bind_some h
   refine Runs.ck 82 [.i p0.fGen, .i 1, .i 1000000] (spec_l1In_ok u p0.fGen 1 1000000 r7 e_r7) ?_
   refine Runs.batch 1 kr ?_
   rcases tf (r7) with hc | hc
   ·have h := cond_t h hc
    refine Runs.known 83 (v := true) kr hc ?_
    refine Runs.batch 3 kr ?_
    rcases tf (r1) with hc | hc
    ·have h := cond_t h hc
     refine Runs.known 86 (v := true) kr hc ?_
     refine Runs.batch 5 kr ?_
     rcases tf (p0.fWant == 0) with hc | hc
     ·have h := cond_t h hc
      refine Runs.known 91 (v := true) kr hc ?_
      refine Runs.batch 5 kr ?_
      rcases tf (p0.fDone == 0) with hc | hc
      ·have h := cond_t h hc
       refine Runs.known 96 (v := true) kr hc ?_
       refine Runs.batch 2 kr ?_
       obtain ⟨r8, e_r8, h⟩ := bind_some h
       refine Runs.ck 99 [.i p0.fI, .i 0, .i 39] (spec_l1In_ok u p0.fI 0 39 r8 e_r8) ?_
       refine Runs.batch 2 kr ?_
       rcases tf (r8) with hc | hc
       ·have h := cond_t h hc
        refine Runs.known 101 (v := true) kr hc ?_
        refine Runs.batch 2 kr ?_
        refine Runs.lenT (y := .s p0.fB) (e := 5) (eInt .u8) p0.fB 1 rfl rfl rfl kr kr kr kr kr ?_
        obtain ⟨r9, e_r9, h⟩ := bind_some h
        refine Runs.ck 105 [.i ((p0.fB.length : Int)), .i 1, .i 6] (spec_l1In_ok u ((p0.fB.length : Int)) 1 6 r9 e_r9) ?_
        refine Runs.allf ⟨[(1, .obj 1 0), (2, .b r9), (3, .b r1), (4, .b x2)], [(1, ((Msg.enc p0).map .t))], []⟩ ?_
        refine Wp.ret ?_
        refine blkR ?_
        refine thenR ?_
        obtain rfl := oi h
        exact RetK [.b r9] _ [] kr kr (.refl _) .nil
       have h := cond_f h hc
       refine Runs.known 101 (v := false) kr hc ?_
       refine Runs.allf ⟨[(1, .obj 1 0), (2, .b false), (3, .b r1), (4, .b x2)], [(1, ((Msg.enc p0).map .t))], []⟩ ?_
       refine Wp.ret ?_
       refine blkR ?_
       refine thenR ?_
       obtain rfl := oi h
       exact RetK [.b false] _ [] kr kr (.refl _) .nil
      have h := cond_f h hc
      refine Runs.known 96 (v := false) kr hc ?_
      refine Runs.allf ⟨[(1, .obj 1 0), (2, .b false), (3, .b r1), (4, .b x2)], [(1, ((Msg.enc p0).map .t))], []⟩ ?_
      refine Wp.ret ?_
      refine blkR ?_
      refine thenR ?_
      obtain rfl := oi h
      exact RetK [.b false] _ [] kr kr (.refl _) .nil
     have h := cond_f h hc
     refine Runs.known 91 (v := false) kr hc ?_
     refine Runs.allf ⟨[(1, .obj 1 0), (2, .b false), (3, .b r1), (4, .b x2)], [(1, ((Msg.enc p0).map .t))], []⟩ ?_
     refine Wp.ret ?_
     refine blkR ?_
     refine thenR ?_
     obtain rfl := oi h
     exact RetK [.b false] _ [] kr kr (.refl _) .nil
    have h := cond_f h hc
    refine Runs.known 86 (v := false) kr hc ?_
    refine Runs.allf ⟨[(1, .obj 1 0), (2, .b false), (3, .b r1), (4, .b x2)], [(1, ((Msg.enc p0).map .t))], []⟩ ?_
    refine Wp.ret ?_
    refine blkR ?_
    refine thenR ?_
    obtain rfl := oi h
    exact RetK [.b false] _ [] kr kr (.refl _) .nil
   have h := cond_f h hc
   refine Runs.known 83 (v := false) kr hc ?_
   refine Runs.allf ⟨[(1, .obj 1 0), (2, .b false), (3, .b r1), (4, .b x2)], [(1, ((Msg.enc p0).map .t))], []⟩ ?_
   refine Wp.ret ?_
   refine blkR ?_
   refine thenR ?_
   obtain rfl := oi h
   exact RetK [.b false] _ [] kr kr (.refl _) .nil
  refine Wp.skip ?_
  refine blkN ?_
  refine thenN ?_
  refine Wp.sb 4 ?_
  rcases tf (p0.fKind == 4) with hc | hc
  ·have h := cond_t h hc
   refine Runs.known 110 (v := true) kr hc ?_
   refine Runs.batch 2 kr ?_
   obtain ⟨r10, e_r10, h⟩ := bind_some h
   refine Runs.ck 113 [.i p0.fGen, .i 0, .i 1000000] (spec_l1In_ok u p0.fGen 0 1000000 r10 e_r10) ?_
   refine Runs.batch 2 kr ?_
   rcases tf (r10) with hc | hc
   ·have h := cond_t h hc
    refine Runs.known 115 (v := true) kr hc ?_
    refine Runs.batch 3 kr ?_
    rcases tf (r1) with hc | hc
    ·have h := cond_t h hc
     refine Runs.known 118 (v := true) kr hc ?_
     refine Runs.allf ⟨[(2, .b x2)], [], []⟩ ?_
     refine Wp.ret ?_
     obtain rfl := oi h
     exact RetK [.b x2] _ [] kr kr (.refl _) .nil
    have h := cond_f h hc
    refine Runs.known 118 (v := false) kr hc ?_
    refine Runs.allf ⟨[(2, .b false)], [], []⟩ ?_
    refine Wp.ret ?_
    obtain rfl := oi h
    exact RetK [.b false] _ [] kr kr (.refl _) .nil
   have h := cond_f h hc
   refine Runs.known 115 (v := false) kr hc ?_
   refine Runs.allf ⟨[(2, .b false)], [], []⟩ ?_
   refine Wp.ret ?_
   obtain rfl := oi h
   exact RetK [.b false] _ [] kr kr (.refl _) .nil
  have h := cond_f h hc
  refine Runs.known 110 (v := false) kr hc ?_
  refine Runs.allf ⟨[(2, .b false)], [], []⟩ ?_
  refine Wp.ret ?_
  obtain rfl := oi h
  exact RetK [.b false] _ [] kr kr (.refl _) .nil
 ·refine Wp.rg [] [] ?_
  refine Runs.batch 4 kr ?_
  rcases tf (p0.fWant == 0) with hc | hc
  ·have h := cond_t h hc
   refine Runs.known 12 (v := true) kr hc ?_
   refine Runs.batch 5 kr ?_
   rcases tf (p0.fDone == 0) with hc | hc
   ·have h := cond_t h hc
    refine Runs.known 17 (v := true) kr hc ?_
    refine Runs.batch 5 kr ?_
    rcases tf (p0.fI == 0) with hc | hc
    ·have h := cond_t h hc
     refine Runs.known 22 (v := true) kr hc ?_
     refine Runs.batch 2 kr ?_
     refine Runs.lenT (y := .s p0.fB) (e := 5) (eInt .u8) p0.fB 1 rfl rfl rfl kr kr kr kr kr ?_
     refine Runs.alln ?_
     exact ⟨(r1, ((p0.fB.length : Int)) == 0, p0), h, Le.of (mo := []) (mr := []) kr kr kr kr⟩
    have h := cond_f h hc
    refine Runs.known 22 (v := false) kr hc ?_
    refine Runs.alln ?_
    exact ⟨(r1, false, p0), h, Le.of (mo := []) (mr := []) kr kr kr kr⟩
   have h := cond_f h hc
   refine Runs.known 17 (v := false) kr hc ?_
   refine Runs.alln ?_
   exact ⟨(r1, false, p0), h, Le.of (mo := []) (mr := []) kr kr kr kr⟩
  have h := cond_f h hc
  refine Runs.known 12 (v := false) kr hc ?_
  refine Runs.alln ?_
  exact ⟨(r1, false, p0), h, Le.of (mo := []) (mr := []) kr kr kr kr⟩
theorem spec_GetMsg_ok (u : Nat) (p0 : List Int) (r : Msg × Bool) (h : spec_GetMsg u p0 = some r) : CallOK Tryz.prog 90 [.one (.s p0)] (.tup [.agg [.i r.1.fKind, .i r.1.fGen, .i r.1.fMan.fGen, .i r.1.fMan.fSize, .i r.1.fMan.fLen, .ow 189 2 (r.1.fMan.fSums.map Sum.enc), .i r.1.fWant, .i r.1.fDone, .i r.1.fI, .ow 5 1 (r.1.fB.map (eInt .u8))], .one (.b r.2)]) [] := by
 unfold spec_GetMsg at h
 refine CallOK.of_bodyK (fn := Tryz.f90) (m := true) [.s p0] kr rfl kr kr kr kr kr ?_
 refine Wp.sag ⟨[(0, .s p0), (2, .obj 2 0), (3, .b false)], [(2, [.i 0, .i 0, .i 0, .i 0, .i 0, .nil, .i 0, .i 0, .i 0, .nil])], []⟩ ?_
 refine Wp.sb 1 ?_
 obtain ⟨r1, e_r1, h⟩ := bind_some h
 refine Runs.ck 15 [.s p0, .i 0] (spec_GetVar_ok u p0 0 r1 e_r1) ?_
 refine Runs.allf ⟨[(0, .s p0), (2, .obj 2 0), (3, .b false), (4, .i r1.1), (5, .i r1.2.1), (6, .b r1.2.2)], [(2, [.i 0, .i 0, .i 0, .i 0, .i 0, .nil, .i 0, .i 0, .i 0, .nil])], []⟩ ?_
 refine Wp.seq ?_
 refine Wp.seqJ (α := (List Int) × (Int × Int × Bool) × Bool) (fun a => ⟨[(0, .s a.1), (2, .obj 2 0), (3, .b false), (4, .i a.2.1.1), (5, .i a.2.1.2.1), (25, .b a.2.2)], [(2, [.i 0, .i 0, .i 0, .i 0, .i 0, .nil, .i 0, .i 0, .i 0, .nil])], []⟩) (fun a => spec_GetMsg_j1 u a.1 a.2.1 a.2.2 = some r) ?_ ?_
 ·rintro ⟨p0, r1, x2⟩ h
  change spec_GetMsg_j1 u p0 r1 x2 = some r at h
  unfold spec_GetMsg_j1 at h
  refine Wp.c2 h (fun h => ?_) (fun h => ?_)
  ·refine Wp.sag ⟨[(0, .s p0), (2, .obj 2 0), (3, .b false), (4, .i r1.1), (5, .i r1.2.1)], [(2, [.i 0, .i 0, .i 0, .i 0, .i 0, .nil, .i 0, .i 0, .i 0, .nil])], []⟩ ?_
   refine Wp.ret ?_
   refine thenR ?_
   obtain rfl := oi h
   exact RetK [.agg [.i 0, .i 0, .i 0, .i 0, .i 0, .nil, .i 0, .i 0, .i 0, .nil], .b false] (.tup [.agg [.i 0, .i 0, .i 0, .i 0, .i 0, .nil, .i 0, .i 0, .i 0, .nil], .one (.b false)]) [] kr kr (.tup (.cons (.agg (.cons (.refl _) (.cons (.refl _) (.cons (.refl _) (.cons (.refl _) (.cons (.refl _) (.cons (.nilO _ _) (.cons (.refl _) (.cons (.refl _) (.cons (.refl _) (.cons (.nilO _ _) .nil))))))))))) (.cons (.refl _) .nil))) .nil
  refine Wp.sk ?_
  refine Wp.sb 3 ?_
  obtain ⟨r3, e_r3, h⟩ := bind_some h
  refine Runs.ck 31 [.s p0, .i r1.2.1, .i r1.1] (spec_l12Body_ok u p0 r1.2.1 r1.1 r3 e_r3) ?_
  refine Runs.allf ⟨[(0, .s p0), (2, .obj 2 0), (3, .b false), (7, .obj 7 0), (8, .i r3.2.1), (9, .b r3.2.2)], [(2, [.i 0, .i 0, .i 0, .i 0, .i 0, .nil, .i 0, .i 0, .i 0, .nil]), (7, [.i r3.1.fKind, .i r3.1.fGen, .i r3.1.fMan.fGen, .i r3.1.fMan.fSize, .i r3.1.fMan.fLen, .own 2031621, .i r3.1.fWant, .i r3.1.fDone, .i r3.1.fI, .own 2031625])], [(2031621, .live 189 2 (r3.1.fMan.fSums.map Sum.enc)), (2031625, .live 5 1 (r3.1.fB.map (eInt .u8)))]⟩ ?_
  refine Wp.seq ?_
  refine Wp.seqJ (α := (List Int) × (Msg × Int × Bool) × Bool) (fun a => ⟨[(0, .s a.1), (2, .obj 2 0), (3, .b false), (7, .obj 7 0), (8, .i a.2.1.2.1), (41, .b a.2.2)], [(2, [.i 0, .i 0, .i 0, .i 0, .i 0, .nil, .i 0, .i 0, .i 0, .nil]), (7, [.i a.2.1.1.fKind, .i a.2.1.1.fGen, .i a.2.1.1.fMan.fGen, .i a.2.1.1.fMan.fSize, .i a.2.1.1.fMan.fLen, .own 459269, .i a.2.1.1.fWant, .i a.2.1.1.fDone, .i a.2.1.1.fI, .own 459273])], [(459269, .live 189 2 (a.2.1.1.fMan.fSums.map Sum.enc)), (459273, .live 5 1 (a.2.1.1.fB.map (eInt .u8)))]⟩) (fun a => spec_GetMsg_j2 u a.1 a.2.1 a.2.2 = some r) ?_ ?_
  ·rintro ⟨p0, r3, x5⟩ h
   change spec_GetMsg_j2 u p0 r3 x5 = some r at h
   unfold spec_GetMsg_j2 at h
   refine Wp.c2 h (fun h => ?_) (fun h => ?_)
   ·refine Wp.sag ⟨[(0, .s p0), (2, .obj 2 0), (3, .b false), (7, .obj 7 0), (8, .i r3.2.1)], [(2, [.i 0, .i 0, .i 0, .i 0, .i 0, .nil, .i 0, .i 0, .i 0, .nil]), (7, [.i r3.1.fKind, .i r3.1.fGen, .i r3.1.fMan.fGen, .i r3.1.fMan.fSize, .i r3.1.fMan.fLen, .own 459269, .i r3.1.fWant, .i r3.1.fDone, .i r3.1.fI, .own 459273])], [(459269, .live 189 2 (r3.1.fMan.fSums.map Sum.enc)), (459273, .live 5 1 (r3.1.fB.map (eInt .u8)))]⟩ ?_
    refine Wp.ret ?_
    refine thenR ?_
    obtain rfl := oi h
    exact RetK [.agg [.i 0, .i 0, .i 0, .i 0, .i 0, .nil, .i 0, .i 0, .i 0, .nil], .b false] (.tup [.agg [.i 0, .i 0, .i 0, .i 0, .i 0, .nil, .i 0, .i 0, .i 0, .nil], .one (.b false)]) [] kr kr (.tup (.cons (.agg (.cons (.refl _) (.cons (.refl _) (.cons (.refl _) (.cons (.refl _) (.cons (.refl _) (.cons (.nilO _ _) (.cons (.refl _) (.cons (.refl _) (.cons (.refl _) (.cons (.nilO _ _) .nil))))))))))) (.cons (.refl _) .nil))) .nil
   refine Wp.sk ?_
   refine Wp.sb 2 ?_
   obtain ⟨r6, e_r6, h⟩ := bind_some h
   refine Runs.ck 46 [.s p0, .i r3.2.1] (spec_GetVar_ok u p0 r3.2.1 r6 e_r6) ?_
   refine Runs.allf ⟨[(0, .s p0), (2, .obj 2 0), (3, .b false), (7, .obj 7 0), (8, .i r3.2.1), (10, .i r6.1), (11, .i r6.2.1), (12, .b r6.2.2)], [(2, [.i 0, .i 0, .i 0, .i 0, .i 0, .nil, .i 0, .i 0, .i 0, .nil]), (7, [.i r3.1.fKind, .i r3.1.fGen, .i r3.1.fMan.fGen, .i r3.1.fMan.fSize, .i r3.1.fMan.fLen, .own 459269, .i r3.1.fWant, .i r3.1.fDone, .i r3.1.fI, .own 459273])], [(459269, .live 189 2 (r3.1.fMan.fSums.map Sum.enc)), (459273, .live 5 1 (r3.1.fB.map (eInt .u8)))]⟩ ?_
   refine Wp.seq ?_
   refine Wp.seqJ (α := Bool × (Msg × Int × Bool)) (fun a => ⟨[(2, .obj 2 0), (3, .b false), (7, .obj 7 0), (65, .b a.1)], [(2, [.i 0, .i 0, .i 0, .i 0, .i 0, .nil, .i 0, .i 0, .i 0, .nil]), (7, [.i a.2.1.fKind, .i a.2.1.fGen, .i a.2.1.fMan.fGen, .i a.2.1.fMan.fSize, .i a.2.1.fMan.fLen, .own 459269, .i a.2.1.fWant, .i a.2.1.fDone, .i a.2.1.fI, .own 459273])], [(459269, .live 189 2 (a.2.1.fMan.fSums.map Sum.enc)), (459273, .live 5 1 (a.2.1.fB.map (eInt .u8)))]⟩) (fun a => spec_GetMsg_j3 u a.1 a.2 = some r) ?_ ?_
   ·rintro ⟨x9, r3⟩ h
    change spec_GetMsg_j3 u x9 r3 = some r at h
    unfold spec_GetMsg_j3 at h
    refine Wp.c2 h (fun h => ?_) (fun h => ?_)
    ·refine Wp.sag ⟨[(2, .obj 2 0), (3, .b false), (7, .obj 7 0)], [(2, [.i 0, .i 0, .i 0, .i 0, .i 0, .nil, .i 0, .i 0, .i 0, .nil]), (7, [.i r3.1.fKind, .i r3.1.fGen, .i r3.1.fMan.fGen, .i r3.1.fMan.fSize, .i r3.1.fMan.fLen, .own 459269, .i r3.1.fWant, .i r3.1.fDone, .i r3.1.fI, .own 459273])], [(459269, .live 189 2 (r3.1.fMan.fSums.map Sum.enc)), (459273, .live 5 1 (r3.1.fB.map (eInt .u8)))]⟩ ?_
     refine Wp.ret ?_
     refine thenR ?_
     obtain rfl := oi h
     exact RetK [.agg [.i 0, .i 0, .i 0, .i 0, .i 0, .nil, .i 0, .i 0, .i 0, .nil], .b false] (.tup [.agg [.i 0, .i 0, .i 0, .i 0, .i 0, .nil, .i 0, .i 0, .i 0, .nil], .one (.b false)]) [] kr kr (.tup (.cons (.agg (.cons (.refl _) (.cons (.refl _) (.cons (.refl _) (.cons (.refl _) (.cons (.refl _) (.cons (.nilO _ _) (.cons (.refl _) (.cons (.refl _) (.cons (.refl _) (.cons (.nilO _ _) .nil))))))))))) (.cons (.refl _) .nil))) .nil
    refine Wp.sk ?_
    refine Wp.sag ⟨[(2, .obj 2 0), (3, .b true)], [(2, [.i r3.1.fKind, .i r3.1.fGen, .i r3.1.fMan.fGen, .i r3.1.fMan.fSize, .i r3.1.fMan.fLen, .own 459269, .i r3.1.fWant, .i r3.1.fDone, .i r3.1.fI, .own 459273])], [(459269, .live 189 2 (r3.1.fMan.fSums.map Sum.enc)), (459273, .live 5 1 (r3.1.fB.map (eInt .u8)))]⟩ ?_
    refine Wp.ret ?_
    obtain rfl := oi h
    exact RetK [.agg [.i r3.1.fKind, .i r3.1.fGen, .i r3.1.fMan.fGen, .i r3.1.fMan.fSize, .i r3.1.fMan.fLen, .own 459269, .i r3.1.fWant, .i r3.1.fDone, .i r3.1.fI, .own 459273], .b true] _ [] kr kr (.refl _) .nil
   ·refine Wp.rg [] [] ?_
    refine Runs.batch 3 kr ?_
    rcases tf (!r6.2.2) with hc | hc
    ·have h := cond_t h hc
     refine Runs.known 52 (v := true) kr hc ?_
     refine Runs.alln ?_
     exact ⟨(true, r3), h, Le.of (mo := []) (mr := []) kr kr kr kr⟩
    have h := cond_f h hc
    refine Runs.known 52 (v := false) kr hc ?_
    refine Runs.batch 2 kr ?_
    refine Runs.lenT (y := .s p0) (e := 5) (eInt .u8) p0 1 rfl rfl rfl kr kr kr kr kr ?_
    refine Runs.batch 3 kr ?_
    rcases tf (r6.2.1 != ((p0.length : Int))) with hc | hc
    ·have h := cond_t h hc
     refine Runs.known 58 (v := true) kr hc ?_
     refine Runs.alln ?_
     exact ⟨(true, r3), h, Le.of (mo := []) (mr := []) kr kr kr kr⟩
    have h := cond_f h hc
    refine Runs.known 58 (v := false) kr hc ?_
    refine Runs.batch 3 kr ?_
    obtain ⟨_, e_7, h⟩ := bind_some h
    refine Runs.subsl (e := 5) (ax := .s p0) (alo := none) (ahi := (some (.i r3.2.1))) (eInt .u8) p0 1 0 r3.2.1 rfl kr kr kr kr kr kr kr kr kr kr kr (chk_some e_7) ?_
    obtain ⟨r8, e_r8, h⟩ := bind_some h
    refine Runs.ck 63 [.t (.sl 1 (((p0.take (Int.toNat r3.2.1)).drop (Int.toNat 0)).map (eInt .u8)))] (spec_WeakOf_ok u ((p0.take (Int.toNat r3.2.1)).drop (Int.toNat 0)) r8 e_r8) ?_
    refine Runs.alln ?_
    exact ⟨(r6.1 != r8, r3), h, Le.of (mo := []) (mr := []) kr kr kr kr⟩
  ·refine Wp.rg [] [] ?_
   refine Runs.batch 3 kr ?_
   rcases tf (!r3.2.2) with hc | hc
   ·have h := cond_t h hc
    refine Runs.known 37 (v := true) kr hc ?_
    refine Runs.alln ?_
    exact ⟨(p0, r3, true), h, Le.of (mo := []) (mr := [(459269, 2031621), (459273, 2031625)]) kr kr kr kr⟩
   have h := cond_f h hc
   refine Runs.known 37 (v := false) kr hc ?_
   refine Runs.batch 1 kr ?_
   obtain ⟨r4, e_r4, h⟩ := bind_some h
   refine Runs.callBK 39 131 [] [.agg [.i r3.1.fKind, .i r3.1.fGen, .i r3.1.fMan.fGen, .i r3.1.fMan.fSize, .i r3.1.fMan.fLen, .own 2031621, .i r3.1.fWant, .i r3.1.fDone, .i r3.1.fI, .own 2031625]] [.agg ((Msg.enc r3.1).map .t)] (.one (.b r4)) rfl rfl kr kr kr kr kr (spec_MsgOk_ok u r3.1 r4 e_r4) (by simp [V.plain, V.plains, C.plain, T.sc]) kr ?_
   refine Runs.alln ?_
   exact ⟨(p0, r3, !r4), h, Le.of (mo := []) (mr := [(459269, 2031621), (459273, 2031625)]) kr kr kr kr⟩
 ·refine Wp.rg [] [] ?_
  refine Runs.batch 3 kr ?_
  rcases tf (!r1.2.2) with hc | hc
  ·have h := cond_t h hc
   refine Runs.known 21 (v := true) kr hc ?_
   refine Runs.alln ?_
   exact ⟨(p0, r1, true), h, Le.of (mo := []) (mr := []) kr kr kr kr⟩
  have h := cond_f h hc
  refine Runs.known 21 (v := false) kr hc ?_
  refine Runs.batch 1 kr ?_
  refine Runs.lenT (y := .s p0) (e := 5) (eInt .u8) p0 1 rfl rfl rfl kr kr kr kr kr ?_
  refine Runs.alln ?_
  exact ⟨(p0, r1, decide (((p0.length : Int)) > 400)), h, Le.of (mo := []) (mr := []) kr kr kr kr⟩
theorem spec_InSet_ok (u : Nat) (p0 : Int) (p1 : Int) (r : Bool) (h : spec_InSet u p0 p1 = some r) : CallOK Tryz.prog 124 [.one (.i p0), .one (.i p1)] (.one (.b r)) [] := by
 unfold spec_InSet at h
 refine CallOK.of_bodyK (fn := Tryz.f124) (m := false) [.i p0, .i p1] kr rfl kr kr kr kr kr ?_
 refine Wp.sag ⟨[(0, .i p0), (1, .i p1), (4, .b false)], [], []⟩ ?_
 refine Wp.sb 1 ?_
 obtain ⟨r1, e_r1, h⟩ := bind_some h
 refine Runs.ck 6 [.i p0] (spec_SetOk_ok u p0 r1 e_r1) ?_
 refine Runs.batch 1 kr ?_
 rcases tf (r1) with hc | hc
 ·have h := cond_t h hc
  refine Runs.known 7 (v := true) kr hc ?_
  refine Runs.batch 1 kr ?_
  obtain ⟨r2, e_r2, h⟩ := bind_some h
  refine Runs.ck 9 [.i p1, .i 0, .i 39] (spec_l1In_ok u p1 0 39 r2 e_r2) ?_
  refine Runs.batch 2 kr ?_
  rcases tf (r2) with hc | hc
  ·have h := cond_t h hc
   refine Runs.known 11 (v := true) kr hc ?_
   refine Runs.batch 2 kr ?_
   obtain ⟨_, e_3, h⟩ := bind_some h
   refine Runs.num .shr (.int .i64 p0) (.int .i64 p1) (.int .i64 (bShr .i64 p0 p1)) rfl kr kr kr kr (bin_shr _ _ _ _ _ (chk_some e_3)) ?_
   refine Runs.allf ⟨[(4, .b ((bAnd .i64 (bShr .i64 p0 p1) 1) == 1))], [], []⟩ ?_
   refine Wp.ret ?_
   obtain rfl := oi h
   exact RetK [.b ((bAnd .i64 (bShr .i64 p0 p1) 1) == 1)] _ [] kr kr (.refl _) .nil
  have h := cond_f h hc
  refine Runs.known 11 (v := false) kr hc ?_
  refine Runs.allf ⟨[(4, .b false)], [], []⟩ ?_
  refine Wp.ret ?_
  obtain rfl := oi h
  exact RetK [.b false] _ [] kr kr (.refl _) .nil
 have h := cond_f h hc
 refine Runs.known 7 (v := false) kr hc ?_
 refine Runs.allf ⟨[(4, .b false)], [], []⟩ ?_
 refine Wp.ret ?_
 obtain rfl := oi h
 exact RetK [.b false] _ [] kr kr (.refl _) .nil
theorem spec_CountSet_ok (u : Nat) (p0 : Int) (r : Int) (h : spec_CountSet u p0 = some r) : CallOK Tryz.prog 84 [.one (.i p0)] (.one (.i r)) [] := by
 unfold spec_CountSet at h
 refine CallOK.of_bodyK (fn := Tryz.f84) (m := false) [.i p0] kr rfl kr kr kr kr kr ?_
 refine Wp.sag ⟨[(0, .i p0), (2, .i 0)], [], []⟩ ?_
 refine Wp.sag ⟨[(0, .i p0), (2, .i 0), (3, .i 0)], [], []⟩ ?_
 refine Wp.seqJ (α := Int) (fun a => ⟨[(2, .i 0), (3, .i a)], [], []⟩) (fun a => spec_CountSet_j1 u a = some r) ?_ ?_
 ·rintro x9 h
  change spec_CountSet_j1 u x9 = some r at h
  unfold spec_CountSet_j1 at h
  refine Wp.sag ⟨[(2, .i x9)], [], []⟩ ?_
  refine Wp.ret ?_
  obtain rfl := oi h
  exact RetK [.i x9] _ [] kr kr (.refl _) .nil
 ·refine Wp.sag ⟨[(0, .i p0), (2, .i 0), (3, .i 0), (4, .i 0)], [], []⟩ ?_
  refine Wp.block ?_
  refine Wp.loopF (α := Int × Int × Int) (fun a => ⟨[(0, .i a.1), (2, .i 0), (3, .i a.2.1), (4, .i a.2.2)], [], []⟩) (fun k_spec_CountSet_l2 a => spec_CountSet_l2 u k_spec_CountSet_l2 a.1 a.2.1 a.2.2 = some r) ?_ ?_ u (p0, 0, 0) h (Le.of (mo := []) (mr := []) kr kr kr kr)
  ·intro a h; unfold spec_CountSet_l2 at h; cases h
  ·rintro k_spec_CountSet_l2 ⟨p0, x3, x4⟩ h
   change spec_CountSet_l2 u (k_spec_CountSet_l2 + 1) p0 x3 x4 = some r at h
   rw [spec_CountSet_l2] at h
   refine Wp.seq ?_
   refine Wp.sag ⟨[(0, .i p0), (2, .i 0), (3, .i x3), (4, .i x4), (6, .b (decide (x4 < 40)))], [], []⟩ ?_
   refine Wp.c2 h (fun h => ?_) (fun h => ?_)
   ·refine Wp.sk ?_
    refine Wp.seqJ (α := Int × Int × Int) (fun a => ⟨[(0, .i a.1), (2, .i 0), (3, .i a.2.1), (4, .i a.2.2)], [], []⟩) (fun a => spec_CountSet_j3 u (fun z0 z1 z2 => spec_CountSet_l2 u k_spec_CountSet_l2 z0 z1 z2) a.1 a.2.1 a.2.2 = some r) ?_ ?_
    ·rintro ⟨p0, x8, x4⟩ h
     change spec_CountSet_j3 u (fun z0 z1 z2 => spec_CountSet_l2 u k_spec_CountSet_l2 z0 z1 z2) p0 x8 x4 = some r at h
     unfold spec_CountSet_j3 at h
     refine Wp.rg [] [] ?_
     refine Runs.alln ?_
     exact ⟨(p0, x8, bAdd .i64 x4 1), h, Le.of (mo := []) (mr := []) kr kr kr kr⟩
    ·refine Wp.block ?_
     refine Wp.sb 2 ?_
     obtain ⟨r7, e_r7, h⟩ := bind_some h
     refine Runs.ck 11 [.i p0, .i x4] (spec_InSet_ok u p0 x4 r7 e_r7) ?_
     refine Runs.done ?_
     refine thenN ?_
     refine Wp.fg ⟨[(0, .i p0), (2, .i 0), (3, .i x3), (4, .i x4), (11, .b r7)], [], []⟩ ?_
     refine Wp.c2 h (fun h => ?_) (fun h => ?_)
     ·refine Wp.rg [] [] ?_
      refine Runs.all kr ?_
      refine blkN ?_
      refine thenN ?_
      exact ⟨(p0, bAdd .i64 x3 1, x4), h, Le.of (mo := []) (mr := []) kr kr kr kr⟩
     refine Wp.skip ?_
     refine blkN ?_
     refine thenN ?_
     exact ⟨(p0, x3, x4), h, Le.of (mo := []) (mr := []) kr kr kr kr⟩
   refine Wp.exit ?_
   refine thenE ?_
   refine thenE ?_
   refine blkE ?_
   refine thenN ?_
   exact ⟨x3, h, Le.of (mo := []) (mr := []) kr kr kr kr⟩
theorem spec_MsgText_ok (u : Nat) (p0 : Msg) (r : ByteArray) (h : spec_MsgText u p0 = some r) : CallOK Tryz.prog 91 [.agg [.i p0.fKind, .i p0.fGen, .i p0.fMan.fGen, .i p0.fMan.fSize, .i p0.fMan.fLen, .t (.sl 2 (p0.fMan.fSums.map Sum.enc)), .i p0.fWant, .i p0.fDone, .i p0.fI, .s p0.fB]] (.one (.t (.str r))) [] := by
 unfold spec_MsgText at h
 refine CallOK.of_bodyK (fn := Tryz.f91) (m := false) [.agg ((Msg.enc p0).map .t)] kr rfl kr kr kr kr kr ?_
 refine Wp.sag ⟨[(1, .obj 1 0), (2, .t (.str ((ByteArray.mk #[]))))], [(1, ((Msg.enc p0).map .t))], []⟩ ?_
 refine Wp.seq ?_
 refine Wp.sb 1 ?_
 obtain ⟨r1, e_r1, h⟩ := bind_some h
 refine Runs.ck 4 [.agg ((Msg.enc p0).map .t)] (spec_MsgOk_ok u p0 r1 e_r1) ?_
 refine Runs.allf ⟨[(1, .obj 1 0), (2, .t (.str ((ByteArray.mk #[])))), (5, .b (!r1))], [(1, ((Msg.enc p0).map .t))], []⟩ ?_
 refine Wp.c2 h (fun h => ?_) (fun h => ?_)
 ·refine Wp.sag ⟨[(1, .obj 1 0), (2, .t (.str ((ByteArray.mk #[]))))], [(1, ((Msg.enc p0).map .t))], []⟩ ?_
  refine Wp.ret ?_
  refine thenR ?_
  obtain rfl := oi h
  exact RetK [.t (.str ((ByteArray.mk #[])))] _ [] kr kr (.refl _) .nil
 refine Wp.sk ?_
 refine Wp.seq ?_
 refine Wp.sag ⟨[(1, .obj 1 0), (2, .t (.str ((ByteArray.mk #[])))), (7, .i p0.fKind)], [(1, ((Msg.enc p0).map .t))], []⟩ ?_
 refine Wp.block ?_
 refine Wp.sag ⟨[(1, .obj 1 0), (2, .t (.str ((ByteArray.mk #[])))), (7, .i p0.fKind), (8, .b (p0.fKind == 1))], [(1, ((Msg.enc p0).map .t))], []⟩ ?_
 refine Wp.c2 h (fun h => ?_) (fun h => ?_)
 ·refine Wp.sb 3 ?_
  obtain ⟨r2, e_r2, h⟩ := bind_some h
  refine Runs.ck 13 [.i p0.fMan.fGen] (spec_NumText_ok u p0.fMan.fGen r2 e_r2) ?_
  obtain ⟨_, e_3, h⟩ := bind_some h
  refine Runs.cat ((ByteArray.mk #[109, 97, 110, 32])) r2 rfl kr kr kr kr (of_decide_eq_true (chk_some e_3)) ?_
  refine Runs.allf ⟨[(1, .obj 1 0), (2, .t (.str (((ByteArray.mk #[109, 97, 110, 32])) ++ r2)))], [(1, ((Msg.enc p0).map .t))], []⟩ ?_
  refine Wp.ret ?_
  refine blkR ?_
  refine thenR ?_
  obtain rfl := oi h
  exact RetK [.t (.str (((ByteArray.mk #[109, 97, 110, 32])) ++ r2))] _ [] kr kr (.refl _) .nil
 refine Wp.sag ⟨[(1, .obj 1 0), (2, .t (.str ((ByteArray.mk #[])))), (7, .i p0.fKind), (15, .b (p0.fKind == 2))], [(1, ((Msg.enc p0).map .t))], []⟩ ?_
 refine Wp.c2 h (fun h => ?_) (fun h => ?_)
 ·refine Wp.seq ?_
  refine Wp.regionA (pOf []) (rhoOf [(1, .obj 1), (17, .obj 1), (18, .frz), (19, .frz), (20, .frz), (21, .frz), (22, .obj 1), (23, .frz), (24, .frz), (25, .frz), (26, .frz), (27, .frz), (28, .obj 1), (29, .frz), (30, .frz), (31, .frz), (32, .frz)]) kr kr ?_
  refine Runs.batch 2 kr ?_
  obtain ⟨r4, e_r4, h⟩ := bind_some h
  refine Runs.ck 19 [.i p0.fGen] (spec_NumText_ok u p0.fGen r4 e_r4) ?_
  obtain ⟨_, e_5, h⟩ := bind_some h
  refine Runs.cat ((ByteArray.mk #[119, 97, 110, 116, 32])) r4 rfl kr kr kr kr (of_decide_eq_true (chk_some e_5)) ?_
  obtain ⟨_, e_6, h⟩ := bind_some h
  refine Runs.cat (((ByteArray.mk #[119, 97, 110, 116, 32])) ++ r4) ((ByteArray.mk #[32])) rfl kr kr kr kr (of_decide_eq_true (chk_some e_6)) ?_
  refine Runs.batch 2 kr ?_
  obtain ⟨r7, e_r7, h⟩ := bind_some h
  refine Runs.ck 24 [.i p0.fWant] (spec_CountSet_ok u p0.fWant r7 e_r7) ?_
  obtain ⟨r8, e_r8, h⟩ := bind_some h
  refine Runs.ck 25 [.i r7] (spec_NumText_ok u r7 r8 e_r8) ?_
  obtain ⟨_, e_9, h⟩ := bind_some h
  refine Runs.cat ((((ByteArray.mk #[119, 97, 110, 116, 32])) ++ r4) ++ ((ByteArray.mk #[32]))) r8 rfl kr kr kr kr (of_decide_eq_true (chk_some e_9)) ?_
  obtain ⟨_, e_10, h⟩ := bind_some h
  refine Runs.cat (((((ByteArray.mk #[119, 97, 110, 116, 32])) ++ r4) ++ ((ByteArray.mk #[32]))) ++ r8) ((ByteArray.mk #[32])) rfl kr kr kr kr (of_decide_eq_true (chk_some e_10)) ?_
  refine Runs.batch 2 kr ?_
  obtain ⟨r11, e_r11, h⟩ := bind_some h
  refine Runs.ck 30 [.i p0.fDone] (spec_CountSet_ok u p0.fDone r11 e_r11) ?_
  obtain ⟨r12, e_r12, h⟩ := bind_some h
  refine Runs.ck 31 [.i r11] (spec_NumText_ok u r11 r12 e_r12) ?_
  obtain ⟨_, e_13, h⟩ := bind_some h
  refine Runs.cat ((((((ByteArray.mk #[119, 97, 110, 116, 32])) ++ r4) ++ ((ByteArray.mk #[32]))) ++ r8) ++ ((ByteArray.mk #[32]))) r12 rfl kr kr kr kr (of_decide_eq_true (chk_some e_13)) ?_
  refine Runs.allf ⟨[(1, .obj 1 0), (2, .t (.str (((((((ByteArray.mk #[119, 97, 110, 116, 32])) ++ r4) ++ ((ByteArray.mk #[32]))) ++ r8) ++ ((ByteArray.mk #[32]))) ++ r12)))], [(1, ((Msg.enc p0).map .t))], []⟩ ?_
  refine Wp.ret ?_
  refine blkR ?_
  refine thenR ?_
  obtain rfl := oi h
  exact RetK [.t (.str (((((((ByteArray.mk #[119, 97, 110, 116, 32])) ++ r4) ++ ((ByteArray.mk #[32]))) ++ r8) ++ ((ByteArray.mk #[32]))) ++ r12))] _ [] kr kr (.refl _) .nil
 refine Wp.sag ⟨[(1, .obj 1 0), (2, .t (.str ((ByteArray.mk #[])))), (33, .b (p0.fKind == 3))], [(1, ((Msg.enc p0).map .t))], []⟩ ?_
 refine Wp.c2 h (fun h => ?_) (fun h => ?_)
 ·refine Wp.seq ?_
  refine Wp.regionA (pOf []) (rhoOf [(1, .obj 1), (35, .obj 1), (36, .frz), (37, .frz), (38, .frz), (39, .frz), (40, .obj 1), (41, .frz), (42, .frz), (43, .frz)]) kr kr ?_
  refine Runs.batch 2 kr ?_
  obtain ⟨r14, e_r14, h⟩ := bind_some h
  refine Runs.ck 37 [.i p0.fGen] (spec_NumText_ok u p0.fGen r14 e_r14) ?_
  obtain ⟨_, e_15, h⟩ := bind_some h
  refine Runs.cat ((ByteArray.mk #[112, 97, 114, 116, 32])) r14 rfl kr kr kr kr (of_decide_eq_true (chk_some e_15)) ?_
  obtain ⟨_, e_16, h⟩ := bind_some h
  refine Runs.cat (((ByteArray.mk #[112, 97, 114, 116, 32])) ++ r14) ((ByteArray.mk #[32])) rfl kr kr kr kr (of_decide_eq_true (chk_some e_16)) ?_
  refine Runs.batch 2 kr ?_
  obtain ⟨r17, e_r17, h⟩ := bind_some h
  refine Runs.ck 42 [.i p0.fI] (spec_NumText_ok u p0.fI r17 e_r17) ?_
  obtain ⟨_, e_18, h⟩ := bind_some h
  refine Runs.cat ((((ByteArray.mk #[112, 97, 114, 116, 32])) ++ r14) ++ ((ByteArray.mk #[32]))) r17 rfl kr kr kr kr (of_decide_eq_true (chk_some e_18)) ?_
  refine Runs.allf ⟨[(1, .obj 1 0), (2, .t (.str (((((ByteArray.mk #[112, 97, 114, 116, 32])) ++ r14) ++ ((ByteArray.mk #[32]))) ++ r17)))], [(1, ((Msg.enc p0).map .t))], []⟩ ?_
  refine Wp.ret ?_
  refine blkR ?_
  refine thenR ?_
  obtain rfl := oi h
  exact RetK [.t (.str (((((ByteArray.mk #[112, 97, 114, 116, 32])) ++ r14) ++ ((ByteArray.mk #[32]))) ++ r17))] _ [] kr kr (.refl _) .nil
 refine Wp.skip ?_
 refine blkN ?_
 refine thenN ?_
 refine Wp.sb 2 ?_
 obtain ⟨r19, e_r19, h⟩ := bind_some h
 refine Runs.ck 46 [.i p0.fGen] (spec_NumText_ok u p0.fGen r19 e_r19) ?_
 obtain ⟨_, e_20, h⟩ := bind_some h
 refine Runs.cat ((ByteArray.mk #[98, 101, 97, 116, 32])) r19 rfl kr kr kr kr (of_decide_eq_true (chk_some e_20)) ?_
 refine Runs.allf ⟨[(2, .t (.str (((ByteArray.mk #[98, 101, 97, 116, 32])) ++ r19)))], [], []⟩ ?_
 refine Wp.ret ?_
 obtain rfl := oi h
 exact RetK [.t (.str (((ByteArray.mk #[98, 101, 97, 116, 32])) ++ r19))] _ [] kr kr (.refl _) .nil
theorem spec_PacketText_ok (u : Nat) (p0 : Packet) (r : ByteArray) (h : spec_PacketText u p0 = some r) : CallOK Tryz.prog 54 [.agg [.i p0.fFrom, .i p0.fTo, .s p0.fB]] (.one (.t (.str r))) [] := by
 unfold spec_PacketText at h
 refine CallOK.of_bodyK (fn := Tryz.f54) (m := false) [.agg ((Packet.enc p0).map .t)] kr rfl kr kr kr kr kr ?_
 refine Wp.sag ⟨[(1, .obj 1 0), (2, .t (.str ((ByteArray.mk #[]))))], [(1, ((Packet.enc p0).map .t))], []⟩ ?_
 refine Wp.seq ?_
 refine Wp.regionA (pOf []) (rhoOf [(1, .obj 1), (6, .obj 1), (7, .frz), (8, .frz), (9, .frz), (10, .obj 1), (11, .frz), (12, .frz), (13, .frz), (14, .frz)]) kr kr ?_
 refine Runs.batch 2 kr ?_
 obtain ⟨r1, e_r1, h⟩ := bind_some h
 refine Runs.ck 8 [.i p0.fFrom] (spec_NumText_ok u p0.fFrom r1 e_r1) ?_
 obtain ⟨_, e_2, h⟩ := bind_some h
 refine Runs.cat r1 ((ByteArray.mk #[62])) rfl kr kr kr kr (of_decide_eq_true (chk_some e_2)) ?_
 refine Runs.batch 2 kr ?_
 obtain ⟨r3, e_r3, h⟩ := bind_some h
 refine Runs.ck 12 [.i p0.fTo] (spec_NumText_ok u p0.fTo r3 e_r3) ?_
 obtain ⟨_, e_4, h⟩ := bind_some h
 refine Runs.cat (r1 ++ ((ByteArray.mk #[62]))) r3 rfl kr kr kr kr (of_decide_eq_true (chk_some e_4)) ?_
 obtain ⟨_, e_5, h⟩ := bind_some h
 refine Runs.cat ((r1 ++ ((ByteArray.mk #[62]))) ++ r3) ((ByteArray.mk #[32])) rfl kr kr kr kr (of_decide_eq_true (chk_some e_5)) ?_
 refine Runs.allf ⟨[(1, .obj 1 0), (2, .t (.str ((ByteArray.mk #[])))), (3, .t (.str (((r1 ++ ((ByteArray.mk #[62]))) ++ r3) ++ ((ByteArray.mk #[32])))))], [(1, ((Packet.enc p0).map .t))], []⟩ ?_
 refine Wp.sb 2 ?_
 obtain ⟨r6, e_r6, h⟩ := bind_some h
 refine Runs.ck 18 [.s p0.fB] (spec_GetMsg_ok u p0.fB r6 e_r6) ?_
 refine Runs.allf ⟨[(2, .t (.str ((ByteArray.mk #[])))), (3, .t (.str (((r1 ++ ((ByteArray.mk #[62]))) ++ r3) ++ ((ByteArray.mk #[32]))))), (4, .obj 4 0), (5, .b r6.2)], [(4, [.i r6.1.fKind, .i r6.1.fGen, .i r6.1.fMan.fGen, .i r6.1.fMan.fSize, .i r6.1.fMan.fLen, .own 1179653, .i r6.1.fWant, .i r6.1.fDone, .i r6.1.fI, .own 1179657])], [(1179653, .live 189 2 (r6.1.fMan.fSums.map Sum.enc)), (1179657, .live 5 1 (r6.1.fB.map (eInt .u8)))]⟩ ?_
 refine Wp.seq ?_
 refine Wp.sag ⟨[(2, .t (.str ((ByteArray.mk #[])))), (3, .t (.str (((r1 ++ ((ByteArray.mk #[62]))) ++ r3) ++ ((ByteArray.mk #[32]))))), (4, .obj 4 0), (22, .b (!r6.2))], [(4, [.i r6.1.fKind, .i r6.1.fGen, .i r6.1.fMan.fGen, .i r6.1.fMan.fSize, .i r6.1.fMan.fLen, .own 1179653, .i r6.1.fWant, .i r6.1.fDone, .i r6.1.fI, .own 1179657])], [(1179653, .live 189 2 (r6.1.fMan.fSums.map Sum.enc)), (1179657, .live 5 1 (r6.1.fB.map (eInt .u8)))]⟩ ?_
 refine Wp.c2 h (fun h => ?_) (fun h => ?_)
 ·refine Wp.sb 1 ?_
  obtain ⟨_, e_7, h⟩ := bind_some h
  refine Runs.cat (((r1 ++ ((ByteArray.mk #[62]))) ++ r3) ++ ((ByteArray.mk #[32]))) ((ByteArray.mk #[63])) rfl kr kr kr kr (of_decide_eq_true (chk_some e_7)) ?_
  refine Runs.allf ⟨[(2, .t (.str ((((r1 ++ ((ByteArray.mk #[62]))) ++ r3) ++ ((ByteArray.mk #[32]))) ++ ((ByteArray.mk #[63]))))), (3, .t (.str (((r1 ++ ((ByteArray.mk #[62]))) ++ r3) ++ ((ByteArray.mk #[32]))))), (4, .obj 4 0)], [(4, [.i r6.1.fKind, .i r6.1.fGen, .i r6.1.fMan.fGen, .i r6.1.fMan.fSize, .i r6.1.fMan.fLen, .own 1179653, .i r6.1.fWant, .i r6.1.fDone, .i r6.1.fI, .own 1179657])], [(1179653, .live 189 2 (r6.1.fMan.fSums.map Sum.enc)), (1179657, .live 5 1 (r6.1.fB.map (eInt .u8)))]⟩ ?_
  refine Wp.ret ?_
  refine thenR ?_
  obtain rfl := oi h
  exact RetK [.t (.str ((((r1 ++ ((ByteArray.mk #[62]))) ++ r3) ++ ((ByteArray.mk #[32]))) ++ ((ByteArray.mk #[63]))))] _ [] kr kr (.refl _) .nil
 refine Wp.sk ?_
 refine Wp.sb 2 ?_
 obtain ⟨r8, e_r8, h⟩ := bind_some h
 refine Runs.callBK 27 91 [] [.agg [.i r6.1.fKind, .i r6.1.fGen, .i r6.1.fMan.fGen, .i r6.1.fMan.fSize, .i r6.1.fMan.fLen, .own 1179653, .i r6.1.fWant, .i r6.1.fDone, .i r6.1.fI, .own 1179657]] [.agg ((Msg.enc r6.1).map .t)] (.one (.t (.str r8))) rfl rfl kr kr kr kr kr (spec_MsgText_ok u r6.1 r8 e_r8) (by simp [V.plain, V.plains, C.plain, T.sc]) kr ?_
 obtain ⟨_, e_9, h⟩ := bind_some h
 refine Runs.cat (((r1 ++ ((ByteArray.mk #[62]))) ++ r3) ++ ((ByteArray.mk #[32]))) r8 rfl kr kr kr kr (of_decide_eq_true (chk_some e_9)) ?_
 refine Runs.allf ⟨[(2, .t (.str ((((r1 ++ ((ByteArray.mk #[62]))) ++ r3) ++ ((ByteArray.mk #[32]))) ++ r8)))], [], []⟩ ?_
 refine Wp.ret ?_
 obtain rfl := oi h
 exact RetK [.t (.str ((((r1 ++ ((ByteArray.mk #[62]))) ++ r3) ++ ((ByteArray.mk #[32]))) ++ r8))] _ [] kr kr (.refl _) .nil
theorem spec_NetText_ok (u : Nat) (p0 : World) (r : ByteArray) (h : spec_NetText u p0 = some r) : CallOK Tryz.prog 21 [.agg [.i p0.fC.fSize, .i p0.fC.fWindow, .i p0.fC.fSuspect, .i p0.fC.fForget, .t (.sl 1 (p0.fT.fUp.map (eInt .i64))), .s p0.fNew, .t (.sl 1 (p0.fOld.map Image.enc)), .t (.sl 12 (p0.fN.map Node.enc)), .t (.sl 6 (p0.fD.map Disk.enc)), .t (.sl 3 (p0.fNet.map Packet.enc)), .t (.sl 3 (p0.fLog.map Sent.enc)), .i p0.fLost]] (.one (.t (.str r))) [] := by
 unfold spec_NetText at h
 refine CallOK.of_bodyK (fn := Tryz.f21) (m := false) [.agg ((World.enc p0).map .t)] kr rfl kr kr kr kr kr ?_
 refine Wp.sag ⟨[(1, .obj 1 0), (2, .t (.str ((ByteArray.mk #[]))))], [(1, ((World.enc p0).map .t))], []⟩ ?_
 refine Wp.sag ⟨[(1, .obj 1 0), (2, .t (.str ((ByteArray.mk #[])))), (3, .t (.str ((ByteArray.mk #[]))))], [(1, ((World.enc p0).map .t))], []⟩ ?_
 refine Wp.seqJ (α := ByteArray × World) (fun a => ⟨[(1, .obj 1 0), (2, .t (.str ((ByteArray.mk #[])))), (3, .t (.str a.1))], [(1, ((World.enc a.2).map .t))], []⟩) (fun a => spec_NetText_j1 u a.1 a.2 = some r) ?_ ?_
 ·rintro ⟨x10, p0⟩ h
  change spec_NetText_j1 u x10 p0 = some r at h
  unfold spec_NetText_j1 at h
  refine Wp.seq ?_
  refine Wp.sb 2 ?_
  refine Runs.lenT (y := .t (.sl 3 (p0.fNet.map Packet.enc))) (e := 97) Packet.enc p0.fNet 3 rfl rfl rfl kr kr kr kr kr ?_
  refine Runs.allf ⟨[(2, .t (.str ((ByteArray.mk #[])))), (3, .t (.str x10)), (27, .b (((p0.fNet.length : Int)) == 0))], [], []⟩ ?_
  refine Wp.c2 h (fun h => ?_) (fun h => ?_)
  ·refine Wp.sag ⟨[(2, .t (.str ((ByteArray.mk #[45])))), (3, .t (.str x10))], [], []⟩ ?_
   refine Wp.ret ?_
   refine thenR ?_
   obtain rfl := oi h
   exact RetK [.t (.str ((ByteArray.mk #[45])))] _ [] kr kr (.refl _) .nil
  refine Wp.sk ?_
  refine Wp.sag ⟨[(2, .t (.str x10))], [], []⟩ ?_
  refine Wp.ret ?_
  obtain rfl := oi h
  exact RetK [.t (.str x10)] _ [] kr kr (.refl _) .nil
 ·refine Wp.sag ⟨[(1, .obj 1 0), (2, .t (.str ((ByteArray.mk #[])))), (3, .t (.str ((ByteArray.mk #[])))), (4, .i 0)], [(1, ((World.enc p0).map .t))], []⟩ ?_
  refine Wp.block ?_
  refine Wp.loopF (α := ByteArray × Int × World) (fun a => ⟨[(1, .obj 1 0), (2, .t (.str ((ByteArray.mk #[])))), (3, .t (.str a.1)), (4, .i a.2.1)], [(1, ((World.enc a.2.2).map .t))], []⟩) (fun k_spec_NetText_l2 a => spec_NetText_l2 u k_spec_NetText_l2 a.1 a.2.1 a.2.2 = some r) ?_ ?_ u ((ByteArray.mk #[]), 0, p0) h (Le.of (mo := []) (mr := []) kr kr kr kr)
  ·intro a h; unfold spec_NetText_l2 at h; cases h
  ·rintro k_spec_NetText_l2 ⟨x3, x4, p0⟩ h
   change spec_NetText_l2 u (k_spec_NetText_l2 + 1) x3 x4 p0 = some r at h
   rw [spec_NetText_l2] at h
   refine Wp.seq ?_
   refine Wp.sb 3 ?_
   refine Runs.lenT (y := .t (.sl 3 (p0.fNet.map Packet.enc))) (e := 97) Packet.enc p0.fNet 3 rfl rfl rfl kr kr kr kr kr ?_
   refine Runs.allf ⟨[(1, .obj 1 0), (2, .t (.str ((ByteArray.mk #[])))), (3, .t (.str x3)), (4, .i x4), (9, .b (decide (x4 < ((p0.fNet.length : Int)))))], [(1, ((World.enc p0).map .t))], []⟩ ?_
   refine Wp.c2 h (fun h => ?_) (fun h => ?_)
   ·refine Wp.sk ?_
    refine Wp.seq ?_
    refine Wp.block ?_
    refine Wp.seqJ (α := ByteArray × Int × World) (fun a => ⟨[(1, .obj 1 0), (2, .t (.str ((ByteArray.mk #[])))), (3, .t (.str a.1)), (4, .i a.2.1)], [(1, ((World.enc a.2.2).map .t))], []⟩) (fun a => spec_NetText_j3 u (fun z0 z1 z2 => spec_NetText_l2 u k_spec_NetText_l2 z0 z1 z2) a.1 a.2.1 a.2.2 = some r) ?_ ?_
    ·rintro ⟨x7, x4, p0⟩ h
     change spec_NetText_j3 u (fun z0 z1 z2 => spec_NetText_l2 u k_spec_NetText_l2 z0 z1 z2) x7 x4 p0 = some r at h
     unfold spec_NetText_j3 at h
     refine Wp.rg [] [] ?_
     refine Runs.batch 4 kr ?_
     obtain ⟨y8, e_y8, h⟩ := bind_some h
     refine Runs.idxT (e := 97) (kk := .i64) (sz := 3) Packet.enc p0.fNet x4 rfl kr kr kr kr kr kr e_y8 ?_
     refine Runs.batch 1 kr ?_
     obtain ⟨r9, e_r9, h⟩ := bind_some h
     refine Runs.ck 22 [.agg ((Packet.enc y8).map .t)] (spec_PacketText_ok u y8 r9 e_r9) ?_
     obtain ⟨_, e_10, h⟩ := bind_some h
     refine Runs.cat x7 r9 rfl kr kr kr kr (of_decide_eq_true (chk_some e_10)) ?_
     refine Runs.all kr ?_
     refine blkN ?_
     refine thenN ?_
     refine Wp.rg [] [] ?_
     refine Runs.alln ?_
     exact ⟨(x7 ++ r9, bAdd .i64 x4 1, p0), h, Le.of (mo := []) (mr := []) kr kr kr kr⟩
    ·refine Wp.sag ⟨[(1, .obj 1 0), (2, .t (.str ((ByteArray.mk #[])))), (3, .t (.str x3)), (4, .i x4), (13, .b (decide (x4 > 0)))], [(1, ((World.enc p0).map .t))], []⟩ ?_
     refine Wp.c2 h (fun h => ?_) (fun h => ?_)
     ·refine Wp.rg [] [] ?_
      refine Runs.batch 1 kr ?_
      obtain ⟨_, e_7, h⟩ := bind_some h
      refine Runs.cat x3 ((ByteArray.mk #[59, 32])) rfl kr kr kr kr (of_decide_eq_true (chk_some e_7)) ?_
      refine Runs.alln ?_
      exact ⟨(x3 ++ ((ByteArray.mk #[59, 32])), x4, p0), h, Le.of (mo := []) (mr := []) kr kr kr kr⟩
     refine Wp.sk ?_
     exact ⟨(x3, x4, p0), h, Le.of (mo := []) (mr := []) kr kr kr kr⟩
   refine Wp.exit ?_
   refine thenE ?_
   refine thenE ?_
   refine blkE ?_
   refine thenN ?_
   exact ⟨(x3, p0), h, Le.of (mo := []) (mr := []) kr kr kr kr⟩
theorem impl_within_ok (u : Nat) (p0 : Int) (p1 : Int) (p2 : Int) (r : Bool) (h : impl_within u p0 p1 p2 = some r) : CallOK Tryz.prog 100 [.one (.i p0), .one (.i p1), .one (.i p2)] (.one (.b r)) [] := by
 unfold impl_within at h
 refine CallOK.of_bodyK (fn := Tryz.f100) (m := false) [.i p0, .i p1, .i p2] kr rfl kr kr kr kr kr ?_
 refine Wp.sag ⟨[(0, .i p0), (1, .i p1), (2, .i p2), (6, .b false)], [], []⟩ ?_
 refine Wp.sb 4 ?_
 rcases tf (decide (p0 ≥ p1)) with hc | hc
 ·have h := cond_t h hc
  refine Runs.known 10 (v := true) kr hc ?_
  refine Runs.allf ⟨[(6, .b (decide (p0 ≤ p2)))], [], []⟩ ?_
  refine Wp.ret ?_
  obtain rfl := oi h
  exact RetK [.b (decide (p0 ≤ p2))] _ [] kr kr (.refl _) .nil
 have h := cond_f h hc
 refine Runs.known 10 (v := false) kr hc ?_
 refine Runs.allf ⟨[(6, .b false)], [], []⟩ ?_
 refine Wp.ret ?_
 obtain rfl := oi h
 exact RetK [.b false] _ [] kr kr (.refl _) .nil
theorem impl_readVar_ok (u : Nat) (p0 : List Int) (p1 : Int) (p2 : Int) (r : Int × Int × Bool) (h : impl_readVar u p0 p1 p2 = some r) : CallOK Tryz.prog 172 [.one (.s p0), .one (.i p1), .one (.i p2)] (.tup [.one (.i r.1), .one (.i r.2.1), .one (.b r.2.2)]) [] := by
 unfold impl_readVar at h
 refine CallOK.of_bodyK (fn := Tryz.f172) (m := false) [.s p0, .i p1, .i p2] kr rfl kr kr kr kr kr ?_
 refine Wp.sag ⟨[(0, .s p0), (1, .i p1), (2, .i p2), (6, .i 0), (7, .i 0), (8, .b false)], [], []⟩ ?_
 refine Wp.sag ⟨[(0, .s p0), (1, .i p1), (2, .i p2), (6, .i 0), (7, .i 0), (8, .b false), (9, .i 0)], [], []⟩ ?_
 refine Wp.seqJ (α := Unit) (fun a => ⟨[(6, .i 0), (7, .i 0), (8, .b false)], [], []⟩) (fun a => impl_readVar_j1 u = some r) ?_ ?_
 ·rintro ⟨⟩ h
  change impl_readVar_j1 u = some r at h
  unfold impl_readVar_j1 at h
  refine Wp.sag ⟨[(6, .i 0), (7, .i 0), (8, .b false)], [], []⟩ ?_
  refine Wp.ret ?_
  obtain rfl := oi h
  exact RetK [.i 0, .i 0, .b false] _ [] kr kr (.refl _) .nil
 ·refine Wp.sag ⟨[(0, .s p0), (1, .i p1), (6, .i 0), (7, .i 0), (8, .b false), (9, .i 0), (12, .i p2), (13, .i 0)], [], []⟩ ?_
  refine Wp.block ?_
  refine Wp.loopF (α := (List Int) × Int × Int × Int × Int) (fun a => ⟨[(0, .s a.1), (1, .i a.2.1), (6, .i 0), (7, .i 0), (8, .b false), (9, .i a.2.2.1), (12, .i a.2.2.2.1), (13, .i a.2.2.2.2)], [], []⟩) (fun k_impl_readVar_l2 a => impl_readVar_l2 u k_impl_readVar_l2 a.1 a.2.1 a.2.2.1 a.2.2.2.1 a.2.2.2.2 = some r) ?_ ?_ u (p0, p1, 0, p2, 0) h (Le.of (mo := []) (mr := []) kr kr kr kr)
  ·intro a h; unfold impl_readVar_l2 at h; cases h
  ·rintro k_impl_readVar_l2 ⟨p0, p1, x3, p2, x4⟩ h
   change impl_readVar_l2 u (k_impl_readVar_l2 + 1) p0 p1 x3 p2 x4 = some r at h
   rw [impl_readVar_l2] at h
   refine Wp.sag ⟨[(0, .s p0), (1, .i p1), (6, .i 0), (7, .i 0), (8, .b false), (9, .i x3), (12, .i p2), (13, .i x4), (14, .b (decide (x4 < p2)))], [], []⟩ ?_
   refine Wp.seq ?_
   refine Wp.c2 h (fun h => ?_) (fun h => ?_)
   ·refine Wp.sk ?_
    refine Wp.seq ?_
    refine Wp.block ?_
    refine Wp.sag ⟨[(0, .s p0), (1, .i p1), (6, .i 0), (7, .i 0), (8, .b false), (9, .i x3), (10, .i x4), (12, .i p2), (13, .i x4)], [], []⟩ ?_
    refine Wp.seq ?_
    refine Wp.sb 2 ?_
    refine Runs.lenT (y := .s p0) (e := 5) (eInt .u8) p0 1 rfl rfl rfl kr kr kr kr kr ?_
    refine Runs.batch 3 kr ?_
    obtain ⟨r7, e_r7, h⟩ := bind_some h
    refine Runs.ck 22 [.i p1, .i 0, .i (bSub .i64 (bSub .i64 ((p0.length : Int)) 1) x4)] (impl_within_ok u p1 0 (bSub .i64 (bSub .i64 ((p0.length : Int)) 1) x4) r7 e_r7) ?_
    refine Runs.allf ⟨[(0, .s p0), (1, .i p1), (6, .i 0), (7, .i 0), (8, .b false), (9, .i x3), (10, .i x4), (12, .i p2), (13, .i x4), (23, .b (!r7))], [], []⟩ ?_
    refine Wp.c2 h (fun h => ?_) (fun h => ?_)
    ·refine Wp.sag ⟨[(0, .s p0), (1, .i p1), (6, .i 0), (7, .i 0), (8, .b false), (9, .i x3), (10, .i x4), (12, .i p2), (13, .i x4)], [], []⟩ ?_
     refine Wp.ret ?_
     refine thenR ?_
     refine blkR ?_
     refine thenR ?_
     refine thenR ?_
     refine blkR ?_
     refine thenR ?_
     obtain rfl := oi h
     exact RetK [.i 0, .i 0, .b false] _ [] kr kr (.refl _) .nil
    refine Wp.sk ?_
    refine Wp.sb 4 ?_
    obtain ⟨y8, e_y8, h⟩ := bind_some h
    refine Runs.idxT (e := 5) (kk := .i64) (sz := 1) (eInt .u8) p0 (bAdd .i64 p1 x4) rfl kr kr kr kr kr kr e_y8 ?_
    refine Runs.allf ⟨[(0, .s p0), (1, .i p1), (6, .i 0), (7, .i 0), (8, .b false), (9, .i x3), (10, .i x4), (11, .i (IntKind.wrap .i64 y8)), (12, .i p2), (13, .i x4)], [], []⟩ ?_
    refine Wp.sb 5 ?_
    obtain ⟨_, e_9, h⟩ := bind_some h
    refine Runs.num .shl (.int .i64 (bAnd .i64 (IntKind.wrap .i64 y8) 127)) (.int .i64 (bMul .i64 7 x4)) (.int .i64 (bShl .i64 (bAnd .i64 (IntKind.wrap .i64 y8) 127) (bMul .i64 7 x4))) rfl kr kr kr kr (bin_shl _ _ _ _ _ (chk_some e_9)) ?_
    refine Runs.allf ⟨[(0, .s p0), (1, .i p1), (6, .i 0), (7, .i 0), (8, .b false), (9, .i (bOr .i64 x3 (bShl .i64 (bAnd .i64 (IntKind.wrap .i64 y8) 127) (bMul .i64 7 x4)))), (10, .i x4), (11, .i (IntKind.wrap .i64 y8)), (12, .i p2), (13, .i x4)], [], []⟩ ?_
    refine Wp.sag ⟨[(0, .s p0), (1, .i p1), (6, .i 0), (7, .i 0), (8, .b false), (9, .i (bOr .i64 x3 (bShl .i64 (bAnd .i64 (IntKind.wrap .i64 y8) 127) (bMul .i64 7 x4)))), (10, .i x4), (11, .i (IntKind.wrap .i64 y8)), (12, .i p2), (13, .i x4), (39, .b (decide ((IntKind.wrap .i64 y8) < 128)))], [], []⟩ ?_
    refine Wp.c2 h (fun h => ?_) (fun h => ?_)
    ·refine Wp.sb 8 ?_
     rcases tf (x4 == 0) with hc | hc
     ·have h := cond_t h hc
      refine Runs.known 47 (v := true) kr hc ?_
      refine Runs.allf ⟨[(0, .s p0), (1, .i p1), (6, .i (bOr .i64 x3 (bShl .i64 (bAnd .i64 (IntKind.wrap .i64 y8) 127) (bMul .i64 7 x4)))), (7, .i (bAdd .i64 (bAdd .i64 p1 x4) 1)), (8, .b true), (9, .i (bOr .i64 x3 (bShl .i64 (bAnd .i64 (IntKind.wrap .i64 y8) 127) (bMul .i64 7 x4)))), (12, .i p2), (13, .i x4)], [], []⟩ ?_
      refine Wp.ret ?_
      refine blkR ?_
      refine thenR ?_
      refine thenR ?_
      refine blkR ?_
      refine thenR ?_
      obtain rfl := oi h
      exact RetK [.i (bOr .i64 x3 (bShl .i64 (bAnd .i64 (IntKind.wrap .i64 y8) 127) (bMul .i64 7 x4))), .i (bAdd .i64 (bAdd .i64 p1 x4) 1), .b true] _ [] kr kr (.refl _) .nil
     have h := cond_f h hc
     refine Runs.known 47 (v := false) kr hc ?_
     refine Runs.allf ⟨[(0, .s p0), (1, .i p1), (6, .i (bOr .i64 x3 (bShl .i64 (bAnd .i64 (IntKind.wrap .i64 y8) 127) (bMul .i64 7 x4)))), (7, .i (bAdd .i64 (bAdd .i64 p1 x4) 1)), (8, .b (decide ((IntKind.wrap .i64 y8) > 0))), (9, .i (bOr .i64 x3 (bShl .i64 (bAnd .i64 (IntKind.wrap .i64 y8) 127) (bMul .i64 7 x4)))), (12, .i p2), (13, .i x4), (48, .i (IntKind.wrap .i64 y8)), (49, .b (decide ((IntKind.wrap .i64 y8) > 0)))], [], []⟩ ?_
     refine Wp.ret ?_
     refine blkR ?_
     refine thenR ?_
     refine thenR ?_
     refine blkR ?_
     refine thenR ?_
     obtain rfl := oi h
     exact RetK [.i (bOr .i64 x3 (bShl .i64 (bAnd .i64 (IntKind.wrap .i64 y8) 127) (bMul .i64 7 x4))), .i (bAdd .i64 (bAdd .i64 p1 x4) 1), .b (decide ((IntKind.wrap .i64 y8) > 0))] _ [] kr kr (.refl _) .nil
    refine Wp.skip ?_
    refine blkN ?_
    refine thenN ?_
    refine Wp.rg [] [] ?_
    refine Runs.alln ?_
    exact ⟨(p0, p1, bOr .i64 x3 (bShl .i64 (bAnd .i64 (IntKind.wrap .i64 y8) 127) (bMul .i64 7 x4)), p2, bAdd .i64 x4 1), h, Le.of (mo := []) (mr := []) kr kr kr kr⟩
   refine Wp.exit ?_
   refine thenE ?_
   refine thenE ?_
   refine blkE ?_
   refine thenN ?_
   exact ⟨(), h, Le.of (mo := []) (mr := []) kr kr kr kr⟩
theorem impl_GetVar_ok (u : Nat) (p0 : List Int) (p1 : Int) (r : Int × Int × Bool) (h : impl_GetVar u p0 p1 = some r) : CallOK Tryz.prog 133 [.one (.s p0), .one (.i p1)] (.tup [.one (.i r.1), .one (.i r.2.1), .one (.b r.2.2)]) [] := by
 unfold impl_GetVar at h
 refine CallOK.of_bodyK (fn := Tryz.f133) (m := false) [.s p0, .i p1] kr rfl kr kr kr kr kr ?_
 refine Wp.sag ⟨[(0, .s p0), (1, .i p1), (4, .i 0), (5, .i 0), (6, .b false)], [], []⟩ ?_
 refine Wp.sb 2 ?_
 obtain ⟨r1, e_r1, h⟩ := bind_some h
 refine Runs.ck 13 [.s p0, .i p1, .i 6] (impl_readVar_ok u p0 p1 6 r1 e_r1) ?_
 refine Runs.allf ⟨[(4, .i 0), (5, .i 0), (6, .b false), (7, .i r1.1), (8, .i r1.2.1), (9, .b r1.2.2)], [], []⟩ ?_
 refine Wp.seq ?_
 refine Wp.seqJ (α := (Int × Int × Bool) × Bool) (fun a => ⟨[(4, .i 0), (5, .i 0), (6, .b false), (7, .i a.1.1), (8, .i a.1.2.1), (22, .b a.2)], [], []⟩) (fun a => impl_GetVar_j1 u a.1 a.2 = some r) ?_ ?_
 ·rintro ⟨r1, x2⟩ h
  change impl_GetVar_j1 u r1 x2 = some r at h
  unfold impl_GetVar_j1 at h
  refine Wp.c2 h (fun h => ?_) (fun h => ?_)
  ·refine Wp.sag ⟨[(4, .i 0), (5, .i 0), (6, .b false), (7, .i r1.1), (8, .i r1.2.1)], [], []⟩ ?_
   refine Wp.ret ?_
   refine thenR ?_
   obtain rfl := oi h
   exact RetK [.i 0, .i 0, .b false] _ [] kr kr (.refl _) .nil
  refine Wp.sk ?_
  refine Wp.sag ⟨[(4, .i r1.1), (5, .i r1.2.1), (6, .b true)], [], []⟩ ?_
  refine Wp.ret ?_
  obtain rfl := oi h
  exact RetK [.i r1.1, .i r1.2.1, .b true] _ [] kr kr (.refl _) .nil
 ·refine Wp.rg [] [] ?_
  refine Runs.batch 3 kr ?_
  rcases tf (!r1.2.2) with hc | hc
  ·have h := cond_t h hc
   refine Runs.known 19 (v := true) kr hc ?_
   refine Runs.alln ?_
   exact ⟨(r1, true), h, Le.of (mo := []) (mr := []) kr kr kr kr⟩
  have h := cond_f h hc
  refine Runs.known 19 (v := false) kr hc ?_
  refine Runs.alln ?_
  exact ⟨(r1, decide (r1.1 > 1000000000000)), h, Le.of (mo := []) (mr := []) kr kr kr kr⟩
theorem impl_readVars_ok (u : Nat) (p0 : List Int) (p1 : Int) (p2 : Int) (r : (List Int) × Int × Bool) (h : impl_readVars u p0 p1 p2 = some r) : CallOK Tryz.prog 174 [.one (.s p0), .one (.i p1), .one (.i p2)] (.tup [.one (.ow 3 1 (r.1.map (eInt .i64))), .one (.i r.2.1), .one (.b r.2.2)]) [] := by
 unfold impl_readVars at h
 refine CallOK.of_bodyK (fn := Tryz.f174) (m := true) [.s p0, .i p1, .i p2] kr rfl kr kr kr kr kr ?_
 refine Wp.sag ⟨[(0, .s p0), (1, .i p1), (2, .i p2), (6, .nil), (7, .i 0), (8, .b false)], [], []⟩ ?_
 refine Wp.sag ⟨[(0, .s p0), (1, .i p1), (2, .i p2), (6, .nil), (7, .i 0), (8, .b false), (9, .own 851968)], [], [(851968, .live 3 1 ((([] : List Int)).map (eInt .i64)))]⟩ ?_
 refine Wp.seqJ (α := Int × (List Int)) (fun a => ⟨[(1, .i a.1), (6, .nil), (7, .i 0), (8, .b false), (9, .own 589825)], [], [(589825, .live 3 1 (a.2.map (eInt .i64)))]⟩) (fun a => impl_readVars_j1 u a.1 a.2 = some r) ?_ ?_
 ·rintro ⟨x11, x12⟩ h
  change impl_readVars_j1 u x11 x12 = some r at h
  unfold impl_readVars_j1 at h
  refine Wp.sag ⟨[(6, .own 589825), (7, .i x11), (8, .b true)], [], [(589825, .live 3 1 (x12.map (eInt .i64)))]⟩ ?_
  refine Wp.ret ?_
  obtain rfl := oi h
  exact RetK [.own 589825, .i x11, .b true] _ [] kr kr (.refl _) .nil
 ·refine Wp.sag ⟨[(0, .s p0), (1, .i p1), (6, .nil), (7, .i 0), (8, .b false), (9, .own 851968), (14, .i p2), (15, .i 0)], [], [(851968, .live 3 1 ((([] : List Int)).map (eInt .i64)))]⟩ ?_
  refine Wp.block ?_
  refine Wp.loopF (α := (List Int) × Int × (List Int) × Int × Int) (fun a => ⟨[(0, .s a.1), (1, .i a.2.1), (6, .nil), (7, .i 0), (8, .b false), (9, .own 589825), (14, .i a.2.2.2.1), (15, .i a.2.2.2.2)], [], [(589825, .live 3 1 (a.2.2.1.map (eInt .i64)))]⟩) (fun k_impl_readVars_l2 a => impl_readVars_l2 u k_impl_readVars_l2 a.1 a.2.1 a.2.2.1 a.2.2.2.1 a.2.2.2.2 = some r) ?_ ?_ u (p0, p1, ([] : List Int), p2, 0) h (Le.of (mo := []) (mr := [(589825, 851968)]) kr kr kr kr)
  ·intro a h; unfold impl_readVars_l2 at h; cases h
  ·rintro k_impl_readVars_l2 ⟨p0, x4, x5, p2, x6⟩ h
   change impl_readVars_l2 u (k_impl_readVars_l2 + 1) p0 x4 x5 p2 x6 = some r at h
   rw [impl_readVars_l2] at h
   refine Wp.sag ⟨[(0, .s p0), (1, .i x4), (6, .nil), (7, .i 0), (8, .b false), (9, .own 589825), (14, .i p2), (15, .i x6), (16, .b (decide (x6 < p2)))], [], [(589825, .live 3 1 (x5.map (eInt .i64)))]⟩ ?_
   refine Wp.seq ?_
   refine Wp.c2 h (fun h => ?_) (fun h => ?_)
   ·refine Wp.sk ?_
    refine Wp.seq ?_
    refine Wp.block ?_
    refine Wp.sb 2 ?_
    obtain ⟨r10, e_r10, h⟩ := bind_some h
    refine Runs.ck 20 [.s p0, .i x4] (impl_GetVar_ok u p0 x4 r10 e_r10) ?_
    refine Runs.allf ⟨[(0, .s p0), (1, .i x4), (6, .nil), (7, .i 0), (8, .b false), (9, .own 589825), (10, .i r10.1), (11, .i r10.2.1), (12, .b r10.2.2), (14, .i p2), (15, .i x6)], [], [(589825, .live 3 1 (x5.map (eInt .i64)))]⟩ ?_
    refine Wp.seq ?_
    refine Wp.sag ⟨[(0, .s p0), (1, .i x4), (6, .nil), (7, .i 0), (8, .b false), (9, .own 589825), (10, .i r10.1), (11, .i r10.2.1), (14, .i p2), (15, .i x6), (25, .b (!r10.2.2))], [], [(589825, .live 3 1 (x5.map (eInt .i64)))]⟩ ?_
    refine Wp.c2 h (fun h => ?_) (fun h => ?_)
    ·refine Wp.sag ⟨[(0, .s p0), (1, .i x4), (6, .nil), (7, .i 0), (8, .b false), (9, .own 589825), (10, .i r10.1), (11, .i r10.2.1), (14, .i p2), (15, .i x6)], [], [(589825, .live 3 1 (x5.map (eInt .i64)))]⟩ ?_
     refine Wp.ret ?_
     refine thenR ?_
     refine blkR ?_
     refine thenR ?_
     refine thenR ?_
     refine blkR ?_
     refine thenR ?_
     obtain rfl := oi h
     exact RetK [.nil, .i 0, .b false] (.tup [.one (.nil), .one (.i 0), .one (.b false)]) [] kr kr (.tup (.cons (.one (.nilO _ _)) (.cons (.refl _) (.cons (.refl _) .nil)))) .nil
    refine Wp.sk ?_
    refine Wp.sb 3 ?_
    obtain ⟨_, e_11, h⟩ := bind_some h
    refine Runs.appT (y := .own 1835008) (eInt .i64) 29 1 3 1 8 589825 x5 ([r10.1]) rfl rfl rfl rfl kr kr kr kr kr kr (.inl rfl) kr (of_decide_eq_true (chk_some e_11)) kr kr ?_
    refine Runs.allf ⟨[(0, .s p0), (1, .i x4), (6, .nil), (7, .i 0), (8, .b false), (9, .own 1900544), (11, .i r10.2.1), (14, .i p2), (15, .i x6)], [], [(1900544, .live 3 1 ((x5 ++ ([r10.1])).map (eInt .i64)))]⟩ ?_
    refine Wp.rg [] [] ?_
    refine Runs.all kr ?_
    refine blkN ?_
    refine thenN ?_
    refine Wp.rg [] [] ?_
    refine Runs.alln ?_
    exact ⟨(p0, r10.2.1, x5 ++ ([r10.1]), p2, bAdd .i64 x6 1), h, Le.of (mo := []) (mr := [(589825, 1900544)]) kr kr kr kr⟩
   refine Wp.exit ?_
   refine thenE ?_
   refine thenE ?_
   refine blkE ?_
   refine thenN ?_
   exact ⟨(x4, x5), h, Le.of (mo := []) (mr := []) kr kr kr kr⟩
theorem impl_SizeOk_ok (u : Nat) (p0 : Int) (p1 : Int) (r : Bool) (h : impl_SizeOk u p0 p1 = some r) : CallOK Tryz.prog 60 [.one (.i p0), .one (.i p1)] (.one (.b r)) [] := by
 unfold impl_SizeOk at h
 refine CallOK.of_bodyK (fn := Tryz.f60) (m := false) [.i p0, .i p1] kr rfl kr kr kr kr kr ?_
 refine Wp.sag ⟨[(0, .i p0), (1, .i p1), (4, .b false)], [], []⟩ ?_
 refine Wp.sb 1 ?_
 obtain ⟨r1, e_r1, h⟩ := bind_some h
 refine Runs.ck 6 [.i p0, .i 2, .i 6] (impl_within_ok u p0 2 6 r1 e_r1) ?_
 refine Runs.batch 1 kr ?_
 rcases tf (r1) with hc | hc
 ·have h := cond_t h hc
  refine Runs.known 7 (v := true) kr hc ?_
  refine Runs.batch 3 kr ?_
  obtain ⟨r2, e_r2, h⟩ := bind_some h
  refine Runs.ck 11 [.i p1, .i 0, .i (bMul .i64 40 p0)] (impl_within_ok u p1 0 (bMul .i64 40 p0) r2 e_r2) ?_
  refine Runs.allf ⟨[(4, .b r2)], [], []⟩ ?_
  refine Wp.ret ?_
  obtain rfl := oi h
  exact RetK [.b r2] _ [] kr kr (.refl _) .nil
 have h := cond_f h hc
 refine Runs.known 7 (v := false) kr hc ?_
 refine Runs.allf ⟨[(4, .b false)], [], []⟩ ?_
 refine Wp.ret ?_
 obtain rfl := oi h
 exact RetK [.b false] _ [] kr kr (.refl _) .nil
theorem impl_CeilDiv_ok (u : Nat) (p0 : Int) (p1 : Int) (r : Int) (h : impl_CeilDiv u p0 p1 = some r) : CallOK Tryz.prog 187 [.one (.i p0), .one (.i p1)] (.one (.i r)) [] := by
 unfold impl_CeilDiv at h
 refine CallOK.of_bodyK (fn := Tryz.f187) (m := false) [.i p0, .i p1] kr rfl kr kr kr kr kr ?_
 refine Wp.sag ⟨[(0, .i p0), (1, .i p1), (4, .i 0)], [], []⟩ ?_
 refine Wp.seq ?_
 refine Wp.seqJ (α := Int × Int × Bool) (fun a => ⟨[(0, .i a.1), (1, .i a.2.1), (4, .i 0), (12, .b a.2.2)], [], []⟩) (fun a => impl_CeilDiv_j1 u a.1 a.2.1 a.2.2 = some r) ?_ ?_
 ·rintro ⟨p0, p1, x3⟩ h
  change impl_CeilDiv_j1 u p0 p1 x3 = some r at h
  unfold impl_CeilDiv_j1 at h
  refine Wp.c2 h (fun h => ?_) (fun h => ?_)
  ·refine Wp.sag ⟨[(0, .i p0), (1, .i p1), (4, .i 0)], [], []⟩ ?_
   refine Wp.ret ?_
   refine thenR ?_
   obtain rfl := oi h
   exact RetK [.i 0] _ [] kr kr (.refl _) .nil
  refine Wp.sk ?_
  refine Wp.sb 5 ?_
  obtain ⟨_, e_4, h⟩ := bind_some h
  refine Runs.num .quo (.int .i64 (bSub .i64 (bAdd .i64 p0 p1) 1)) (.int .i64 p1) (.int .i64 (bQuo .i64 (bSub .i64 (bAdd .i64 p0 p1) 1) p1)) rfl kr kr kr kr (bin_quo _ _ _ _ (by simpa using chk_some e_4)) ?_
  refine Runs.allf ⟨[(4, .i (bQuo .i64 (bSub .i64 (bAdd .i64 p0 p1) 1) p1))], [], []⟩ ?_
  refine Wp.ret ?_
  obtain rfl := oi h
  exact RetK [.i (bQuo .i64 (bSub .i64 (bAdd .i64 p0 p1) 1) p1)] _ [] kr kr (.refl _) .nil
 ·refine Wp.rg [] [] ?_
  refine Runs.batch 1 kr ?_
  obtain ⟨r1, e_r1, h⟩ := bind_some h
  refine Runs.ck 6 [.i p0, .i 0, .i 1000000000000] (impl_within_ok u p0 0 1000000000000 r1 e_r1) ?_
  refine Runs.batch 2 kr ?_
  rcases tf (!r1) with hc | hc
  ·have h := cond_t h hc
   refine Runs.known 8 (v := true) kr hc ?_
   refine Runs.alln ?_
   exact ⟨(p0, p1, true), h, Le.of (mo := []) (mr := []) kr kr kr kr⟩
  have h := cond_f h hc
  refine Runs.known 8 (v := false) kr hc ?_
  refine Runs.batch 1 kr ?_
  obtain ⟨r2, e_r2, h⟩ := bind_some h
  refine Runs.ck 10 [.i p1, .i 1, .i 1000000000000] (impl_within_ok u p1 1 1000000000000 r2 e_r2) ?_
  refine Runs.alln ?_
  exact ⟨(p0, p1, !r2), h, Le.of (mo := []) (mr := []) kr kr kr kr⟩
theorem impl_Blocks_ok (u : Nat) (p0 : Int) (p1 : Int) (r : Int) (h : impl_Blocks u p0 p1 = some r) : CallOK Tryz.prog 148 [.one (.i p0), .one (.i p1)] (.one (.i r)) [] := by
 unfold impl_Blocks at h
 refine CallOK.of_bodyK (fn := Tryz.f148) (m := false) [.i p0, .i p1] kr rfl kr kr kr kr kr ?_
 refine Wp.sag ⟨[(0, .i p0), (1, .i p1), (4, .i 0)], [], []⟩ ?_
 refine Wp.seq ?_
 refine Wp.sb 2 ?_
 obtain ⟨r1, e_r1, h⟩ := bind_some h
 refine Runs.ck 7 [.i p0, .i p1] (impl_SizeOk_ok u p0 p1 r1 e_r1) ?_
 refine Runs.allf ⟨[(0, .i p0), (1, .i p1), (4, .i 0), (8, .b (!r1))], [], []⟩ ?_
 refine Wp.c2 h (fun h => ?_) (fun h => ?_)
 ·refine Wp.sag ⟨[(0, .i p0), (1, .i p1), (4, .i 0)], [], []⟩ ?_
  refine Wp.ret ?_
  refine thenR ?_
  obtain rfl := oi h
  exact RetK [.i 0] _ [] kr kr (.refl _) .nil
 refine Wp.sk ?_
 refine Wp.sb 2 ?_
 obtain ⟨r2, e_r2, h⟩ := bind_some h
 refine Runs.ck 11 [.i p1, .i p0] (impl_CeilDiv_ok u p1 p0 r2 e_r2) ?_
 refine Runs.allf ⟨[(4, .i r2)], [], []⟩ ?_
 refine Wp.ret ?_
 obtain rfl := oi h
 exact RetK [.i r2] _ [] kr kr (.refl _) .nil
theorem impl_BytesOf_ok (u : Nat) (p0 : Int) (r : (List Int) × Bool) (h : impl_BytesOf u p0 = some r) : CallOK Tryz.prog 190 [.one (.i p0)] (.tup [.one (.ow 5 1 (r.1.map (eInt .u8))), .one (.b r.2)]) [] := by
 unfold impl_BytesOf at h
 refine CallOK.of_bodyK (fn := Tryz.f190) (m := true) [.i p0] kr rfl kr kr kr kr kr ?_
 refine Wp.sag ⟨[(0, .i p0), (2, .nil), (3, .b false)], [], []⟩ ?_
 refine Wp.sag ⟨[(0, .i p0), (2, .nil), (3, .b false), (4, .i 0)], [], []⟩ ?_
 refine Wp.seqJ (α := Int × Int) (fun a => ⟨[(0, .i a.1), (2, .nil), (3, .b false), (4, .i a.2)], [], []⟩) (fun a => impl_BytesOf_j1 u a.1 a.2 = some r) ?_ ?_
 ·rintro ⟨p0, x5⟩ h
  change impl_BytesOf_j1 u p0 x5 = some r at h
  unfold impl_BytesOf_j1 at h
  refine Wp.seq ?_
  refine Wp.seqJ (α := Int × Int × Bool) (fun a => ⟨[(0, .i a.1), (2, .nil), (3, .b false), (4, .i a.2.1), (26, .b a.2.2)], [], []⟩) (fun a => impl_BytesOf_j2 u a.1 a.2.1 a.2.2 = some r) ?_ ?_
  ·rintro ⟨p0, x5, x6⟩ h
   change impl_BytesOf_j2 u p0 x5 x6 = some r at h
   unfold impl_BytesOf_j2 at h
   refine Wp.c2 h (fun h => ?_) (fun h => ?_)
   ·refine Wp.sag ⟨[(0, .i p0), (2, .nil), (3, .b false), (4, .i x5)], [], []⟩ ?_
    refine Wp.ret ?_
    refine thenR ?_
    obtain rfl := oi h
    exact RetK [.nil, .b false] (.tup [.one (.nil), .one (.b false)]) [] kr kr (.tup (.cons (.one (.nilO _ _)) (.cons (.refl _) .nil))) .nil
   refine Wp.sk ?_
   refine Wp.sb 1 ?_
   obtain ⟨_, e_7, h⟩ := bind_some h
   obtain ⟨_, e_8, h⟩ := bind_some h
   refine Runs.mkS (eInt .u8) (0 : Int) 28 5 1 1 x5 x5 rfl rfl kr kr kr kr kr kr (chk_some e_7) (of_decide_eq_true (chk_some e_8)) kr ?_
   refine Runs.allf ⟨[(0, .i p0), (2, .nil), (3, .b false), (4, .i x5), (5, .own 1835008)], [], [(1835008, .live 5 1 ((List.replicate (Int.toNat x5) (0 : Int)).map (eInt .u8)))]⟩ ?_
   refine Wp.seqJ (α := (List Int)) (fun a => ⟨[(2, .nil), (3, .b false), (5, .own 327681)], [], [(327681, .live 5 1 (a.map (eInt .u8)))]⟩) (fun a => impl_BytesOf_j3 u a = some r) ?_ ?_
   ·rintro x17 h
    change impl_BytesOf_j3 u x17 = some r at h
    unfold impl_BytesOf_j3 at h
    refine Wp.sag ⟨[(2, .own 327681), (3, .b true)], [], [(327681, .live 5 1 (x17.map (eInt .u8)))]⟩ ?_
    refine Wp.ret ?_
    obtain rfl := oi h
    exact RetK [.own 327681, .b true] _ [] kr kr (.refl _) .nil
   ·refine Wp.sb 1 ?_
    refine Runs.lenT (y := .own 1835008) (e := 5) (eInt .u8) (List.replicate (Int.toNat x5) (0 : Int)) 1 rfl rfl rfl kr kr kr kr kr ?_
    refine Runs.allf ⟨[(0, .i p0), (2, .nil), (3, .b false), (4, .i x5), (5, .own 1835008), (30, .i (((List.replicate (Int.toNat x5) (0 : Int)).length : Int))), (31, .i 0)], [], [(1835008, .live 5 1 ((List.replicate (Int.toNat x5) (0 : Int)).map (eInt .u8)))]⟩ ?_
    refine Wp.block ?_
    refine Wp.loopF (α := Int × Int × (List Int) × Int) (fun a => ⟨[(0, .i a.1), (2, .nil), (3, .b false), (4, .i a.2.1), (5, .own 327681), (30, .i (((List.replicate (Int.toNat a.2.1) (0 : Int)).length : Int))), (31, .i a.2.2.2)], [], [(327681, .live 5 1 (a.2.2.1.map (eInt .u8)))]⟩) (fun k_impl_BytesOf_l4 a => impl_BytesOf_l4 u k_impl_BytesOf_l4 a.1 a.2.1 a.2.2.1 a.2.2.2 = some r) ?_ ?_ u (p0, x5, List.replicate (Int.toNat x5) (0 : Int), 0) h (Le.of (mo := []) (mr := [(327681, 1835008)]) kr kr kr kr)
    ·intro a h; unfold impl_BytesOf_l4 at h; cases h
    ·rintro k_impl_BytesOf_l4 ⟨p0, x5, x11, x12⟩ h
     change impl_BytesOf_l4 u (k_impl_BytesOf_l4 + 1) p0 x5 x11 x12 = some r at h
     rw [impl_BytesOf_l4] at h
     refine Wp.sag ⟨[(0, .i p0), (2, .nil), (3, .b false), (4, .i x5), (5, .own 327681), (30, .i (((List.replicate (Int.toNat x5) (0 : Int)).length : Int))), (31, .i x12), (32, .b (decide (x12 < (((List.replicate (Int.toNat x5) (0 : Int)).length : Int)))))], [], [(327681, .live 5 1 (x11.map (eInt .u8)))]⟩ ?_
     refine Wp.seq ?_
     refine Wp.c2 h (fun h => ?_) (fun h => ?_)
     ·refine Wp.sk ?_
      refine Wp.seq ?_
      refine Wp.block ?_
      refine Wp.sag ⟨[(0, .i p0), (2, .nil), (3, .b false), (4, .i x5), (5, .own 327681), (6, .i x12), (30, .i (((List.replicate (Int.toNat x5) (0 : Int)).length : Int))), (31, .i x12)], [], [(327681, .live 5 1 (x11.map (eInt .u8)))]⟩ ?_
      refine Wp.rg [] [] ?_
      refine Runs.batch 8 kr ?_
      obtain ⟨_, e_15, h⟩ := bind_some h
      refine Runs.num .shr (.int .i64 p0) (.int .i64 (bMul .i64 8 (bSub .i64 (bSub .i64 x5 1) x12))) (.int .i64 (bShr .i64 p0 (bMul .i64 8 (bSub .i64 (bSub .i64 x5 1) x12)))) rfl kr kr kr kr (bin_shr _ _ _ _ _ (chk_some e_15)) ?_
      refine Runs.batch 1 kr ?_
      obtain ⟨y16, e_y16, h⟩ := bind_some h
      refine Runs.idxO (e := 5) (e' := 5) (kk := .i64) (sz := 1) (eInt .u8) x11 x12 327681 rfl kr kr kr kr kr kr kr e_y16 ?_
      refine Runs.storeT (e := 5) (sz := 1) (m := 1) (eInt .u8) x11 327681 (Int.toNat x12) 0 (IntKind.wrap .u8 (bShr .i64 p0 (bMul .i64 8 (bSub .i64 (bSub .i64 x5 1) x12)))) (.t (.int .u8 (IntKind.wrap .u8 (bShr .i64 p0 (bMul .i64 8 (bSub .i64 (bSub .i64 x5 1) x12)))))) [.int .u8 (IntKind.wrap .u8 (bShr .i64 p0 (bMul .i64 8 (bSub .i64 (bSub .i64 x5 1) x12))))] rfl kr kr kr kr kr kr kr kr (idx_some e_y16).2 kr kr ?_
      refine Runs.done ?_
      refine blkN ?_
      refine thenN ?_
      refine Wp.rg [] [] ?_
      refine Runs.alln ?_
      exact ⟨(p0, x5, x11.set (Int.toNat x12) (IntKind.wrap .u8 (bShr .i64 p0 (bMul .i64 8 (bSub .i64 (bSub .i64 x5 1) x12)))), bAdd .i64 x12 1), h, Le.of (mo := []) (mr := []) kr kr kr kr⟩
     refine Wp.exit ?_
     refine thenE ?_
     refine thenE ?_
     refine blkE ?_
     refine thenN ?_
     exact ⟨x11, h, Le.of (mo := []) (mr := []) kr kr kr kr⟩
  ·refine Wp.rg [] [] ?_
   refine Runs.batch 3 kr ?_
   rcases tf (decide (p0 < 1)) with hc | hc
   ·have h := cond_t h hc
    refine Runs.known 20 (v := true) kr hc ?_
    refine Runs.alln ?_
    exact ⟨(p0, x5, true), h, Le.of (mo := []) (mr := []) kr kr kr kr⟩
   have h := cond_f h hc
   refine Runs.known 20 (v := false) kr hc ?_
   refine Runs.batch 3 kr ?_
   obtain ⟨_, e_6, h⟩ := bind_some h
   refine Runs.num .shr (.int .i64 p0) (.int .i64 (bMul .i64 8 x5)) (.int .i64 (bShr .i64 p0 (bMul .i64 8 x5))) rfl kr kr kr kr (bin_shr _ _ _ _ _ (chk_some e_6)) ?_
   refine Runs.alln ?_
   exact ⟨(p0, x5, (bShr .i64 p0 (bMul .i64 8 x5)) != 1), h, Le.of (mo := []) (mr := []) kr kr kr kr⟩
 ·refine Wp.block ?_
  refine Wp.loopF (α := Int × Int) (fun a => ⟨[(0, .i a.1), (2, .nil), (3, .b false), (4, .i a.2)], [], []⟩) (fun k_impl_BytesOf_l5 a => impl_BytesOf_l5 u k_impl_BytesOf_l5 a.1 a.2 = some r) ?_ ?_ u (p0, 0) h (Le.of (mo := []) (mr := []) kr kr kr kr)
  ·intro a h; unfold impl_BytesOf_l5 at h; cases h
  ·rintro k_impl_BytesOf_l5 ⟨p0, x2⟩ h
   change impl_BytesOf_l5 u (k_impl_BytesOf_l5 + 1) p0 x2 = some r at h
   rw [impl_BytesOf_l5] at h
   refine Wp.seq ?_
   refine Wp.seqJ (α := Int × Int × Bool) (fun a => ⟨[(0, .i a.1), (2, .nil), (3, .b false), (4, .i a.2.1), (15, .b a.2.2)], [], []⟩) (fun a => impl_BytesOf_j6 u (fun z0 z1 => impl_BytesOf_l5 u k_impl_BytesOf_l5 z0 z1) a.1 a.2.1 a.2.2 = some r) ?_ ?_
   ·rintro ⟨p0, x2, x4⟩ h
    change impl_BytesOf_j6 u (fun z0 z1 => impl_BytesOf_l5 u k_impl_BytesOf_l5 z0 z1) p0 x2 x4 = some r at h
    unfold impl_BytesOf_j6 at h
    refine Wp.c2 h (fun h => ?_) (fun h => ?_)
    ·refine Wp.sk ?_
     refine Wp.block ?_
     refine Wp.rg [] [] ?_
     refine Runs.all kr ?_
     refine blkN ?_
     refine thenN ?_
     exact ⟨(p0, bAdd .i64 x2 1), h, Le.of (mo := []) (mr := []) kr kr kr kr⟩
    refine Wp.exit ?_
    refine thenE ?_
    refine thenE ?_
    refine blkE ?_
    refine thenN ?_
    exact ⟨(p0, x2), h, Le.of (mo := []) (mr := []) kr kr kr kr⟩
   ·refine Wp.rg [] [] ?_
    refine Runs.batch 3 kr ?_
    rcases tf (decide (x2 < 6)) with hc | hc
    ·have h := cond_t h hc
     refine Runs.known 9 (v := true) kr hc ?_
     refine Runs.batch 3 kr ?_
     obtain ⟨_, e_4, h⟩ := bind_some h
     refine Runs.num .shr (.int .i64 p0) (.int .i64 (bMul .i64 8 x2)) (.int .i64 (bShr .i64 p0 (bMul .i64 8 x2))) rfl kr kr kr kr (bin_shr _ _ _ _ _ (chk_some e_4)) ?_
     refine Runs.alln ?_
     exact ⟨(p0, x2, decide ((bShr .i64 p0 (bMul .i64 8 x2)) > 1)), h, Le.of (mo := []) (mr := []) kr kr kr kr⟩
    have h := cond_f h hc
    refine Runs.known 9 (v := false) kr hc ?_
    refine Runs.alln ?_
    exact ⟨(p0, x2, false), h, Le.of (mo := []) (mr := []) kr kr kr kr⟩
theorem impl_Wrap_ok (u : Nat) (p0 : Int) (p1 : Int) (r : Int) (h : impl_Wrap u p0 p1 = some r) : CallOK Tryz.prog 204 [.one (.i p0), .one (.i p1)] (.one (.i r)) [] := by
 unfold impl_Wrap at h
 refine CallOK.of_bodyK (fn := Tryz.f204) (m := false) [.i p0, .i p1] kr rfl kr kr kr kr kr ?_
 refine Wp.sag ⟨[(0, .i p0), (1, .i p1), (4, .i 0)], [], []⟩ ?_
 refine Wp.seq ?_
 refine Wp.sb 1 ?_
 obtain ⟨r1, e_r1, h⟩ := bind_some h
 refine Runs.ck 6 [.i p1, .i 1, .i 1000000000000] (impl_within_ok u p1 1 1000000000000 r1 e_r1) ?_
 refine Runs.allf ⟨[(0, .i p0), (1, .i p1), (4, .i 0), (7, .b (!r1))], [], []⟩ ?_
 refine Wp.c2 h (fun h => ?_) (fun h => ?_)
 ·refine Wp.sag ⟨[(0, .i p0), (1, .i p1), (4, .i 0)], [], []⟩ ?_
  refine Wp.ret ?_
  refine thenR ?_
  obtain rfl := oi h
  exact RetK [.i 0] _ [] kr kr (.refl _) .nil
 refine Wp.sk ?_
 refine Wp.sb 2 ?_
 obtain ⟨_, e_2, h⟩ := bind_some h
 refine Runs.num .rem (.int .i64 p0) (.int .i64 p1) (.int .i64 (bRem .i64 p0 p1)) rfl kr kr kr kr (bin_rem _ _ _ _ (by simpa using chk_some e_2)) ?_
 refine Runs.batch 3 kr ?_
 obtain ⟨_, e_3, h⟩ := bind_some h
 refine Runs.num .rem (.int .i64 (bAdd .i64 (bRem .i64 p0 p1) p1)) (.int .i64 p1) (.int .i64 (bRem .i64 (bAdd .i64 (bRem .i64 p0 p1) p1) p1)) rfl kr kr kr kr (bin_rem _ _ _ _ (by simpa using chk_some e_3)) ?_
 refine Runs.allf ⟨[(4, .i (bRem .i64 (bAdd .i64 (bRem .i64 p0 p1) p1) p1))], [], []⟩ ?_
 refine Wp.ret ?_
 obtain rfl := oi h
 exact RetK [.i (bRem .i64 (bAdd .i64 (bRem .i64 p0 p1) p1) p1)] _ [] kr kr (.refl _) .nil
theorem impl_weak_ok (u : Nat) (p0 : Int) (p1 : Int) (r : Int) (h : impl_weak u p0 p1 = some r) : CallOK Tryz.prog 197 [.one (.i p0), .one (.i p1)] (.one (.i r)) [] := by
 unfold impl_weak at h
 refine CallOK.of_bodyK (fn := Tryz.f197) (m := false) [.i p0, .i p1] kr rfl kr kr kr kr kr ?_
 refine Wp.sag ⟨[(0, .i p0), (1, .i p1), (4, .i 0)], [], []⟩ ?_
 refine Wp.sb 1 ?_
 obtain ⟨r1, e_r1, h⟩ := bind_some h
 refine Runs.ck 6 [.i p0, .i 251] (impl_Wrap_ok u p0 251 r1 e_r1) ?_
 refine Runs.batch 1 kr ?_
 obtain ⟨r2, e_r2, h⟩ := bind_some h
 refine Runs.ck 8 [.i p1, .i 251] (impl_Wrap_ok u p1 251 r2 e_r2) ?_
 refine Runs.allf ⟨[(4, .i (bAdd .i64 r1 (bMul .i64 251 r2)))], [], []⟩ ?_
 refine Wp.ret ?_
 obtain rfl := oi h
 exact RetK [.i (bAdd .i64 r1 (bMul .i64 251 r2))] _ [] kr kr (.refl _) .nil
theorem impl_WeakOf_ok (u : Nat) (p0 : List Int) (r : Int) (h : impl_WeakOf u p0 = some r) : CallOK Tryz.prog 182 [.one (.s p0)] (.one (.i r)) [] := by
 unfold impl_WeakOf at h
 refine CallOK.of_bodyK (fn := Tryz.f182) (m := false) [.s p0] kr rfl kr kr kr kr kr ?_
 refine Wp.sag ⟨[(0, .s p0), (2, .i 0)], [], []⟩ ?_
 refine Wp.sag ⟨[(0, .s p0), (2, .i 0), (3, .i 0), (4, .i 0)], [], []⟩ ?_
 refine Wp.seqJ (α := Int × Int) (fun a => ⟨[(2, .i 0), (3, .i a.1), (4, .i a.2)], [], []⟩) (fun a => impl_WeakOf_j1 u a.1 a.2 = some r) ?_ ?_
 ·rintro ⟨x11, x12⟩ h
  change impl_WeakOf_j1 u x11 x12 = some r at h
  unfold impl_WeakOf_j1 at h
  refine Wp.sb 2 ?_
  obtain ⟨r13, e_r13, h⟩ := bind_some h
  refine Runs.ck 25 [.i x11, .i x12] (impl_weak_ok u x11 x12 r13 e_r13) ?_
  refine Runs.allf ⟨[(2, .i r13)], [], []⟩ ?_
  refine Wp.ret ?_
  obtain rfl := oi h
  exact RetK [.i r13] _ [] kr kr (.refl _) .nil
 ·refine Wp.sb 1 ?_
  refine Runs.lenT (y := .s p0) (e := 5) (eInt .u8) p0 1 rfl rfl rfl kr kr kr kr kr ?_
  refine Runs.allf ⟨[(2, .i 0), (3, .i 0), (4, .i 0), (7, .s p0), (8, .i ((p0.length : Int))), (9, .i 0)], [], []⟩ ?_
  refine Wp.block ?_
  refine Wp.loopF (α := Int × Int × (List Int) × Int) (fun a => ⟨[(2, .i 0), (3, .i a.1), (4, .i a.2.1), (7, .s a.2.2.1), (8, .i ((a.2.2.1.length : Int))), (9, .i a.2.2.2)], [], []⟩) (fun k_impl_WeakOf_l2 a => impl_WeakOf_l2 u k_impl_WeakOf_l2 a.1 a.2.1 a.2.2.1 a.2.2.2 = some r) ?_ ?_ u (0, 0, p0, 0) h (Le.of (mo := []) (mr := []) kr kr kr kr)
  ·intro a h; unfold impl_WeakOf_l2 at h; cases h
  ·rintro k_impl_WeakOf_l2 ⟨x4, x5, p0, x6⟩ h
   change impl_WeakOf_l2 u (k_impl_WeakOf_l2 + 1) x4 x5 p0 x6 = some r at h
   rw [impl_WeakOf_l2] at h
   refine Wp.sag ⟨[(2, .i 0), (3, .i x4), (4, .i x5), (7, .s p0), (8, .i ((p0.length : Int))), (9, .i x6), (10, .b (decide (x6 < ((p0.length : Int)))))], [], []⟩ ?_
   refine Wp.seq ?_
   refine Wp.c2 h (fun h => ?_) (fun h => ?_)
   ·refine Wp.sk ?_
    refine Wp.seq ?_
    refine Wp.block ?_
    refine Wp.srg [] [] ?_
    obtain ⟨y10, e_y10, h⟩ := bind_some h
    refine Runs.idxT (e := 5) (kk := .i64) (sz := 1) (eInt .u8) p0 x6 rfl kr kr kr kr kr kr e_y10 ?_
    refine Runs.allf ⟨[(2, .i 0), (3, .i x4), (4, .i x5), (6, .t (.int .u8 y10)), (7, .s p0), (8, .i ((p0.length : Int))), (9, .i x6)], [], []⟩ ?_
    refine Wp.sag ⟨[(2, .i 0), (3, .i (bRem .i64 (bAdd .i64 x4 (IntKind.wrap .i64 y10)) 251)), (4, .i x5), (7, .s p0), (8, .i ((p0.length : Int))), (9, .i x6)], [], []⟩ ?_
    refine Wp.rg [] [] ?_
    refine Runs.all kr ?_
    refine blkN ?_
    refine thenN ?_
    refine Wp.rg [] [] ?_
    refine Runs.alln ?_
    exact ⟨(bRem .i64 (bAdd .i64 x4 (IntKind.wrap .i64 y10)) 251, bRem .i64 (bAdd .i64 x5 (bRem .i64 (bAdd .i64 x4 (IntKind.wrap .i64 y10)) 251)) 251, p0, bAdd .i64 x6 1), h, Le.of (mo := []) (mr := []) kr kr kr kr⟩
   refine Wp.exit ?_
   refine thenE ?_
   refine thenE ?_
   refine blkE ?_
   refine thenN ?_
   exact ⟨(x4, x5), h, Le.of (mo := []) (mr := []) kr kr kr kr⟩
theorem impl_SumOf_ok (u : Nat) (p0 : List Int) (r : Sum) (h : impl_SumOf u p0 = some r) : CallOK Tryz.prog 150 [.one (.s p0)] (.agg [.i r.fW, .i r.fS]) [] := by
 unfold impl_SumOf at h
 refine CallOK.of_bodyK (fn := Tryz.f150) (m := false) [.s p0] kr rfl kr kr kr kr kr ?_
 refine Wp.sag ⟨[(0, .s p0), (2, .obj 2 0)], [(2, [.i 0, .i 0])], []⟩ ?_
 refine Wp.seq ?_
 refine Wp.sb 1 ?_
 refine Runs.lenT (y := .s p0) (e := 5) (eInt .u8) p0 1 rfl rfl rfl kr kr kr kr kr ?_
 refine Runs.allf ⟨[(0, .s p0), (2, .obj 2 0), (8, .b (decide (((p0.length : Int)) > 6)))], [(2, [.i 0, .i 0])], []⟩ ?_
 refine Wp.c2 h (fun h => ?_) (fun h => ?_)
 ·refine Wp.sag ⟨[(0, .s p0), (2, .obj 2 0)], [(2, [.i 0, .i 0])], []⟩ ?_
  refine Wp.ret ?_
  refine thenR ?_
  obtain rfl := oi h
  exact RetK [.agg [.i 0, .i 0]] _ [] kr kr (.refl _) .nil
 refine Wp.sk ?_
 refine Wp.sag ⟨[(0, .s p0), (2, .obj 2 0), (3, .i 1)], [(2, [.i 0, .i 0])], []⟩ ?_
 refine Wp.seqJ (α := (List Int) × Int) (fun a => ⟨[(0, .s a.1), (2, .obj 2 0), (3, .i a.2)], [(2, [.i 0, .i 0])], []⟩) (fun a => impl_SumOf_j1 u a.1 a.2 = some r) ?_ ?_
 ·rintro ⟨p0, x8⟩ h
  change impl_SumOf_j1 u p0 x8 = some r at h
  unfold impl_SumOf_j1 at h
  refine Wp.sb 1 ?_
  obtain ⟨r9, e_r9, h⟩ := bind_some h
  refine Runs.ck 23 [.s p0] (impl_WeakOf_ok u p0 r9 e_r9) ?_
  refine Runs.allf ⟨[(2, .obj 2 0)], [(2, [.i r9, .i x8])], []⟩ ?_
  refine Wp.ret ?_
  obtain rfl := oi h
  exact RetK [.agg [.i r9, .i x8]] _ [] kr kr (.refl _) .nil
 ·refine Wp.sb 1 ?_
  refine Runs.lenT (y := .s p0) (e := 5) (eInt .u8) p0 1 rfl rfl rfl kr kr kr kr kr ?_
  refine Runs.allf ⟨[(0, .s p0), (2, .obj 2 0), (3, .i 1), (10, .s p0), (11, .i ((p0.length : Int))), (12, .i 0)], [(2, [.i 0, .i 0])], []⟩ ?_
  refine Wp.block ?_
  refine Wp.loopF (α := (List Int) × Int × Int) (fun a => ⟨[(0, .s a.1), (2, .obj 2 0), (3, .i a.2.1), (10, .s a.1), (11, .i ((a.1.length : Int))), (12, .i a.2.2)], [(2, [.i 0, .i 0])], []⟩) (fun k_impl_SumOf_l2 a => impl_SumOf_l2 u k_impl_SumOf_l2 a.1 a.2.1 a.2.2 = some r) ?_ ?_ u (p0, 1, 0) h (Le.of (mo := []) (mr := []) kr kr kr kr)
  ·intro a h; unfold impl_SumOf_l2 at h; cases h
  ·rintro k_impl_SumOf_l2 ⟨p0, x3, x4⟩ h
   change impl_SumOf_l2 u (k_impl_SumOf_l2 + 1) p0 x3 x4 = some r at h
   rw [impl_SumOf_l2] at h
   refine Wp.sag ⟨[(0, .s p0), (2, .obj 2 0), (3, .i x3), (10, .s p0), (11, .i ((p0.length : Int))), (12, .i x4), (13, .b (decide (x4 < ((p0.length : Int)))))], [(2, [.i 0, .i 0])], []⟩ ?_
   refine Wp.seq ?_
   refine Wp.c2 h (fun h => ?_) (fun h => ?_)
   ·refine Wp.sk ?_
    refine Wp.seq ?_
    refine Wp.block ?_
    refine Wp.srg [] [] ?_
    obtain ⟨y7, e_y7, h⟩ := bind_some h
    refine Runs.idxT (e := 5) (kk := .i64) (sz := 1) (eInt .u8) p0 x4 rfl kr kr kr kr kr kr e_y7 ?_
    refine Runs.allf ⟨[(0, .s p0), (2, .obj 2 0), (3, .i x3), (5, .t (.int .u8 y7)), (10, .s p0), (11, .i ((p0.length : Int))), (12, .i x4)], [(2, [.i 0, .i 0])], []⟩ ?_
    refine Wp.rg [] [] ?_
    refine Runs.all kr ?_
    refine blkN ?_
    refine thenN ?_
    refine Wp.rg [] [] ?_
    refine Runs.alln ?_
    exact ⟨(p0, bOr .i64 (bShl .i64 x3 8) (IntKind.wrap .i64 y7), bAdd .i64 x4 1), h, Le.of (mo := []) (mr := []) kr kr kr kr⟩
   refine Wp.exit ?_
   refine thenE ?_
   refine thenE ?_
   refine blkE ?_
   refine thenN ?_
   exact ⟨(p0, x3), h, Le.of (mo := []) (mr := []) kr kr kr kr⟩
theorem impl_isZeroMan_ok (u : Nat) (p0 : Manifest) (r : Bool) (h : impl_isZeroMan u p0 = some r) : CallOK Tryz.prog 189 [.agg [.i p0.fGen, .i p0.fSize, .i p0.fLen, .t (.sl 2 (p0.fSums.map Sum.enc))]] (.one (.b r)) [] := by
 unfold impl_isZeroMan at h
 refine CallOK.of_bodyK (fn := Tryz.f189) (m := false) [.agg ((Manifest.enc p0).map .t)] kr rfl kr kr kr kr kr ?_
 refine Wp.sag ⟨[(1, .obj 1 0), (2, .b false)], [(1, ((Manifest.enc p0).map .t))], []⟩ ?_
 refine Wp.sb 4 ?_
 rcases tf (p0.fGen == 0) with hc | hc
 ·have h := cond_t h hc
  refine Runs.known 6 (v := true) kr hc ?_
  refine Runs.batch 5 kr ?_
  rcases tf (p0.fSize == 0) with hc | hc
  ·have h := cond_t h hc
   refine Runs.known 11 (v := true) kr hc ?_
   refine Runs.batch 5 kr ?_
   rcases tf (p0.fLen == 0) with hc | hc
   ·have h := cond_t h hc
    refine Runs.known 16 (v := true) kr hc ?_
    refine Runs.batch 2 kr ?_
    refine Runs.lenT (y := .t (.sl 2 (p0.fSums.map Sum.enc))) (e := 189) Sum.enc p0.fSums 2 rfl rfl rfl kr kr kr kr kr ?_
    refine Runs.allf ⟨[(2, .b (((p0.fSums.length : Int)) == 0))], [], []⟩ ?_
    refine Wp.ret ?_
    obtain rfl := oi h
    exact RetK [.b (((p0.fSums.length : Int)) == 0)] _ [] kr kr (.refl _) .nil
   have h := cond_f h hc
   refine Runs.known 16 (v := false) kr hc ?_
   refine Runs.allf ⟨[(2, .b false)], [], []⟩ ?_
   refine Wp.ret ?_
   obtain rfl := oi h
   exact RetK [.b false] _ [] kr kr (.refl _) .nil
  have h := cond_f h hc
  refine Runs.known 11 (v := false) kr hc ?_
  refine Runs.allf ⟨[(2, .b false)], [], []⟩ ?_
  refine Wp.ret ?_
  obtain rfl := oi h
  exact RetK [.b false] _ [] kr kr (.refl _) .nil
 have h := cond_f h hc
 refine Runs.known 6 (v := false) kr hc ?_
 refine Runs.allf ⟨[(2, .b false)], [], []⟩ ?_
 refine Wp.ret ?_
 obtain rfl := oi h
 exact RetK [.b false] _ [] kr kr (.refl _) .nil
theorem impl_SpanOf_ok (u : Nat) (p0 : Int) (p1 : Int) (p2 : Int) (r : Int × Int) (h : impl_SpanOf u p0 p1 p2 = some r) : CallOK Tryz.prog 105 [.one (.i p0), .one (.i p1), .one (.i p2)] (.tup [.one (.i r.1), .one (.i r.2)]) [] := by
 unfold impl_SpanOf at h
 refine CallOK.of_bodyK (fn := Tryz.f105) (m := false) [.i p0, .i p1, .i p2] kr rfl kr kr kr kr kr ?_
 refine Wp.sag ⟨[(0, .i p0), (1, .i p1), (2, .i p2), (6, .i 0), (7, .i 0)], [], []⟩ ?_
 refine Wp.seq ?_
 refine Wp.sb 3 ?_
 obtain ⟨r1, e_r1, h⟩ := bind_some h
 refine Runs.ck 11 [.i p0, .i p1] (impl_Blocks_ok u p0 p1 r1 e_r1) ?_
 refine Runs.batch 1 kr ?_
 obtain ⟨r2, e_r2, h⟩ := bind_some h
 refine Runs.ck 13 [.i p2, .i 0, .i (bSub .i64 r1 1)] (impl_within_ok u p2 0 (bSub .i64 r1 1) r2 e_r2) ?_
 refine Runs.allf ⟨[(0, .i p0), (1, .i p1), (2, .i p2), (6, .i 0), (7, .i 0), (14, .b (!r2))], [], []⟩ ?_
 refine Wp.c2 h (fun h => ?_) (fun h => ?_)
 ·refine Wp.sag ⟨[(0, .i p0), (1, .i p1), (2, .i p2), (6, .i 0), (7, .i 0)], [], []⟩ ?_
  refine Wp.ret ?_
  refine thenR ?_
  obtain rfl := oi h
  exact RetK [.i 0, .i 0] _ [] kr kr (.refl _) .nil
 refine Wp.sk ?_
 refine Wp.sag ⟨[(6, .i (bMul .i64 p2 p0)), (7, .i (if (bSub .i64 p1 (bMul .i64 p2 p0)) < p0 then (bSub .i64 p1 (bMul .i64 p2 p0)) else p0))], [], []⟩ ?_
 refine Wp.ret ?_
 obtain rfl := oi h
 exact RetK [.i (bMul .i64 p2 p0), .i (if (bSub .i64 p1 (bMul .i64 p2 p0)) < p0 then (bSub .i64 p1 (bMul .i64 p2 p0)) else p0)] _ [] kr kr (.refl _) .nil
theorem impl_ManOk_ok (u : Nat) (p0 : Manifest) (r : Bool) (h : impl_ManOk u p0 = some r) : CallOK Tryz.prog 151 [.agg [.i p0.fGen, .i p0.fSize, .i p0.fLen, .t (.sl 2 (p0.fSums.map Sum.enc))]] (.one (.b r)) [] := by
 unfold impl_ManOk at h
 refine CallOK.of_bodyK (fn := Tryz.f151) (m := false) [.agg ((Manifest.enc p0).map .t)] kr rfl kr kr kr kr kr ?_
 refine Wp.sag ⟨[(1, .obj 1 0), (2, .b false)], [(1, ((Manifest.enc p0).map .t))], []⟩ ?_
 refine Wp.seq ?_
 refine Wp.sb 1 ?_
 obtain ⟨r1, e_r1, h⟩ := bind_some h
 refine Runs.ck 10 [.agg ((Manifest.enc p0).map .t)] (impl_isZeroMan_ok u p0 r1 e_r1) ?_
 refine Runs.done ?_
 refine thenN ?_
 refine Wp.fg ⟨[(1, .obj 1 0), (2, .b false), (10, .b r1)], [(1, ((Manifest.enc p0).map .t))], []⟩ ?_
 refine Wp.c2 h (fun h => ?_) (fun h => ?_)
 ·refine Wp.sag ⟨[(1, .obj 1 0), (2, .b true)], [(1, ((Manifest.enc p0).map .t))], []⟩ ?_
  refine Wp.ret ?_
  refine thenR ?_
  obtain rfl := oi h
  exact RetK [.b true] _ [] kr kr (.refl _) .nil
 refine Wp.sk ?_
 refine Wp.seq ?_
 refine Wp.seqJ (α := Bool × Manifest) (fun a => ⟨[(1, .obj 1 0), (2, .b false), (33, .b a.1)], [(1, ((Manifest.enc a.2).map .t))], []⟩) (fun a => impl_ManOk_j1 u a.1 a.2 = some r) ?_ ?_
 ·rintro ⟨x5, p0⟩ h
  change impl_ManOk_j1 u x5 p0 = some r at h
  unfold impl_ManOk_j1 at h
  refine Wp.c2 h (fun h => ?_) (fun h => ?_)
  ·refine Wp.sag ⟨[(1, .obj 1 0), (2, .b false)], [(1, ((Manifest.enc p0).map .t))], []⟩ ?_
   refine Wp.ret ?_
   refine thenR ?_
   obtain rfl := oi h
   exact RetK [.b false] _ [] kr kr (.refl _) .nil
  refine Wp.sk ?_
  refine Wp.seqJ (α := Unit) (fun a => ⟨[(2, .b false)], [], []⟩) (fun a => impl_ManOk_j2 u = some r) ?_ ?_
  ·rintro ⟨⟩ h
   change impl_ManOk_j2 u = some r at h
   unfold impl_ManOk_j2 at h
   refine Wp.sag ⟨[(2, .b true)], [], []⟩ ?_
   refine Wp.ret ?_
   obtain rfl := oi h
   exact RetK [.b true] _ [] kr kr (.refl _) .nil
  ·refine Wp.sb 2 ?_
   refine Runs.lenT (y := .t (.sl 2 (p0.fSums.map Sum.enc))) (e := 189) Sum.enc p0.fSums 2 rfl rfl rfl kr kr kr kr kr ?_
   refine Runs.allf ⟨[(1, .obj 1 0), (2, .b false), (35, .t (.sl 2 (p0.fSums.map Sum.enc))), (36, .i ((p0.fSums.length : Int))), (37, .i 0)], [(1, ((Manifest.enc p0).map .t))], []⟩ ?_
   refine Wp.block ?_
   refine Wp.loopF (α := Manifest × Int) (fun a => ⟨[(1, .obj 1 0), (2, .b false), (35, .t (.sl 2 (a.1.fSums.map Sum.enc))), (36, .i ((a.1.fSums.length : Int))), (37, .i a.2)], [(1, ((Manifest.enc a.1).map .t))], []⟩) (fun k_impl_ManOk_l3 a => impl_ManOk_l3 u k_impl_ManOk_l3 a.1 a.2 = some r) ?_ ?_ u (p0, 0) h (Le.of (mo := []) (mr := []) kr kr kr kr)
   ·intro a h; unfold impl_ManOk_l3 at h; cases h
   ·rintro k_impl_ManOk_l3 ⟨p0, x7⟩ h
    change impl_ManOk_l3 u (k_impl_ManOk_l3 + 1) p0 x7 = some r at h
    rw [impl_ManOk_l3] at h
    refine Wp.sag ⟨[(1, .obj 1 0), (2, .b false), (35, .t (.sl 2 (p0.fSums.map Sum.enc))), (36, .i ((p0.fSums.length : Int))), (37, .i x7), (38, .b (decide (x7 < ((p0.fSums.length : Int)))))], [(1, ((Manifest.enc p0).map .t))], []⟩ ?_
    refine Wp.seq ?_
    refine Wp.c2 h (fun h => ?_) (fun h => ?_)
    ·refine Wp.sk ?_
     refine Wp.seq ?_
     refine Wp.block ?_
     refine Wp.sb 1 ?_
     obtain ⟨y9, e_y9, h⟩ := bind_some h
     refine Runs.idxT (e := 189) (kk := .i64) (sz := 2) Sum.enc p0.fSums x7 rfl kr kr kr kr kr kr e_y9 ?_
     refine Runs.allf ⟨[(1, .obj 1 0), (2, .b false), (3, .i x7), (4, .obj 4 0), (35, .t (.sl 2 (p0.fSums.map Sum.enc))), (36, .i ((p0.fSums.length : Int))), (37, .i x7)], [(1, ((Manifest.enc p0).map .t)), (4, [.i y9.fW, .i y9.fS])], []⟩ ?_
     refine Wp.sb 2 ?_
     obtain ⟨r10, e_r10, h⟩ := bind_some h
     refine Runs.ck 45 [.i y9.fS] (impl_BytesOf_ok u y9.fS r10 e_r10) ?_
     refine Runs.allf ⟨[(1, .obj 1 0), (2, .b false), (3, .i x7), (4, .obj 4 0), (5, .own 2949120), (6, .b r10.2), (35, .t (.sl 2 (p0.fSums.map Sum.enc))), (36, .i ((p0.fSums.length : Int))), (37, .i x7)], [(1, ((Manifest.enc p0).map .t)), (4, [.i y9.fW, .i y9.fS])], [(2949120, .live 5 1 (r10.1.map (eInt .u8)))]⟩ ?_
     refine Wp.sb 5 ?_
     obtain ⟨r11, e_r11, h⟩ := bind_some h
     refine Runs.ck 54 [.i p0.fSize, .i p0.fLen, .i x7] (impl_SpanOf_ok u p0.fSize p0.fLen x7 r11 e_r11) ?_
     refine Runs.allf ⟨[(1, .obj 1 0), (2, .b false), (4, .obj 4 0), (5, .own 2949120), (6, .b r10.2), (8, .i r11.2), (35, .t (.sl 2 (p0.fSums.map Sum.enc))), (36, .i ((p0.fSums.length : Int))), (37, .i x7)], [(1, ((Manifest.enc p0).map .t)), (4, [.i y9.fW, .i y9.fS])], [(2949120, .live 5 1 (r10.1.map (eInt .u8)))]⟩ ?_
     refine Wp.seqJ (α := Manifest × Int × Bool) (fun a => ⟨[(1, .obj 1 0), (2, .b false), (35, .t (.sl 2 (a.1.fSums.map Sum.enc))), (36, .i ((a.1.fSums.length : Int))), (37, .i a.2.1), (71, .b a.2.2)], [(1, ((Manifest.enc a.1).map .t))], []⟩) (fun a => impl_ManOk_j4 u (fun z0 z1 => impl_ManOk_l3 u k_impl_ManOk_l3 z0 z1) a.1 a.2.1 a.2.2 = some r) ?_ ?_
     ·rintro ⟨p0, x7, x13⟩ h
      change impl_ManOk_j4 u (fun z0 z1 => impl_ManOk_l3 u k_impl_ManOk_l3 z0 z1) p0 x7 x13 = some r at h
      unfold impl_ManOk_j4 at h
      refine Wp.c2 h (fun h => ?_) (fun h => ?_)
      ·refine Wp.sag ⟨[(1, .obj 1 0), (2, .b false), (35, .t (.sl 2 (p0.fSums.map Sum.enc))), (36, .i ((p0.fSums.length : Int))), (37, .i x7)], [(1, ((Manifest.enc p0).map .t))], []⟩ ?_
       refine Wp.ret ?_
       refine blkR ?_
       refine thenR ?_
       refine thenR ?_
       refine blkR ?_
       refine thenR ?_
       obtain rfl := oi h
       exact RetK [.b false] _ [] kr kr (.refl _) .nil
      refine Wp.skip ?_
      refine blkN ?_
      refine thenN ?_
      refine Wp.rg [] [] ?_
      refine Runs.alln ?_
      exact ⟨(p0, bAdd .i64 x7 1), h, Le.of (mo := []) (mr := []) kr kr kr kr⟩
     ·refine Wp.regionA (pOf []) (rhoOf [(4, .obj 4), (5, .own 45), (6, .frz), (8, .frz), (57, .frz), (58, .frz), (59, .frz), (60, .own 45), (61, .frz), (62, .frz), (64, .frz), (65, .frz), (66, .own 45), (67, .frz), (68, .obj 4), (69, .frz)]) kr kr ?_
      refine Runs.batch 3 kr ?_
      rcases tf (!r10.2) with hc | hc
      ·have h := cond_t h hc
       refine Runs.known 59 (v := true) kr hc ?_
       refine Runs.alln ?_
       exact ⟨(p0, x7, true), h, Le.of (mo := []) (mr := []) kr kr kr kr⟩
      have h := cond_f h hc
      refine Runs.known 59 (v := false) kr hc ?_
      refine Runs.batch 1 kr ?_
      refine Runs.lenT (y := .own 2949120) (e := 5) (eInt .u8) r10.1 1 rfl rfl rfl kr kr kr kr kr ?_
      refine Runs.batch 4 kr ?_
      rcases tf (((r10.1.length : Int)) != r11.2) with hc | hc
      ·have h := cond_t h hc
       refine Runs.known 65 (v := true) kr hc ?_
       refine Runs.alln ?_
       exact ⟨(p0, x7, true), h, Le.of (mo := []) (mr := []) kr kr kr kr⟩
      have h := cond_f h hc
      refine Runs.known 65 (v := false) kr hc ?_
      refine Runs.batch 1 kr ?_
      obtain ⟨r12, e_r12, h⟩ := bind_some h
      refine Runs.callBK 67 182 [] [.own 2949120] [.one (.s r10.1)] (.one (.i r12)) rfl rfl kr kr kr kr kr (impl_WeakOf_ok u r10.1 r12 e_r12) (by simp [V.plain, V.plains, C.plain, T.sc]) kr ?_
      refine Runs.alln ?_
      exact ⟨(p0, x7, r12 != y9.fW), h, Le.of (mo := []) (mr := []) kr kr kr kr⟩
    refine Wp.exit ?_
    refine thenE ?_
    refine thenE ?_
    refine blkE ?_
    refine thenN ?_
    exact ⟨(), h, Le.of (mo := []) (mr := []) kr kr kr kr⟩
 ·refine Wp.regionA (pOf []) (rhoOf [(1, .obj 1), (11, .obj 1), (12, .frz), (13, .frz), (14, .frz), (15, .frz), (16, .obj 1), (17, .frz), (18, .obj 1), (19, .frz), (20, .frz), (22, .frz), (23, .frz), (24, .obj 1), (25, .frz), (26, .frz), (27, .obj 1), (28, .frz), (29, .obj 1), (30, .frz), (31, .frz)]) kr kr ?_
  refine Runs.batch 2 kr ?_
  obtain ⟨r2, e_r2, h⟩ := bind_some h
  refine Runs.ck 13 [.i p0.fGen, .i 1, .i 1000000] (impl_within_ok u p0.fGen 1 1000000 r2 e_r2) ?_
  refine Runs.batch 2 kr ?_
  rcases tf (!r2) with hc | hc
  ·have h := cond_t h hc
   refine Runs.known 15 (v := true) kr hc ?_
   refine Runs.alln ?_
   exact ⟨(true, p0), h, Le.of (mo := []) (mr := []) kr kr kr kr⟩
  have h := cond_f h hc
  refine Runs.known 15 (v := false) kr hc ?_
  refine Runs.batch 4 kr ?_
  obtain ⟨r3, e_r3, h⟩ := bind_some h
  refine Runs.ck 20 [.i p0.fSize, .i p0.fLen] (impl_SizeOk_ok u p0.fSize p0.fLen r3 e_r3) ?_
  refine Runs.batch 3 kr ?_
  rcases tf (!r3) with hc | hc
  ·have h := cond_t h hc
   refine Runs.known 23 (v := true) kr hc ?_
   refine Runs.alln ?_
   exact ⟨(true, p0), h, Le.of (mo := []) (mr := []) kr kr kr kr⟩
  have h := cond_f h hc
  refine Runs.known 23 (v := false) kr hc ?_
  refine Runs.batch 2 kr ?_
  refine Runs.lenT (y := .t (.sl 2 (p0.fSums.map Sum.enc))) (e := 189) Sum.enc p0.fSums 2 rfl rfl rfl kr kr kr kr kr ?_
  refine Runs.batch 4 kr ?_
  obtain ⟨r4, e_r4, h⟩ := bind_some h
  refine Runs.ck 31 [.i p0.fSize, .i p0.fLen] (impl_Blocks_ok u p0.fSize p0.fLen r4 e_r4) ?_
  refine Runs.alln ?_
  exact ⟨(((p0.fSums.length : Int)) != r4, p0), h, Le.of (mo := []) (mr := []) kr kr kr kr⟩
theorem impl_GetMan_ok (u : Nat) (p0 : List Int) (p1 : Int) (r : Manifest × Int × Bool) (h : impl_GetMan u p0 p1 = some r) : CallOK Tryz.prog 173 [.one (.s p0), .one (.i p1)] (.tup [.agg [.i r.1.fGen, .i r.1.fSize, .i r.1.fLen, .ow 189 2 (r.1.fSums.map Sum.enc)], .one (.i r.2.1), .one (.b r.2.2)]) [] := by
 unfold impl_GetMan at h
 refine CallOK.of_bodyK (fn := Tryz.f173) (m := true) [.s p0, .i p1] kr rfl kr kr kr kr kr ?_
 refine Wp.sag ⟨[(0, .s p0), (1, .i p1), (4, .obj 4 0), (5, .i 0), (6, .b false)], [(4, [.i 0, .i 0, .i 0, .nil])], []⟩ ?_
 refine Wp.sb 2 ?_
 obtain ⟨r1, e_r1, h⟩ := bind_some h
 refine Runs.ck 18 [.s p0, .i p1, .i 3] (impl_readVars_ok u p0 p1 3 r1 e_r1) ?_
 refine Runs.allf ⟨[(0, .s p0), (1, .i r1.2.1), (4, .obj 4 0), (5, .i 0), (6, .b false), (7, .own 1179648), (8, .b r1.2.2)], [(4, [.i 0, .i 0, .i 0, .nil])], [(1179648, .live 3 1 (r1.1.map (eInt .i64)))]⟩ ?_
 refine Wp.seq ?_
 refine Wp.sag ⟨[(0, .s p0), (1, .i r1.2.1), (4, .obj 4 0), (5, .i 0), (6, .b false), (7, .own 1179648), (23, .b (!r1.2.2))], [(4, [.i 0, .i 0, .i 0, .nil])], [(1179648, .live 3 1 (r1.1.map (eInt .i64)))]⟩ ?_
 refine Wp.c2 h (fun h => ?_) (fun h => ?_)
 ·refine Wp.sag ⟨[(0, .s p0), (1, .i r1.2.1), (4, .obj 4 0), (5, .i 0), (6, .b false), (7, .own 1179648)], [(4, [.i 0, .i 0, .i 0, .nil])], [(1179648, .live 3 1 (r1.1.map (eInt .i64)))]⟩ ?_
  refine Wp.ret ?_
  refine thenR ?_
  obtain rfl := oi h
  exact RetK [.agg [.i 0, .i 0, .i 0, .nil], .i 0, .b false] (.tup [.agg [.i 0, .i 0, .i 0, .nil], .one (.i 0), .one (.b false)]) [] kr kr (.tup (.cons (.agg (.cons (.refl _) (.cons (.refl _) (.cons (.refl _) (.cons (.nilO _ _) .nil))))) (.cons (.refl _) (.cons (.refl _) .nil)))) .nil
 refine Wp.sk ?_
 refine Wp.seq ?_
 refine Wp.regionA (pOf []) (rhoOf [(7, .own 18), (9, .obj 9), (25, .own 18), (26, .el 18), (27, .frz), (28, .own 18), (29, .el 18), (30, .frz), (31, .own 18), (32, .el 18), (33, .frz), (34, .frz)]) kr kr ?_
 refine Runs.batch 1 kr ?_
 obtain ⟨y2, e_y2, h⟩ := bind_some h
 refine Runs.idxO (e := 3) (e' := 3) (kk := .i64) (sz := 1) (eInt .i64) r1.1 0 1179648 rfl kr kr kr kr kr kr kr e_y2 ?_
 refine Runs.loadE (e' := 3) (sz := 1) (m := 1) (gg := false) (eInt .i64) r1.1 1179648 (Int.toNat 0) 0 (.i y2) rfl kr kr kr kr kr kr (idx_some e_y2).2 kr ?_
 refine Runs.batch 1 kr ?_
 obtain ⟨y3, e_y3, h⟩ := bind_some h
 refine Runs.idxO (e := 3) (e' := 3) (kk := .i64) (sz := 1) (eInt .i64) r1.1 1 1179648 rfl kr kr kr kr kr kr kr e_y3 ?_
 refine Runs.loadE (e' := 3) (sz := 1) (m := 1) (gg := false) (eInt .i64) r1.1 1179648 (Int.toNat 1) 0 (.i y3) rfl kr kr kr kr kr kr (idx_some e_y3).2 kr ?_
 refine Runs.batch 1 kr ?_
 obtain ⟨y4, e_y4, h⟩ := bind_some h
 refine Runs.idxO (e := 3) (e' := 3) (kk := .i64) (sz := 1) (eInt .i64) r1.1 2 1179648 rfl kr kr kr kr kr kr kr e_y4 ?_
 refine Runs.loadE (e' := 3) (sz := 1) (m := 1) (gg := false) (eInt .i64) r1.1 1179648 (Int.toNat 2) 0 (.i y4) rfl kr kr kr kr kr kr (idx_some e_y4).2 kr ?_
 refine Runs.allf ⟨[(0, .s p0), (1, .i r1.2.1), (4, .obj 4 0), (5, .i 0), (6, .b false), (9, .obj 9 0)], [(4, [.i 0, .i 0, .i 0, .nil]), (9, [.i y2, .i y3, .i y4, .nil])], []⟩ ?_
 refine Wp.seqJ (α := Int × Int × Int × Int × (List Sum)) (fun a => ⟨[(1, .i a.1), (4, .obj 4 0), (5, .i 0), (6, .b false), (9, .obj 9 0)], [(4, [.i 0, .i 0, .i 0, .nil]), (9, [.i a.2.1, .i a.2.2.1, .i a.2.2.2.1, .own 590339])], [(590339, .live 189 2 (a.2.2.2.2.map Sum.enc))]⟩) (fun a => impl_GetMan_j1 u a.1 a.2.1 a.2.2.1 a.2.2.2.1 a.2.2.2.2 = some r) ?_ ?_
 ·rintro ⟨x19, y2, y3, y4, x20⟩ h
  change impl_GetMan_j1 u x19 y2 y3 y4 x20 = some r at h
  unfold impl_GetMan_j1 at h
  refine Wp.seq ?_
  refine Wp.sb 1 ?_
  obtain ⟨r21, e_r21, h⟩ := bind_some h
  refine Runs.callBK 71 151 [] [.agg [.i y2, .i y3, .i y4, .own 590339]] [.agg [.i y2, .i y3, .i y4, .t (.sl 2 (x20.map Sum.enc))]] (.one (.b r21)) rfl rfl kr kr kr kr kr (impl_ManOk_ok u ((Manifest.mk y2 y3 y4 x20)) r21 e_r21) (by simp [V.plain, V.plains, C.plain, T.sc]) kr ?_
  refine Runs.allf ⟨[(1, .i x19), (4, .obj 4 0), (5, .i 0), (6, .b false), (9, .obj 9 0), (72, .b (!r21))], [(4, [.i 0, .i 0, .i 0, .nil]), (9, [.i y2, .i y3, .i y4, .own 590339])], [(590339, .live 189 2 (x20.map Sum.enc))]⟩ ?_
  refine Wp.c2 h (fun h => ?_) (fun h => ?_)
  ·refine Wp.sag ⟨[(1, .i x19), (4, .obj 4 0), (5, .i 0), (6, .b false), (9, .obj 9 0)], [(4, [.i 0, .i 0, .i 0, .nil]), (9, [.i y2, .i y3, .i y4, .own 590339])], [(590339, .live 189 2 (x20.map Sum.enc))]⟩ ?_
   refine Wp.ret ?_
   refine thenR ?_
   obtain rfl := oi h
   exact RetK [.agg [.i 0, .i 0, .i 0, .nil], .i 0, .b false] (.tup [.agg [.i 0, .i 0, .i 0, .nil], .one (.i 0), .one (.b false)]) [] kr kr (.tup (.cons (.agg (.cons (.refl _) (.cons (.refl _) (.cons (.refl _) (.cons (.nilO _ _) .nil))))) (.cons (.refl _) (.cons (.refl _) .nil)))) .nil
  refine Wp.sk ?_
  refine Wp.sag ⟨[(4, .obj 4 0), (5, .i x19), (6, .b true)], [(4, [.i y2, .i y3, .i y4, .own 590339])], [(590339, .live 189 2 (x20.map Sum.enc))]⟩ ?_
  refine Wp.ret ?_
  obtain rfl := oi h
  exact RetK [.agg [.i y2, .i y3, .i y4, .own 590339], .i x19, .b true] _ [] kr kr (.refl _) .nil
 ·refine Wp.sb 4 ?_
  obtain ⟨r5, e_r5, h⟩ := bind_some h
  refine Runs.ck 39 [.i y3, .i y4] (impl_Blocks_ok u y3 y4 r5 e_r5) ?_
  refine Runs.allf ⟨[(0, .s p0), (1, .i r1.2.1), (4, .obj 4 0), (5, .i 0), (6, .b false), (9, .obj 9 0), (39, .i r5), (40, .i 0)], [(4, [.i 0, .i 0, .i 0, .nil]), (9, [.i y2, .i y3, .i y4, .nil])], []⟩ ?_
  refine Wp.block ?_
  refine Wp.loopF (α := (List Int) × Int × Int × Int × Int × Int × Int × (List Sum)) (fun a => ⟨[(0, .s a.1), (1, .i a.2.1), (4, .obj 4 0), (5, .i 0), (6, .b false), (9, .obj 9 0), (39, .i a.2.2.1), (40, .i a.2.2.2.1)], [(4, [.i 0, .i 0, .i 0, .nil]), (9, [.i a.2.2.2.2.1, .i a.2.2.2.2.2.1, .i a.2.2.2.2.2.2.1, .own 590339])], [(590339, .live 189 2 (a.2.2.2.2.2.2.2.map Sum.enc))]⟩) (fun k_impl_GetMan_l2 a => impl_GetMan_l2 u k_impl_GetMan_l2 a.1 a.2.1 a.2.2.1 a.2.2.2.1 a.2.2.2.2.1 a.2.2.2.2.2.1 a.2.2.2.2.2.2.1 a.2.2.2.2.2.2.2 = some r) ?_ ?_ u (p0, r1.2.1, r5, 0, y2, y3, y4, []) h (Le.trans (Le.emptyO 9 3 590339 189 2 [.i y2, .i y3, .i y4, .nil] kr kr kr) (Le.of (mo := []) (mr := []) kr kr kr kr))
  ·intro a h; unfold impl_GetMan_l2 at h; cases h
  ·rintro k_impl_GetMan_l2 ⟨p0, x9, r5, x10, y2, y3, y4, x11⟩ h
   change impl_GetMan_l2 u (k_impl_GetMan_l2 + 1) p0 x9 r5 x10 y2 y3 y4 x11 = some r at h
   rw [impl_GetMan_l2] at h
   refine Wp.sag ⟨[(0, .s p0), (1, .i x9), (4, .obj 4 0), (5, .i 0), (6, .b false), (9, .obj 9 0), (39, .i r5), (40, .i x10), (41, .b (decide (x10 < r5)))], [(4, [.i 0, .i 0, .i 0, .nil]), (9, [.i y2, .i y3, .i y4, .own 590339])], [(590339, .live 189 2 (x11.map Sum.enc))]⟩ ?_
   refine Wp.seq ?_
   refine Wp.c2 h (fun h => ?_) (fun h => ?_)
   ·refine Wp.sk ?_
    refine Wp.seq ?_
    refine Wp.block ?_
    refine Wp.sb 2 ?_
    obtain ⟨r15, e_r15, h⟩ := bind_some h
    refine Runs.ck 45 [.s p0, .i x9, .i 8] (impl_readVar_ok u p0 x9 8 r15 e_r15) ?_
    refine Runs.allf ⟨[(0, .s p0), (1, .i x9), (4, .obj 4 0), (5, .i 0), (6, .b false), (9, .obj 9 0), (10, .i r15.1), (11, .i r15.2.1), (12, .b r15.2.2), (39, .i r5), (40, .i x10)], [(4, [.i 0, .i 0, .i 0, .nil]), (9, [.i y2, .i y3, .i y4, .own 590339])], [(590339, .live 189 2 (x11.map Sum.enc))]⟩ ?_
    refine Wp.sb 1 ?_
    obtain ⟨r16, e_r16, h⟩ := bind_some h
    refine Runs.ck 51 [.i r15.1] (impl_BytesOf_ok u r15.1 r16 e_r16) ?_
    refine Runs.allf ⟨[(0, .s p0), (1, .i x9), (4, .obj 4 0), (5, .i 0), (6, .b false), (9, .obj 9 0), (11, .i r15.2.1), (12, .b r15.2.2), (13, .own 3342336), (14, .b r16.2), (39, .i r5), (40, .i x10)], [(4, [.i 0, .i 0, .i 0, .nil]), (9, [.i y2, .i y3, .i y4, .own 590339])], [(590339, .live 189 2 (x11.map Sum.enc)), (3342336, .live 5 1 (r16.1.map (eInt .u8)))]⟩ ?_
    refine Wp.seq ?_
    refine Wp.seqJ (α := (List Int) × Int × (Int × Int × Bool) × ((List Int) × Bool) × Int × Int × Bool × Int × Int × Int × (List Sum)) (fun a => ⟨[(0, .s a.1), (1, .i a.2.1), (4, .obj 4 0), (5, .i 0), (6, .b false), (9, .obj 9 0), (11, .i a.2.2.1.2.1), (13, .own 851969), (39, .i a.2.2.2.2.1), (40, .i a.2.2.2.2.2.1), (59, .b a.2.2.2.2.2.2.1)], [(4, [.i 0, .i 0, .i 0, .nil]), (9, [.i a.2.2.2.2.2.2.2.1, .i a.2.2.2.2.2.2.2.2.1, .i a.2.2.2.2.2.2.2.2.2.1, .own 590339])], [(590339, .live 189 2 (a.2.2.2.2.2.2.2.2.2.2.map Sum.enc)), (851969, .live 5 1 (a.2.2.2.1.1.map (eInt .u8)))]⟩) (fun a => impl_GetMan_j3 u (fun z0 z1 z2 z3 z4 z5 z6 z7 => impl_GetMan_l2 u k_impl_GetMan_l2 z0 z1 z2 z3 z4 z5 z6 z7) a.1 a.2.1 a.2.2.1 a.2.2.2.1 a.2.2.2.2.1 a.2.2.2.2.2.1 a.2.2.2.2.2.2.1 a.2.2.2.2.2.2.2.1 a.2.2.2.2.2.2.2.2.1 a.2.2.2.2.2.2.2.2.2.1 a.2.2.2.2.2.2.2.2.2.2 = some r) ?_ ?_
    ·rintro ⟨p0, x9, r15, r16, r5, x10, x17, y2, y3, y4, x11⟩ h
     change impl_GetMan_j3 u (fun z0 z1 z2 z3 z4 z5 z6 z7 => impl_GetMan_l2 u k_impl_GetMan_l2 z0 z1 z2 z3 z4 z5 z6 z7) p0 x9 r15 r16 r5 x10 x17 y2 y3 y4 x11 = some r at h
     unfold impl_GetMan_j3 at h
     refine Wp.c2 h (fun h => ?_) (fun h => ?_)
     ·refine Wp.sag ⟨[(0, .s p0), (1, .i x9), (4, .obj 4 0), (5, .i 0), (6, .b false), (9, .obj 9 0), (11, .i r15.2.1), (13, .own 851969), (39, .i r5), (40, .i x10)], [(4, [.i 0, .i 0, .i 0, .nil]), (9, [.i y2, .i y3, .i y4, .own 590339])], [(590339, .live 189 2 (x11.map Sum.enc)), (851969, .live 5 1 (r16.1.map (eInt .u8)))]⟩ ?_
      refine Wp.ret ?_
      refine thenR ?_
      refine blkR ?_
      refine thenR ?_
      refine thenR ?_
      refine blkR ?_
      refine thenR ?_
      obtain rfl := oi h
      exact RetK [.agg [.i 0, .i 0, .i 0, .nil], .i 0, .b false] (.tup [.agg [.i 0, .i 0, .i 0, .nil], .one (.i 0), .one (.b false)]) [] kr kr (.tup (.cons (.agg (.cons (.refl _) (.cons (.refl _) (.cons (.refl _) (.cons (.nilO _ _) .nil))))) (.cons (.refl _) (.cons (.refl _) .nil)))) .nil
     refine Wp.sk ?_
     refine Wp.seq ?_
     refine Wp.regionA (pOf []) (rhoOf [(9, .obj 9), (13, .own 13), (61, .obj 9), (62, .own 9), (63, .own 13), (64, .frz), (65, .own 65), (66, .own 66), (67, .obj 9)]) kr kr ?_
     refine Runs.batch 3 kr ?_
     obtain ⟨r18, e_r18, h⟩ := bind_some h
     refine Runs.callBK 64 150 [] [.own 851969] [.one (.s r16.1)] (.agg [.i r18.fW, .i r18.fS]) rfl rfl kr kr kr kr kr (impl_SumOf_ok u r16.1 r18 e_r18) (by simp [V.plain, V.plains, C.plain, T.sc]) kr ?_
     refine Runs.batch 1 kr ?_
     obtain ⟨_, e_19, h⟩ := bind_some h
     refine Runs.appT (y := .own 4259840) Sum.enc 66 2 189 2 16 590339 x11 ([r18]) rfl rfl rfl rfl kr kr kr kr kr kr (.inl rfl) kr (of_decide_eq_true (chk_some e_19)) kr kr ?_
     refine Runs.allf ⟨[(0, .s p0), (1, .i x9), (4, .obj 4 0), (5, .i 0), (6, .b false), (9, .obj 9 0), (11, .i r15.2.1), (39, .i r5), (40, .i x10)], [(4, [.i 0, .i 0, .i 0, .nil]), (9, [.i y2, .i y3, .i y4, .own 4325376])], [(4325376, .live 189 2 ((x11 ++ ([r18])).map Sum.enc))]⟩ ?_
     refine Wp.rg [] [] ?_
     refine Runs.all kr ?_
     refine blkN ?_
     refine thenN ?_
     refine Wp.rg [] [] ?_
     refine Runs.alln ?_
     exact ⟨(p0, r15.2.1, r5, bAdd .i64 x10 1, y2, y3, y4, x11 ++ ([r18])), h, Le.of (mo := []) (mr := [(590339, 4325376)]) kr kr kr kr⟩
    ·refine Wp.rg [] [] ?_
     refine Runs.batch 3 kr ?_
     rcases tf (!r15.2.2) with hc | hc
     ·have h := cond_t h hc
      refine Runs.known 56 (v := true) kr hc ?_
      refine Runs.alln ?_
      exact ⟨(p0, x9, r15, r16, r5, x10, true, y2, y3, y4, x11), h, Le.of (mo := []) (mr := [(851969, 3342336)]) kr kr kr kr⟩
     have h := cond_f h hc
     refine Runs.known 56 (v := false) kr hc ?_
     refine Runs.alln ?_
     exact ⟨(p0, x9, r15, r16, r5, x10, !r16.2, y2, y3, y4, x11), h, Le.of (mo := []) (mr := [(851969, 3342336)]) kr kr kr kr⟩
   refine Wp.exit ?_
   refine thenE ?_
   refine thenE ?_
   refine blkE ?_
   refine thenN ?_
   exact ⟨(x9, y2, y3, y4, x11), h, Le.of (mo := []) (mr := []) kr kr kr kr⟩
theorem impl_cloned_ok (u : Nat) (p0 : List Int) (r : (List Int)) (h : impl_cloned u p0 = some r) : CallOK Tryz.prog 152 [.one (.s p0)] (.one (.ow 5 1 (r.map (eInt .u8)))) [] := by
 unfold impl_cloned at h
 refine CallOK.of_bodyK (fn := Tryz.f152) (m := true) [.s p0] kr rfl kr kr kr kr kr ?_
 refine Wp.sag ⟨[(0, .s p0), (2, .nil)], [], []⟩ ?_
 refine Wp.sb 1 ?_
 refine Runs.lenT (y := .s p0) (e := 5) (eInt .u8) p0 1 rfl rfl rfl kr kr kr kr kr ?_
 obtain ⟨_, e_1, h⟩ := bind_some h
 obtain ⟨_, e_2, h⟩ := bind_some h
 refine Runs.mkS (eInt .u8) (0 : Int) 5 5 1 1 0 ((p0.length : Int)) rfl rfl kr kr kr kr kr kr (chk_some e_1) (of_decide_eq_true (chk_some e_2)) kr ?_
 refine Runs.batch 1 kr ?_
 obtain ⟨_, e_3, h⟩ := bind_some h
 refine Runs.appT (y := .s p0) (eInt .u8) 7 1 5 1 1 327680 (List.replicate (Int.toNat 0) (0 : Int)) p0 rfl rfl rfl rfl kr kr kr kr kr kr (.inl rfl) kr (of_decide_eq_true (chk_some e_3)) kr kr ?_
 refine Runs.allf ⟨[(2, .own 458752)], [], [(458752, .live 5 1 (((List.replicate (Int.toNat 0) (0 : Int)) ++ p0).map (eInt .u8)))]⟩ ?_
 refine Wp.ret ?_
 obtain rfl := oi h
 exact RetK [.own 458752] _ [] kr kr (.refl _) .nil
theorem impl_Slice_ok (u : Nat) (p0 : List Int) (p1 : Int) (p2 : Int) (r : (List Int) × Bool) (h : impl_Slice u p0 p1 p2 = some r) : CallOK Tryz.prog 188 [.one (.s p0), .one (.i p1), .one (.i p2)] (.tup [.one (.ow 5 1 (r.1.map (eInt .u8))), .one (.b r.2)]) [] := by
 unfold impl_Slice at h
 refine CallOK.of_bodyK (fn := Tryz.f188) (m := true) [.s p0, .i p1, .i p2] kr rfl kr kr kr kr kr ?_
 refine Wp.sag ⟨[(0, .s p0), (1, .i p1), (2, .i p2), (6, .nil), (7, .b false)], [], []⟩ ?_
 refine Wp.seq ?_
 refine Wp.seqJ (α := (List Int) × Int × Int × Bool) (fun a => ⟨[(0, .s a.1), (1, .i a.2.1), (2, .i a.2.2.1), (6, .nil), (7, .b false), (21, .b a.2.2.2)], [], []⟩) (fun a => impl_Slice_j1 u a.1 a.2.1 a.2.2.1 a.2.2.2 = some r) ?_ ?_
 ·rintro ⟨p0, p1, p2, x3⟩ h
  change impl_Slice_j1 u p0 p1 p2 x3 = some r at h
  unfold impl_Slice_j1 at h
  refine Wp.c2 h (fun h => ?_) (fun h => ?_)
  ·refine Wp.sag ⟨[(0, .s p0), (1, .i p1), (2, .i p2), (6, .nil), (7, .b false)], [], []⟩ ?_
   refine Wp.ret ?_
   refine thenR ?_
   obtain rfl := oi h
   exact RetK [.nil, .b false] (.tup [.one (.nil), .one (.b false)]) [] kr kr (.tup (.cons (.one (.nilO _ _)) (.cons (.refl _) .nil))) .nil
  refine Wp.sk ?_
  refine Wp.sb 5 ?_
  obtain ⟨_, e_4, h⟩ := bind_some h
  refine Runs.subsl (e := 5) (ax := .s p0) (alo := (some (.i p1))) (ahi := (some (.i (bAdd .i64 p1 p2)))) (eInt .u8) p0 1 p1 (bAdd .i64 p1 p2) rfl kr kr kr kr kr kr kr kr kr kr kr (chk_some e_4) ?_
  obtain ⟨r5, e_r5, h⟩ := bind_some h
  refine Runs.ck 28 [.t (.sl 1 (((p0.take (Int.toNat (bAdd .i64 p1 p2))).drop (Int.toNat p1)).map (eInt .u8)))] (impl_cloned_ok u ((p0.take (Int.toNat (bAdd .i64 p1 p2))).drop (Int.toNat p1)) r5 e_r5) ?_
  refine Runs.allf ⟨[(6, .own 1835008), (7, .b true)], [], [(1835008, .live 5 1 (r5.map (eInt .u8)))]⟩ ?_
  refine Wp.ret ?_
  obtain rfl := oi h
  exact RetK [.own 1835008, .b true] _ [] kr kr (.refl _) .nil
 ·refine Wp.rg [] [] ?_
  refine Runs.batch 2 kr ?_
  refine Runs.lenT (y := .s p0) (e := 5) (eInt .u8) p0 1 rfl rfl rfl kr kr kr kr kr ?_
  obtain ⟨r1, e_r1, h⟩ := bind_some h
  refine Runs.ck 11 [.i p1, .i 0, .i ((p0.length : Int))] (impl_within_ok u p1 0 ((p0.length : Int)) r1 e_r1) ?_
  refine Runs.batch 2 kr ?_
  rcases tf (!r1) with hc | hc
  ·have h := cond_t h hc
   refine Runs.known 13 (v := true) kr hc ?_
   refine Runs.alln ?_
   exact ⟨(p0, p1, p2, true), h, Le.of (mo := []) (mr := []) kr kr kr kr⟩
  have h := cond_f h hc
  refine Runs.known 13 (v := false) kr hc ?_
  refine Runs.batch 2 kr ?_
  refine Runs.lenT (y := .s p0) (e := 5) (eInt .u8) p0 1 rfl rfl rfl kr kr kr kr kr ?_
  refine Runs.batch 2 kr ?_
  obtain ⟨r2, e_r2, h⟩ := bind_some h
  refine Runs.ck 19 [.i p2, .i 0, .i (bSub .i64 ((p0.length : Int)) p1)] (impl_within_ok u p2 0 (bSub .i64 ((p0.length : Int)) p1) r2 e_r2) ?_
  refine Runs.alln ?_
  exact ⟨(p0, p1, p2, !r2), h, Le.of (mo := []) (mr := []) kr kr kr kr⟩
theorem impl_GetPart_ok (u : Nat) (p0 : List Int) (p1 : Int) (p2 : Int) (r : (List Int) × Int × Bool) (h : impl_GetPart u p0 p1 p2 = some r) : CallOK Tryz.prog 175 [.one (.s p0), .one (.i p1), .one (.i p2)] (.tup [.one (.ow 5 1 (r.1.map (eInt .u8))), .one (.i r.2.1), .one (.b r.2.2)]) [] := by
 unfold impl_GetPart at h
 refine CallOK.of_bodyK (fn := Tryz.f175) (m := true) [.s p0, .i p1, .i p2] kr rfl kr kr kr kr kr ?_
 refine Wp.sag ⟨[(0, .s p0), (1, .i p1), (2, .i p2), (6, .nil), (7, .i 0), (8, .b false)], [], []⟩ ?_
 refine Wp.sb 2 ?_
 obtain ⟨r1, e_r1, h⟩ := bind_some h
 refine Runs.ck 16 [.s p0, .i p1] (impl_GetVar_ok u p0 p1 r1 e_r1) ?_
 refine Runs.allf ⟨[(0, .s p0), (2, .i p2), (6, .nil), (7, .i 0), (8, .b false), (9, .i r1.1), (10, .i r1.2.1), (11, .b r1.2.2)], [], []⟩ ?_
 refine Wp.seq ?_
 refine Wp.seqJ (α := (List Int) × (Int × Int × Bool) × Bool) (fun a => ⟨[(0, .s a.1), (6, .nil), (7, .i 0), (8, .b false), (9, .i a.2.1.1), (10, .i a.2.1.2.1), (26, .b a.2.2)], [], []⟩) (fun a => impl_GetPart_j1 u a.1 a.2.1 a.2.2 = some r) ?_ ?_
 ·rintro ⟨p0, r1, x2⟩ h
  change impl_GetPart_j1 u p0 r1 x2 = some r at h
  unfold impl_GetPart_j1 at h
  refine Wp.c2 h (fun h => ?_) (fun h => ?_)
  ·refine Wp.sag ⟨[(0, .s p0), (6, .nil), (7, .i 0), (8, .b false), (9, .i r1.1), (10, .i r1.2.1)], [], []⟩ ?_
   refine Wp.ret ?_
   refine thenR ?_
   obtain rfl := oi h
   exact RetK [.nil, .i 0, .b false] (.tup [.one (.nil), .one (.i 0), .one (.b false)]) [] kr kr (.tup (.cons (.one (.nilO _ _)) (.cons (.refl _) (.cons (.refl _) .nil)))) .nil
  refine Wp.sk ?_
  refine Wp.sb 3 ?_
  obtain ⟨r3, e_r3, h⟩ := bind_some h
  refine Runs.ck 31 [.s p0, .i r1.2.1, .i r1.1] (impl_Slice_ok u p0 r1.2.1 r1.1 r3 e_r3) ?_
  refine Runs.allf ⟨[(6, .nil), (7, .i 0), (8, .b false), (9, .i r1.1), (10, .i r1.2.1), (11, .b r3.2), (12, .own 2031616)], [], [(2031616, .live 5 1 (r3.1.map (eInt .u8)))]⟩ ?_
  refine Wp.seq ?_
  refine Wp.sag ⟨[(6, .nil), (7, .i 0), (8, .b false), (9, .i r1.1), (10, .i r1.2.1), (12, .own 2031616), (35, .b (!r3.2))], [], [(2031616, .live 5 1 (r3.1.map (eInt .u8)))]⟩ ?_
  refine Wp.c2 h (fun h => ?_) (fun h => ?_)
  ·refine Wp.sag ⟨[(6, .nil), (7, .i 0), (8, .b false), (9, .i r1.1), (10, .i r1.2.1), (12, .own 2031616)], [], [(2031616, .live 5 1 (r3.1.map (eInt .u8)))]⟩ ?_
   refine Wp.ret ?_
   refine thenR ?_
   obtain rfl := oi h
   exact RetK [.nil, .i 0, .b false] (.tup [.one (.nil), .one (.i 0), .one (.b false)]) [] kr kr (.tup (.cons (.one (.nilO _ _)) (.cons (.refl _) (.cons (.refl _) .nil)))) .nil
  refine Wp.sk ?_
  refine Wp.sag ⟨[(6, .own 2031616), (7, .i (bAdd .i64 r1.2.1 r1.1)), (8, .b true)], [], [(2031616, .live 5 1 (r3.1.map (eInt .u8)))]⟩ ?_
  refine Wp.ret ?_
  obtain rfl := oi h
  exact RetK [.own 2031616, .i (bAdd .i64 r1.2.1 r1.1), .b true] _ [] kr kr (.refl _) .nil
 ·refine Wp.rg [] [] ?_
  refine Runs.batch 3 kr ?_
  rcases tf (!r1.2.2) with hc | hc
  ·have h := cond_t h hc
   refine Runs.known 22 (v := true) kr hc ?_
   refine Runs.alln ?_
   exact ⟨(p0, r1, true), h, Le.of (mo := []) (mr := []) kr kr kr kr⟩
  have h := cond_f h hc
  refine Runs.known 22 (v := false) kr hc ?_
  refine Runs.alln ?_
  exact ⟨(p0, r1, decide (r1.1 > p2)), h, Le.of (mo := []) (mr := []) kr kr kr kr⟩
theorem impl_readMsg_ok (u : Nat) (p0 : List Int) (p1 : Int) (p2 : Int) (r : Msg × Bool) (h : impl_readMsg u p0 p1 p2 = some r) : CallOK Tryz.prog 134 [.one (.s p0), .one (.i p1), .one (.i p2)] (.tup [.agg [.i r.1.fKind, .i r.1.fGen, .i r.1.fMan.fGen, .i r.1.fMan.fSize, .i r.1.fMan.fLen, .ow 189 2 (r.1.fMan.fSums.map Sum.enc), .i r.1.fWant, .i r.1.fDone, .i r.1.fI, .ow 5 1 (r.1.fB.map (eInt .u8))], .one (.b r.2)]) [] := by
 unfold impl_readMsg at h
 refine CallOK.of_bodyK (fn := Tryz.f134) (m := true) [.s p0, .i p1, .i p2] kr rfl kr kr kr kr kr ?_
 refine Wp.sag ⟨[(0, .s p0), (1, .i p1), (2, .i p2), (6, .obj 6 0), (7, .b false)], [(6, [.i 0, .i 0, .i 0, .i 0, .i 0, .nil, .i 0, .i 0, .i 0, .nil])], []⟩ ?_
 refine Wp.sag ⟨[(0, .s p0), (1, .i p1), (2, .i p2), (6, .obj 6 0), (7, .b false), (8, .obj 8 0)], [(6, [.i 0, .i 0, .i 0, .i 0, .i 0, .nil, .i 0, .i 0, .i 0, .nil]), (8, [.i p1, .i 0, .i 0, .i 0, .i 0, .nil, .i 0, .i 0, .i 0, .nil])], []⟩ ?_
 refine Wp.sag ⟨[(0, .s p0), (1, .i p1), (2, .i p2), (6, .obj 6 0), (7, .b false), (8, .obj 8 0), (9, .b false)], [(6, [.i 0, .i 0, .i 0, .i 0, .i 0, .nil, .i 0, .i 0, .i 0, .nil]), (8, [.i p1, .i 0, .i 0, .i 0, .i 0, .nil, .i 0, .i 0, .i 0, .nil])], []⟩ ?_
 refine Wp.seqJ (α := Bool × Int × Int × Int × Int × Int × (List Sum) × Int × Int × Int × (List Int)) (fun a => ⟨[(6, .obj 6 0), (7, .b false), (8, .obj 8 0), (9, .b a.1)], [(6, [.i 0, .i 0, .i 0, .i 0, .i 0, .nil, .i 0, .i 0, .i 0, .nil]), (8, [.i a.2.1, .i a.2.2.1, .i a.2.2.2.1, .i a.2.2.2.2.1, .i a.2.2.2.2.2.1, .own 524805, .i a.2.2.2.2.2.2.2.1, .i a.2.2.2.2.2.2.2.2.1, .i a.2.2.2.2.2.2.2.2.2.1, .own 524809])], [(524805, .live 189 2 (a.2.2.2.2.2.2.1.map Sum.enc)), (524809, .live 5 1 (a.2.2.2.2.2.2.2.2.2.2.map (eInt .u8)))]⟩) (fun a => impl_readMsg_j1 u a.1 a.2.1 a.2.2.1 a.2.2.2.1 a.2.2.2.2.1 a.2.2.2.2.2.1 a.2.2.2.2.2.2.1 a.2.2.2.2.2.2.2.1 a.2.2.2.2.2.2.2.2.1 a.2.2.2.2.2.2.2.2.2.1 a.2.2.2.2.2.2.2.2.2.2 = some r) ?_ ?_
 ·rintro ⟨x13, p1, x14, x15, x16, x17, x18, x19, x20, x21, x22⟩ h
  change impl_readMsg_j1 u x13 p1 x14 x15 x16 x17 x18 x19 x20 x21 x22 = some r at h
  unfold impl_readMsg_j1 at h
  refine Wp.sag ⟨[(6, .obj 6 0), (7, .b x13)], [(6, [.i p1, .i x14, .i x15, .i x16, .i x17, .own 524805, .i x19, .i x20, .i x21, .own 524809])], [(524805, .live 189 2 (x18.map Sum.enc)), (524809, .live 5 1 (x22.map (eInt .u8)))]⟩ ?_
  refine Wp.ret ?_
  obtain rfl := oi h
  exact RetK [.agg [.i p1, .i x14, .i x15, .i x16, .i x17, .own 524805, .i x19, .i x20, .i x21, .own 524809], .b x13] _ [] kr kr (.refl _) .nil
 ·refine Wp.sag ⟨[(0, .s p0), (2, .i p2), (6, .obj 6 0), (7, .b false), (8, .obj 8 0), (9, .b false), (18, .i p1)], [(6, [.i 0, .i 0, .i 0, .i 0, .i 0, .nil, .i 0, .i 0, .i 0, .nil]), (8, [.i p1, .i 0, .i 0, .i 0, .i 0, .nil, .i 0, .i 0, .i 0, .nil])], []⟩ ?_
  refine Wp.block ?_
  refine Wp.sag ⟨[(0, .s p0), (2, .i p2), (6, .obj 6 0), (7, .b false), (8, .obj 8 0), (9, .b false), (18, .i p1), (19, .b (p1 == 1))], [(6, [.i 0, .i 0, .i 0, .i 0, .i 0, .nil, .i 0, .i 0, .i 0, .nil]), (8, [.i p1, .i 0, .i 0, .i 0, .i 0, .nil, .i 0, .i 0, .i 0, .nil])], []⟩ ?_
  refine Wp.c2 h (fun h => ?_) (fun h => ?_)
  ·refine Wp.rg [] [] ?_
   refine Runs.batch 2 kr ?_
   obtain ⟨r1, e_r1, h⟩ := bind_some h
   refine Runs.ck 24 [.s p0, .i p2] (impl_GetMan_ok u p0 p2 r1 e_r1) ?_
   refine Runs.all kr ?_
   refine blkN ?_
   refine thenN ?_
   exact ⟨(r1.2.2, p1, 0, r1.1.fGen, r1.1.fSize, r1.1.fLen, r1.1.fSums, 0, 0, 0, []), h, Le.trans (Le.emptyO 8 9 524809 5 1 [.i p1, .i 0, .i r1.1.fGen, .i r1.1.fSize, .i r1.1.fLen, .own 1572867, .i 0, .i 0, .i 0, .nil] kr kr kr) (Le.of (mo := []) (mr := [(524805, 1572867)]) kr kr kr kr)⟩
  refine Wp.sag ⟨[(0, .s p0), (2, .i p2), (6, .obj 6 0), (7, .b false), (8, .obj 8 0), (9, .b false), (18, .i p1), (29, .b (p1 == 2))], [(6, [.i 0, .i 0, .i 0, .i 0, .i 0, .nil, .i 0, .i 0, .i 0, .nil]), (8, [.i p1, .i 0, .i 0, .i 0, .i 0, .nil, .i 0, .i 0, .i 0, .nil])], []⟩ ?_
  refine Wp.c2 h (fun h => ?_) (fun h => ?_)
  ·refine Wp.sb 2 ?_
   obtain ⟨r2, e_r2, h⟩ := bind_some h
   refine Runs.ck 34 [.s p0, .i p2, .i 5] (impl_readVars_ok u p0 p2 5 r2 e_r2) ?_
   refine Runs.allf ⟨[(6, .obj 6 0), (7, .b false), (8, .obj 8 0), (9, .b false), (10, .own 2228224), (12, .b r2.2.2)], [(6, [.i 0, .i 0, .i 0, .i 0, .i 0, .nil, .i 0, .i 0, .i 0, .nil]), (8, [.i p1, .i 0, .i 0, .i 0, .i 0, .nil, .i 0, .i 0, .i 0, .nil])], [(2228224, .live 3 1 (r2.1.map (eInt .i64)))]⟩ ?_
   refine Wp.seq ?_
   refine Wp.sag ⟨[(6, .obj 6 0), (7, .b false), (8, .obj 8 0), (9, .b false), (10, .own 2228224), (39, .b (!r2.2.2))], [(6, [.i 0, .i 0, .i 0, .i 0, .i 0, .nil, .i 0, .i 0, .i 0, .nil]), (8, [.i p1, .i 0, .i 0, .i 0, .i 0, .nil, .i 0, .i 0, .i 0, .nil])], [(2228224, .live 3 1 (r2.1.map (eInt .i64)))]⟩ ?_
   refine Wp.c2 h (fun h => ?_) (fun h => ?_)
   ·refine Wp.sag ⟨[(6, .obj 6 0), (7, .b false), (8, .obj 8 0), (9, .b false), (10, .own 2228224)], [(6, [.i 0, .i 0, .i 0, .i 0, .i 0, .nil, .i 0, .i 0, .i 0, .nil]), (8, [.i p1, .i 0, .i 0, .i 0, .i 0, .nil, .i 0, .i 0, .i 0, .nil])], [(2228224, .live 3 1 (r2.1.map (eInt .i64)))]⟩ ?_
    refine Wp.ret ?_
    refine thenR ?_
    refine blkR ?_
    refine thenR ?_
    obtain rfl := oi h
    exact RetK [.agg [.i 0, .i 0, .i 0, .i 0, .i 0, .nil, .i 0, .i 0, .i 0, .nil], .b false] (.tup [.agg [.i 0, .i 0, .i 0, .i 0, .i 0, .nil, .i 0, .i 0, .i 0, .nil], .one (.b false)]) [] kr kr (.tup (.cons (.agg (.cons (.refl _) (.cons (.refl _) (.cons (.refl _) (.cons (.refl _) (.cons (.refl _) (.cons (.nilO _ _) (.cons (.refl _) (.cons (.refl _) (.cons (.refl _) (.cons (.nilO _ _) .nil))))))))))) (.cons (.refl _) .nil))) .nil
   refine Wp.sk ?_
   refine Wp.regionA (pOf []) (rhoOf [(8, .obj 8), (10, .own 34), (41, .own 34), (42, .el 34), (43, .frz), (44, .own 34), (45, .el 34), (46, .frz), (47, .own 34), (48, .el 34), (49, .frz), (50, .frz), (51, .frz), (52, .own 34), (53, .el 34), (54, .frz), (55, .own 34), (56, .el 34), (57, .frz), (58, .frz), (59, .frz), (60, .obj 8), (61, .obj 8), (62, .obj 8)]) kr kr ?_
   refine Runs.batch 1 kr ?_
   obtain ⟨y3, e_y3, h⟩ := bind_some h
   refine Runs.idxO (e := 3) (e' := 3) (kk := .i64) (sz := 1) (eInt .i64) r2.1 0 2228224 rfl kr kr kr kr kr kr kr e_y3 ?_
   refine Runs.loadE (e' := 3) (sz := 1) (m := 1) (gg := false) (eInt .i64) r2.1 2228224 (Int.toNat 0) 0 (.i y3) rfl kr kr kr kr kr kr (idx_some e_y3).2 kr ?_
   refine Runs.batch 1 kr ?_
   obtain ⟨y4, e_y4, h⟩ := bind_some h
   refine Runs.idxO (e := 3) (e' := 3) (kk := .i64) (sz := 1) (eInt .i64) r2.1 1 2228224 rfl kr kr kr kr kr kr kr e_y4 ?_
   refine Runs.loadE (e' := 3) (sz := 1) (m := 1) (gg := false) (eInt .i64) r2.1 2228224 (Int.toNat 1) 0 (.i y4) rfl kr kr kr kr kr kr (idx_some e_y4).2 kr ?_
   refine Runs.batch 1 kr ?_
   obtain ⟨y5, e_y5, h⟩ := bind_some h
   refine Runs.idxO (e := 3) (e' := 3) (kk := .i64) (sz := 1) (eInt .i64) r2.1 2 2228224 rfl kr kr kr kr kr kr kr e_y5 ?_
   refine Runs.loadE (e' := 3) (sz := 1) (m := 1) (gg := false) (eInt .i64) r2.1 2228224 (Int.toNat 2) 0 (.i y5) rfl kr kr kr kr kr kr (idx_some e_y5).2 kr ?_
   refine Runs.batch 3 kr ?_
   obtain ⟨y6, e_y6, h⟩ := bind_some h
   refine Runs.idxO (e := 3) (e' := 3) (kk := .i64) (sz := 1) (eInt .i64) r2.1 3 2228224 rfl kr kr kr kr kr kr kr e_y6 ?_
   refine Runs.loadE (e' := 3) (sz := 1) (m := 1) (gg := false) (eInt .i64) r2.1 2228224 (Int.toNat 3) 0 (.i y6) rfl kr kr kr kr kr kr (idx_some e_y6).2 kr ?_
   refine Runs.batch 1 kr ?_
   obtain ⟨y7, e_y7, h⟩ := bind_some h
   refine Runs.idxO (e := 3) (e' := 3) (kk := .i64) (sz := 1) (eInt .i64) r2.1 4 2228224 rfl kr kr kr kr kr kr kr e_y7 ?_
   refine Runs.loadE (e' := 3) (sz := 1) (m := 1) (gg := false) (eInt .i64) r2.1 2228224 (Int.toNat 4) 0 (.i y7) rfl kr kr kr kr kr kr (idx_some e_y7).2 kr ?_
   refine Runs.all kr ?_
   refine blkN ?_
   refine thenN ?_
   exact ⟨(true, p1, y3, 0, 0, 0, [], bOr .i64 y4 (bShl .i64 y5 20), bOr .i64 y6 (bShl .i64 y7 20), 0, []), h, Le.trans (Le.emptyO 8 5 524805 189 2 [.i p1, .i y3, .i 0, .i 0, .i 0, .nil, .i (bOr .i64 y4 (bShl .i64 y5 20)), .i (bOr .i64 y6 (bShl .i64 y7 20)), .i 0, .nil] kr kr kr) (Le.trans (Le.emptyO 8 9 524809 5 1 [.i p1, .i y3, .i 0, .i 0, .i 0, .own 524805, .i (bOr .i64 y4 (bShl .i64 y5 20)), .i (bOr .i64 y6 (bShl .i64 y7 20)), .i 0, .nil] kr kr kr) (Le.of (mo := []) (mr := []) kr kr kr kr))⟩
  refine Wp.sag ⟨[(0, .s p0), (2, .i p2), (6, .obj 6 0), (7, .b false), (8, .obj 8 0), (9, .b false), (18, .i p1), (63, .b (p1 == 3))], [(6, [.i 0, .i 0, .i 0, .i 0, .i 0, .nil, .i 0, .i 0, .i 0, .nil]), (8, [.i p1, .i 0, .i 0, .i 0, .i 0, .nil, .i 0, .i 0, .i 0, .nil])], []⟩ ?_
  refine Wp.c2 h (fun h => ?_) (fun h => ?_)
  ·refine Wp.sb 2 ?_
   obtain ⟨r8, e_r8, h⟩ := bind_some h
   refine Runs.ck 68 [.s p0, .i p2, .i 2] (impl_readVars_ok u p0 p2 2 r8 e_r8) ?_
   refine Runs.allf ⟨[(0, .s p0), (6, .obj 6 0), (7, .b false), (8, .obj 8 0), (9, .b false), (13, .own 4456448), (14, .i r8.2.1), (15, .b r8.2.2)], [(6, [.i 0, .i 0, .i 0, .i 0, .i 0, .nil, .i 0, .i 0, .i 0, .nil]), (8, [.i p1, .i 0, .i 0, .i 0, .i 0, .nil, .i 0, .i 0, .i 0, .nil])], [(4456448, .live 3 1 (r8.1.map (eInt .i64)))]⟩ ?_
   refine Wp.seq ?_
   refine Wp.sag ⟨[(0, .s p0), (6, .obj 6 0), (7, .b false), (8, .obj 8 0), (9, .b false), (13, .own 4456448), (14, .i r8.2.1), (73, .b (!r8.2.2))], [(6, [.i 0, .i 0, .i 0, .i 0, .i 0, .nil, .i 0, .i 0, .i 0, .nil]), (8, [.i p1, .i 0, .i 0, .i 0, .i 0, .nil, .i 0, .i 0, .i 0, .nil])], [(4456448, .live 3 1 (r8.1.map (eInt .i64)))]⟩ ?_
   refine Wp.c2 h (fun h => ?_) (fun h => ?_)
   ·refine Wp.sag ⟨[(0, .s p0), (6, .obj 6 0), (7, .b false), (8, .obj 8 0), (9, .b false), (13, .own 4456448), (14, .i r8.2.1)], [(6, [.i 0, .i 0, .i 0, .i 0, .i 0, .nil, .i 0, .i 0, .i 0, .nil]), (8, [.i p1, .i 0, .i 0, .i 0, .i 0, .nil, .i 0, .i 0, .i 0, .nil])], [(4456448, .live 3 1 (r8.1.map (eInt .i64)))]⟩ ?_
    refine Wp.ret ?_
    refine thenR ?_
    refine blkR ?_
    refine thenR ?_
    obtain rfl := oi h
    exact RetK [.agg [.i 0, .i 0, .i 0, .i 0, .i 0, .nil, .i 0, .i 0, .i 0, .nil], .b false] (.tup [.agg [.i 0, .i 0, .i 0, .i 0, .i 0, .nil, .i 0, .i 0, .i 0, .nil], .one (.b false)]) [] kr kr (.tup (.cons (.agg (.cons (.refl _) (.cons (.refl _) (.cons (.refl _) (.cons (.refl _) (.cons (.refl _) (.cons (.nilO _ _) (.cons (.refl _) (.cons (.refl _) (.cons (.refl _) (.cons (.nilO _ _) .nil))))))))))) (.cons (.refl _) .nil))) .nil
   refine Wp.sk ?_
   refine Wp.seq ?_
   refine Wp.regionA (pOf []) (rhoOf [(8, .obj 8), (13, .own 68), (75, .own 68), (76, .el 68), (77, .frz), (78, .own 68), (79, .el 68), (80, .frz), (81, .obj 8), (82, .obj 8)]) kr kr ?_
   refine Runs.batch 1 kr ?_
   obtain ⟨y9, e_y9, h⟩ := bind_some h
   refine Runs.idxO (e := 3) (e' := 3) (kk := .i64) (sz := 1) (eInt .i64) r8.1 0 4456448 rfl kr kr kr kr kr kr kr e_y9 ?_
   refine Runs.loadE (e' := 3) (sz := 1) (m := 1) (gg := false) (eInt .i64) r8.1 4456448 (Int.toNat 0) 0 (.i y9) rfl kr kr kr kr kr kr (idx_some e_y9).2 kr ?_
   refine Runs.batch 1 kr ?_
   obtain ⟨y10, e_y10, h⟩ := bind_some h
   refine Runs.idxO (e := 3) (e' := 3) (kk := .i64) (sz := 1) (eInt .i64) r8.1 1 4456448 rfl kr kr kr kr kr kr kr e_y10 ?_
   refine Runs.loadE (e' := 3) (sz := 1) (m := 1) (gg := false) (eInt .i64) r8.1 4456448 (Int.toNat 1) 0 (.i y10) rfl kr kr kr kr kr kr (idx_some e_y10).2 kr ?_
   refine Runs.allf ⟨[(0, .s p0), (6, .obj 6 0), (7, .b false), (8, .obj 8 0), (9, .b false), (14, .i r8.2.1)], [(6, [.i 0, .i 0, .i 0, .i 0, .i 0, .nil, .i 0, .i 0, .i 0, .nil]), (8, [.i p1, .i y9, .i 0, .i 0, .i 0, .nil, .i 0, .i 0, .i y10, .nil])], []⟩ ?_
   refine Wp.rg [] [] ?_
   refine Runs.batch 2 kr ?_
   obtain ⟨r11, e_r11, h⟩ := bind_some h
   refine Runs.ck 86 [.s p0, .i r8.2.1, .i 6] (impl_GetPart_ok u p0 r8.2.1 6 r11 e_r11) ?_
   refine Runs.all kr ?_
   refine blkN ?_
   refine thenN ?_
   exact ⟨(r11.2.2, p1, y9, 0, 0, 0, [], 0, 0, y10, r11.1), h, Le.trans (Le.emptyO 8 5 524805 189 2 [.i p1, .i y9, .i 0, .i 0, .i 0, .nil, .i 0, .i 0, .i y10, .own 5636096] kr kr kr) (Le.of (mo := []) (mr := [(524809, 5636096)]) kr kr kr kr)⟩
  refine Wp.sag ⟨[(0, .s p0), (2, .i p2), (6, .obj 6 0), (7, .b false), (8, .obj 8 0), (9, .b false), (91, .b (p1 == 4))], [(6, [.i 0, .i 0, .i 0, .i 0, .i 0, .nil, .i 0, .i 0, .i 0, .nil]), (8, [.i p1, .i 0, .i 0, .i 0, .i 0, .nil, .i 0, .i 0, .i 0, .nil])], []⟩ ?_
  refine Wp.c2 h (fun h => ?_) (fun h => ?_)
  ·refine Wp.rg [] [] ?_
   refine Runs.batch 2 kr ?_
   obtain ⟨r12, e_r12, h⟩ := bind_some h
   refine Runs.ck 96 [.s p0, .i p2] (impl_GetVar_ok u p0 p2 r12 e_r12) ?_
   refine Runs.all kr ?_
   refine blkN ?_
   refine thenN ?_
   exact ⟨(r12.2.2, p1, r12.1, 0, 0, 0, [], 0, 0, 0, []), h, Le.trans (Le.emptyO 8 5 524805 189 2 [.i p1, .i r12.1, .i 0, .i 0, .i 0, .nil, .i 0, .i 0, .i 0, .nil] kr kr kr) (Le.trans (Le.emptyO 8 9 524809 5 1 [.i p1, .i r12.1, .i 0, .i 0, .i 0, .own 524805, .i 0, .i 0, .i 0, .nil] kr kr kr) (Le.of (mo := []) (mr := []) kr kr kr kr))⟩
  refine Wp.skip ?_
  refine blkN ?_
  refine thenN ?_
  exact ⟨(false, p1, 0, 0, 0, 0, [], 0, 0, 0, []), h, Le.trans (Le.emptyO 8 5 524805 189 2 [.i p1, .i 0, .i 0, .i 0, .i 0, .nil, .i 0, .i 0, .i 0, .nil] kr kr kr) (Le.trans (Le.emptyO 8 9 524809 5 1 [.i p1, .i 0, .i 0, .i 0, .i 0, .own 524805, .i 0, .i 0, .i 0, .nil] kr kr kr) (Le.of (mo := []) (mr := []) kr kr kr kr))⟩
theorem impl_Msg__isBare_ok (u : Nat) (p0 : Msg) (p1 : Bool) (p2 : Bool) (p3 : Bool) (r : Bool) (h : impl_Msg__isBare u p0 p1 p2 p3 = some r) : CallOK Tryz.prog 176 [.agg [.i p0.fKind, .i p0.fGen, .i p0.fMan.fGen, .i p0.fMan.fSize, .i p0.fMan.fLen, .t (.sl 2 (p0.fMan.fSums.map Sum.enc)), .i p0.fWant, .i p0.fDone, .i p0.fI, .s p0.fB], .one (.b p1), .one (.b p2), .one (.b p3)] (.one (.b r)) [] := by
 unfold impl_Msg__isBare at h
 refine CallOK.of_bodyK (fn := Tryz.f176) (m := false) [.agg ((Msg.enc p0).map .t), .b p1, .b p2, .b p3] kr rfl kr kr kr kr kr ?_
 refine Wp.sag ⟨[(1, .b p1), (2, .b p2), (3, .b p3), (4, .obj 4 0), (8, .b false)], [(4, ((Msg.enc p0).map .t))], []⟩ ?_
 refine Wp.sb 2 ?_
 rcases tf (p1) with hc | hc
 ·have h := cond_t h hc
  refine Runs.known 10 (v := true) kr hc ?_
  refine Runs.batch 7 kr ?_
  rcases tf (p2) with hc | hc
  ·have h := cond_t h hc
   refine Runs.known 17 (v := true) kr hc ?_
   refine Runs.batch 13 kr ?_
   rcases tf (p3) with hc | hc
   ·have h := cond_t h hc
    refine Runs.known 30 (v := true) kr hc ?_
    refine Runs.allf ⟨[(8, .b true)], [], []⟩ ?_
    refine Wp.ret ?_
    obtain rfl := oi h
    exact RetK [.b true] _ [] kr kr (.refl _) .nil
   have h := cond_f h hc
   refine Runs.known 30 (v := false) kr hc ?_
   refine Runs.batch 4 kr ?_
   rcases tf (p0.fI == 0) with hc | hc
   ·have h := cond_t h hc
    refine Runs.known 34 (v := true) kr hc ?_
    refine Runs.batch 2 kr ?_
    refine Runs.lenT (y := .s p0.fB) (e := 5) (eInt .u8) p0.fB 1 rfl rfl rfl kr kr kr kr kr ?_
    refine Runs.allf ⟨[(8, .b (((p0.fB.length : Int)) == 0))], [], []⟩ ?_
    refine Wp.ret ?_
    obtain rfl := oi h
    exact RetK [.b (((p0.fB.length : Int)) == 0)] _ [] kr kr (.refl _) .nil
   have h := cond_f h hc
   refine Runs.known 34 (v := false) kr hc ?_
   refine Runs.allf ⟨[(8, .b false)], [], []⟩ ?_
   refine Wp.ret ?_
   obtain rfl := oi h
   exact RetK [.b false] _ [] kr kr (.refl _) .nil
  have h := cond_f h hc
  refine Runs.known 17 (v := false) kr hc ?_
  refine Runs.batch 4 kr ?_
  rcases tf (p0.fWant == 0) with hc | hc
  ·have h := cond_t h hc
   refine Runs.known 21 (v := true) kr hc ?_
   refine Runs.batch 7 kr ?_
   rcases tf (p0.fDone == 0) with hc | hc
   ·have h := cond_t h hc
    refine Runs.known 28 (v := true) kr hc ?_
    refine Runs.batch 2 kr ?_
    rcases tf (p3) with hc | hc
    ·have h := cond_t h hc
     refine Runs.known 30 (v := true) kr hc ?_
     refine Runs.allf ⟨[(8, .b true)], [], []⟩ ?_
     refine Wp.ret ?_
     obtain rfl := oi h
     exact RetK [.b true] _ [] kr kr (.refl _) .nil
    have h := cond_f h hc
    refine Runs.known 30 (v := false) kr hc ?_
    refine Runs.batch 4 kr ?_
    rcases tf (p0.fI == 0) with hc | hc
    ·have h := cond_t h hc
     refine Runs.known 34 (v := true) kr hc ?_
     refine Runs.batch 2 kr ?_
     refine Runs.lenT (y := .s p0.fB) (e := 5) (eInt .u8) p0.fB 1 rfl rfl rfl kr kr kr kr kr ?_
     refine Runs.allf ⟨[(8, .b (((p0.fB.length : Int)) == 0))], [], []⟩ ?_
     refine Wp.ret ?_
     obtain rfl := oi h
     exact RetK [.b (((p0.fB.length : Int)) == 0)] _ [] kr kr (.refl _) .nil
    have h := cond_f h hc
    refine Runs.known 34 (v := false) kr hc ?_
    refine Runs.allf ⟨[(8, .b false)], [], []⟩ ?_
    refine Wp.ret ?_
    obtain rfl := oi h
    exact RetK [.b false] _ [] kr kr (.refl _) .nil
   have h := cond_f h hc
   refine Runs.known 28 (v := false) kr hc ?_
   refine Runs.allf ⟨[(8, .b false)], [], []⟩ ?_
   refine Wp.ret ?_
   obtain rfl := oi h
   exact RetK [.b false] _ [] kr kr (.refl _) .nil
  have h := cond_f h hc
  refine Runs.known 21 (v := false) kr hc ?_
  refine Runs.allf ⟨[(8, .b false)], [], []⟩ ?_
  refine Wp.ret ?_
  obtain rfl := oi h
  exact RetK [.b false] _ [] kr kr (.refl _) .nil
 have h := cond_f h hc
 refine Runs.known 10 (v := false) kr hc ?_
 refine Runs.batch 2 kr ?_
 obtain ⟨r1, e_r1, h⟩ := bind_some h
 refine Runs.ck 13 [.agg ((Manifest.enc p0.fMan).map .t)] (impl_isZeroMan_ok u p0.fMan r1 e_r1) ?_
 refine Runs.batch 2 kr ?_
 rcases tf (r1) with hc | hc
 ·have h := cond_t h hc
  refine Runs.known 15 (v := true) kr hc ?_
  refine Runs.batch 2 kr ?_
  rcases tf (p2) with hc | hc
  ·have h := cond_t h hc
   refine Runs.known 17 (v := true) kr hc ?_
   refine Runs.batch 13 kr ?_
   rcases tf (p3) with hc | hc
   ·have h := cond_t h hc
    refine Runs.known 30 (v := true) kr hc ?_
    refine Runs.allf ⟨[(8, .b true)], [], []⟩ ?_
    refine Wp.ret ?_
    obtain rfl := oi h
    exact RetK [.b true] _ [] kr kr (.refl _) .nil
   have h := cond_f h hc
   refine Runs.known 30 (v := false) kr hc ?_
   refine Runs.batch 4 kr ?_
   rcases tf (p0.fI == 0) with hc | hc
   ·have h := cond_t h hc
    refine Runs.known 34 (v := true) kr hc ?_
    refine Runs.batch 2 kr ?_
    refine Runs.lenT (y := .s p0.fB) (e := 5) (eInt .u8) p0.fB 1 rfl rfl rfl kr kr kr kr kr ?_
    refine Runs.allf ⟨[(8, .b (((p0.fB.length : Int)) == 0))], [], []⟩ ?_
    refine Wp.ret ?_
    obtain rfl := oi h
    exact RetK [.b (((p0.fB.length : Int)) == 0)] _ [] kr kr (.refl _) .nil
   have h := cond_f h hc
   refine Runs.known 34 (v := false) kr hc ?_
   refine Runs.allf ⟨[(8, .b false)], [], []⟩ ?_
   refine Wp.ret ?_
   obtain rfl := oi h
   exact RetK [.b false] _ [] kr kr (.refl _) .nil
  have h := cond_f h hc
  refine Runs.known 17 (v := false) kr hc ?_
  refine Runs.batch 4 kr ?_
  rcases tf (p0.fWant == 0) with hc | hc
  ·have h := cond_t h hc
   refine Runs.known 21 (v := true) kr hc ?_
   refine Runs.batch 7 kr ?_
   rcases tf (p0.fDone == 0) with hc | hc
   ·have h := cond_t h hc
    refine Runs.known 28 (v := true) kr hc ?_
    refine Runs.batch 2 kr ?_
    rcases tf (p3) with hc | hc
    ·have h := cond_t h hc
     refine Runs.known 30 (v := true) kr hc ?_
     refine Runs.allf ⟨[(8, .b true)], [], []⟩ ?_
     refine Wp.ret ?_
     obtain rfl := oi h
     exact RetK [.b true] _ [] kr kr (.refl _) .nil
    have h := cond_f h hc
    refine Runs.known 30 (v := false) kr hc ?_
    refine Runs.batch 4 kr ?_
    rcases tf (p0.fI == 0) with hc | hc
    ·have h := cond_t h hc
     refine Runs.known 34 (v := true) kr hc ?_
     refine Runs.batch 2 kr ?_
     refine Runs.lenT (y := .s p0.fB) (e := 5) (eInt .u8) p0.fB 1 rfl rfl rfl kr kr kr kr kr ?_
     refine Runs.allf ⟨[(8, .b (((p0.fB.length : Int)) == 0))], [], []⟩ ?_
     refine Wp.ret ?_
     obtain rfl := oi h
     exact RetK [.b (((p0.fB.length : Int)) == 0)] _ [] kr kr (.refl _) .nil
    have h := cond_f h hc
    refine Runs.known 34 (v := false) kr hc ?_
    refine Runs.allf ⟨[(8, .b false)], [], []⟩ ?_
    refine Wp.ret ?_
    obtain rfl := oi h
    exact RetK [.b false] _ [] kr kr (.refl _) .nil
   have h := cond_f h hc
   refine Runs.known 28 (v := false) kr hc ?_
   refine Runs.allf ⟨[(8, .b false)], [], []⟩ ?_
   refine Wp.ret ?_
   obtain rfl := oi h
   exact RetK [.b false] _ [] kr kr (.refl _) .nil
  have h := cond_f h hc
  refine Runs.known 21 (v := false) kr hc ?_
  refine Runs.allf ⟨[(8, .b false)], [], []⟩ ?_
  refine Wp.ret ?_
  obtain rfl := oi h
  exact RetK [.b false] _ [] kr kr (.refl _) .nil
 have h := cond_f h hc
 refine Runs.known 15 (v := false) kr hc ?_
 refine Runs.allf ⟨[(8, .b false)], [], []⟩ ?_
 refine Wp.ret ?_
 obtain rfl := oi h
 exact RetK [.b false] _ [] kr kr (.refl _) .nil
theorem impl_isGen_ok (u : Nat) (p0 : Int) (r : Bool) (h : impl_isGen u p0 = some r) : CallOK Tryz.prog 177 [.one (.i p0)] (.one (.b r)) [] := by
 unfold impl_isGen at h
 refine CallOK.of_bodyK (fn := Tryz.f177) (m := false) [.i p0] kr rfl kr kr kr kr kr ?_
 refine Wp.sag ⟨[(0, .i p0), (2, .b false)], [], []⟩ ?_
 refine Wp.sb 1 ?_
 obtain ⟨r1, e_r1, h⟩ := bind_some h
 refine Runs.ck 4 [.i p0, .i 0, .i 1000000] (impl_within_ok u p0 0 1000000 r1 e_r1) ?_
 refine Runs.allf ⟨[(2, .b r1)], [], []⟩ ?_
 refine Wp.ret ?_
 obtain rfl := oi h
 exact RetK [.b r1] _ [] kr kr (.refl _) .nil
theorem impl_SetOk_ok (u : Nat) (p0 : Int) (r : Bool) (h : impl_SetOk u p0 = some r) : CallOK Tryz.prog 125 [.one (.i p0)] (.one (.b r)) [] := by
 unfold impl_SetOk at h
 refine CallOK.of_bodyK (fn := Tryz.f125) (m := false) [.i p0] kr rfl kr kr kr kr kr ?_
 refine Wp.sag ⟨[(0, .i p0), (2, .b false)], [], []⟩ ?_
 refine Wp.sb 1 ?_
 obtain ⟨r1, e_r1, h⟩ := bind_some h
 refine Runs.ck 4 [.i p0, .i 0, .i 1099511627775] (impl_within_ok u p0 0 1099511627775 r1 e_r1) ?_
 refine Runs.allf ⟨[(2, .b r1)], [], []⟩ ?_
 refine Wp.ret ?_
 obtain rfl := oi h
 exact RetK [.b r1] _ [] kr kr (.refl _) .nil
theorem impl_isPlace_ok (u : Nat) (p0 : Int) (r : Bool) (h : impl_isPlace u p0 = some r) : CallOK Tryz.prog 178 [.one (.i p0)] (.one (.b r)) [] := by
 unfold impl_isPlace at h
 refine CallOK.of_bodyK (fn := Tryz.f178) (m := false) [.i p0] kr rfl kr kr kr kr kr ?_
 refine Wp.sag ⟨[(0, .i p0), (2, .b false)], [], []⟩ ?_
 refine Wp.sb 1 ?_
 obtain ⟨r1, e_r1, h⟩ := bind_some h
 refine Runs.ck 4 [.i p0, .i 0, .i 39] (impl_within_ok u p0 0 39 r1 e_r1) ?_
 refine Runs.allf ⟨[(2, .b r1)], [], []⟩ ?_
 refine Wp.ret ?_
 obtain rfl := oi h
 exact RetK [.b r1] _ [] kr kr (.refl _) .nil
theorem impl_MsgOk_ok (u : Nat) (p0 : Msg) (r : Bool) (h : impl_MsgOk u p0 = some r) : CallOK Tryz.prog 135 [.agg [.i p0.fKind, .i p0.fGen, .i p0.fMan.fGen, .i p0.fMan.fSize, .i p0.fMan.fLen, .t (.sl 2 (p0.fMan.fSums.map Sum.enc)), .i p0.fWant, .i p0.fDone, .i p0.fI, .s p0.fB]] (.one (.b r)) [] := by
 unfold impl_MsgOk at h
 refine CallOK.of_bodyK (fn := Tryz.f135) (m := false) [.agg ((Msg.enc p0).map .t)] kr rfl kr kr kr kr kr ?_
 refine Wp.sag ⟨[(1, .obj 1 0), (2, .b false)], [(1, ((Msg.enc p0).map .t))], []⟩ ?_
 refine Wp.seq ?_
 refine Wp.sag ⟨[(1, .obj 1 0), (2, .b false), (4, .i p0.fKind)], [(1, ((Msg.enc p0).map .t))], []⟩ ?_
 refine Wp.block ?_
 refine Wp.sag ⟨[(1, .obj 1 0), (2, .b false), (4, .i p0.fKind), (5, .b (p0.fKind == 1))], [(1, ((Msg.enc p0).map .t))], []⟩ ?_
 refine Wp.c2 h (fun h => ?_) (fun h => ?_)
 ·refine Wp.sb 2 ?_
  obtain ⟨r1, e_r1, h⟩ := bind_some h
  refine Runs.ck 9 [.agg ((Manifest.enc p0.fMan).map .t)] (impl_ManOk_ok u p0.fMan r1 e_r1) ?_
  refine Runs.batch 1 kr ?_
  rcases tf (r1) with hc | hc
  ·have h := cond_t h hc
   refine Runs.known 10 (v := true) kr hc ?_
   refine Runs.batch 6 kr ?_
   rcases tf (p0.fMan.fGen != 0) with hc | hc
   ·have h := cond_t h hc
    refine Runs.known 16 (v := true) kr hc ?_
    refine Runs.batch 5 kr ?_
    rcases tf (p0.fGen == 0) with hc | hc
    ·have h := cond_t h hc
     refine Runs.known 21 (v := true) kr hc ?_
     refine Runs.batch 1 kr ?_
     obtain ⟨r2, e_r2, h⟩ := bind_some h
     refine Runs.ck 23 [.agg ((Msg.enc p0).map .t), .b true, .b false, .b false] (impl_Msg__isBare_ok u p0 true false false r2 e_r2) ?_
     refine Runs.allf ⟨[(2, .b r2)], [], []⟩ ?_
     refine Wp.ret ?_
     refine blkR ?_
     refine thenR ?_
     obtain rfl := oi h
     exact RetK [.b r2] _ [] kr kr (.refl _) .nil
    have h := cond_f h hc
    refine Runs.known 21 (v := false) kr hc ?_
    refine Runs.allf ⟨[(2, .b false)], [], []⟩ ?_
    refine Wp.ret ?_
    refine blkR ?_
    refine thenR ?_
    obtain rfl := oi h
    exact RetK [.b false] _ [] kr kr (.refl _) .nil
   have h := cond_f h hc
   refine Runs.known 16 (v := false) kr hc ?_
   refine Runs.allf ⟨[(2, .b false)], [], []⟩ ?_
   refine Wp.ret ?_
   refine blkR ?_
   refine thenR ?_
   obtain rfl := oi h
   exact RetK [.b false] _ [] kr kr (.refl _) .nil
  have h := cond_f h hc
  refine Runs.known 10 (v := false) kr hc ?_
  refine Runs.allf ⟨[(2, .b false)], [], []⟩ ?_
  refine Wp.ret ?_
  refine blkR ?_
  refine thenR ?_
  obtain rfl := oi h
  exact RetK [.b false] _ [] kr kr (.refl _) .nil
 refine Wp.sag ⟨[(1, .obj 1 0), (2, .b false), (4, .i p0.fKind), (25, .b (p0.fKind == 2))], [(1, ((Msg.enc p0).map .t))], []⟩ ?_
 refine Wp.c2 h (fun h => ?_) (fun h => ?_)
 ·refine Wp.sb 2 ?_
  obtain ⟨r3, e_r3, h⟩ := bind_some h
  refine Runs.ck 29 [.i p0.fGen] (impl_isGen_ok u p0.fGen r3 e_r3) ?_
  refine Runs.batch 1 kr ?_
  rcases tf (r3) with hc | hc
  ·have h := cond_t h hc
   refine Runs.known 30 (v := true) kr hc ?_
   refine Runs.batch 2 kr ?_
   obtain ⟨r4, e_r4, h⟩ := bind_some h
   refine Runs.ck 33 [.i p0.fWant] (impl_SetOk_ok u p0.fWant r4 e_r4) ?_
   refine Runs.batch 2 kr ?_
   rcases tf (r4) with hc | hc
   ·have h := cond_t h hc
    refine Runs.known 35 (v := true) kr hc ?_
    refine Runs.batch 2 kr ?_
    obtain ⟨r5, e_r5, h⟩ := bind_some h
    refine Runs.ck 38 [.i p0.fDone] (impl_SetOk_ok u p0.fDone r5 e_r5) ?_
    refine Runs.batch 2 kr ?_
    rcases tf (r5) with hc | hc
    ·have h := cond_t h hc
     refine Runs.known 40 (v := true) kr hc ?_
     refine Runs.batch 1 kr ?_
     obtain ⟨r6, e_r6, h⟩ := bind_some h
     refine Runs.ck 42 [.agg ((Msg.enc p0).map .t), .b false, .b true, .b false] (impl_Msg__isBare_ok u p0 false true false r6 e_r6) ?_
     refine Runs.allf ⟨[(2, .b r6)], [], []⟩ ?_
     refine Wp.ret ?_
     refine blkR ?_
     refine thenR ?_
     obtain rfl := oi h
     exact RetK [.b r6] _ [] kr kr (.refl _) .nil
    have h := cond_f h hc
    refine Runs.known 40 (v := false) kr hc ?_
    refine Runs.allf ⟨[(2, .b false)], [], []⟩ ?_
    refine Wp.ret ?_
    refine blkR ?_
    refine thenR ?_
    obtain rfl := oi h
    exact RetK [.b false] _ [] kr kr (.refl _) .nil
   have h := cond_f h hc
   refine Runs.known 35 (v := false) kr hc ?_
   refine Runs.allf ⟨[(2, .b false)], [], []⟩ ?_
   refine Wp.ret ?_
   refine blkR ?_
   refine thenR ?_
   obtain rfl := oi h
   exact RetK [.b false] _ [] kr kr (.refl _) .nil
  have h := cond_f h hc
  refine Runs.known 30 (v := false) kr hc ?_
  refine Runs.allf ⟨[(2, .b false)], [], []⟩ ?_
  refine Wp.ret ?_
  refine blkR ?_
  refine thenR ?_
  obtain rfl := oi h
  exact RetK [.b false] _ [] kr kr (.refl _) .nil
 refine Wp.sag ⟨[(1, .obj 1 0), (2, .b false), (4, .i p0.fKind), (44, .b (p0.fKind == 3))], [(1, ((Msg.enc p0).map .t))], []⟩ ?_
 refine Wp.c2 h (fun h => ?_) (fun h => ?_)
 ·refine Wp.sb 2 ?_
  obtain ⟨r7, e_r7, h⟩ := bind_some h
  refine Runs.ck 48 [.i p0.fGen, .i 1, .i 1000000] (impl_within_ok u p0.fGen 1 1000000 r7 e_r7) ?_
  refine Runs.batch 1 kr ?_
  rcases tf (r7) with hc | hc
  ·have h := cond_t h hc
   refine Runs.known 49 (v := true) kr hc ?_
   refine Runs.batch 2 kr ?_
   obtain ⟨r8, e_r8, h⟩ := bind_some h
   refine Runs.ck 52 [.i p0.fI] (impl_isPlace_ok u p0.fI r8 e_r8) ?_
   refine Runs.batch 2 kr ?_
   rcases tf (r8) with hc | hc
   ·have h := cond_t h hc
    refine Runs.known 54 (v := true) kr hc ?_
    refine Runs.batch 2 kr ?_
    refine Runs.lenT (y := .s p0.fB) (e := 5) (eInt .u8) p0.fB 1 rfl rfl rfl kr kr kr kr kr ?_
    obtain ⟨r9, e_r9, h⟩ := bind_some h
    refine Runs.ck 58 [.i ((p0.fB.length : Int)), .i 1, .i 6] (impl_within_ok u ((p0.fB.length : Int)) 1 6 r9 e_r9) ?_
    refine Runs.batch 2 kr ?_
    rcases tf (r9) with hc | hc
    ·have h := cond_t h hc
     refine Runs.known 60 (v := true) kr hc ?_
     refine Runs.batch 1 kr ?_
     obtain ⟨r10, e_r10, h⟩ := bind_some h
     refine Runs.ck 62 [.agg ((Msg.enc p0).map .t), .b false, .b false, .b true] (impl_Msg__isBare_ok u p0 false false true r10 e_r10) ?_
     refine Runs.allf ⟨[(2, .b r10)], [], []⟩ ?_
     refine Wp.ret ?_
     refine blkR ?_
     refine thenR ?_
     obtain rfl := oi h
     exact RetK [.b r10] _ [] kr kr (.refl _) .nil
    have h := cond_f h hc
    refine Runs.known 60 (v := false) kr hc ?_
    refine Runs.allf ⟨[(2, .b false)], [], []⟩ ?_
    refine Wp.ret ?_
    refine blkR ?_
    refine thenR ?_
    obtain rfl := oi h
    exact RetK [.b false] _ [] kr kr (.refl _) .nil
   have h := cond_f h hc
   refine Runs.known 54 (v := false) kr hc ?_
   refine Runs.allf ⟨[(2, .b false)], [], []⟩ ?_
   refine Wp.ret ?_
   refine blkR ?_
   refine thenR ?_
   obtain rfl := oi h
   exact RetK [.b false] _ [] kr kr (.refl _) .nil
  have h := cond_f h hc
  refine Runs.known 49 (v := false) kr hc ?_
  refine Runs.allf ⟨[(2, .b false)], [], []⟩ ?_
  refine Wp.ret ?_
  refine blkR ?_
  refine thenR ?_
  obtain rfl := oi h
  exact RetK [.b false] _ [] kr kr (.refl _) .nil
 refine Wp.sag ⟨[(1, .obj 1 0), (2, .b false), (64, .b (p0.fKind == 4))], [(1, ((Msg.enc p0).map .t))], []⟩ ?_
 refine Wp.c2 h (fun h => ?_) (fun h => ?_)
 ·refine Wp.sb 2 ?_
  obtain ⟨r11, e_r11, h⟩ := bind_some h
  refine Runs.ck 68 [.i p0.fGen] (impl_isGen_ok u p0.fGen r11 e_r11) ?_
  refine Runs.batch 1 kr ?_
  rcases tf (r11) with hc | hc
  ·have h := cond_t h hc
   refine Runs.known 69 (v := true) kr hc ?_
   refine Runs.batch 1 kr ?_
   obtain ⟨r12, e_r12, h⟩ := bind_some h
   refine Runs.ck 71 [.agg ((Msg.enc p0).map .t), .b false, .b false, .b false] (impl_Msg__isBare_ok u p0 false false false r12 e_r12) ?_
   refine Runs.allf ⟨[(2, .b r12)], [], []⟩ ?_
   refine Wp.ret ?_
   refine blkR ?_
   refine thenR ?_
   obtain rfl := oi h
   exact RetK [.b r12] _ [] kr kr (.refl _) .nil
  have h := cond_f h hc
  refine Runs.known 69 (v := false) kr hc ?_
  refine Runs.allf ⟨[(2, .b false)], [], []⟩ ?_
  refine Wp.ret ?_
  refine blkR ?_
  refine thenR ?_
  obtain rfl := oi h
  exact RetK [.b false] _ [] kr kr (.refl _) .nil
 refine Wp.skip ?_
 refine blkN ?_
 refine thenN ?_
 refine Wp.sag ⟨[(2, .b false)], [], []⟩ ?_
 refine Wp.ret ?_
 obtain rfl := oi h
 exact RetK [.b false] _ [] kr kr (.refl _) .nil
theorem impl_appendVar_ok (u : Nat) (p0 : List Int) (p1 : Int) (r : (List Int)) (h : impl_appendVar u p0 p1 = some r) : CallOK Tryz.prog 154 [.one (.ow 5 1 (p0.map (eInt .u8))), .one (.i p1)] (.one (.ow 5 1 (r.map (eInt .u8)))) [] := by
 unfold impl_appendVar at h
 refine CallOK.of_bodyK (fn := Tryz.f154) (m := true) [.own 58982400, .i p1] kr rfl kr kr kr kr kr ?_
 refine Wp.sag ⟨[(0, .own 58982400), (1, .i p1), (4, .nil)], [], [(58982400, .live 5 1 (p0.map (eInt .u8)))]⟩ ?_
 refine Wp.seqJ (α := (List Int) × Int) (fun a => ⟨[(0, .own 1), (1, .i a.2), (4, .nil)], [], [(1, .live 5 1 (a.1.map (eInt .u8)))]⟩) (fun a => impl_appendVar_j1 u a.1 a.2 = some r) ?_ ?_
 ·rintro ⟨x7, x8⟩ h
  change impl_appendVar_j1 u x7 x8 = some r at h
  unfold impl_appendVar_j1 at h
  refine Wp.sb 4 ?_
  obtain ⟨_, e_9, h⟩ := bind_some h
  refine Runs.appT (y := .own 1179648) (eInt .u8) 19 1 5 1 1 1 x7 ([IntKind.wrap .u8 x8]) rfl rfl rfl rfl kr kr kr kr kr kr (.inl rfl) kr (of_decide_eq_true (chk_some e_9)) kr kr ?_
  refine Runs.allf ⟨[(4, .own 1245184)], [], [(1245184, .live 5 1 ((x7 ++ ([IntKind.wrap .u8 x8])).map (eInt .u8)))]⟩ ?_
  refine Wp.ret ?_
  obtain rfl := oi h
  exact RetK [.own 1245184] _ [] kr kr (.refl _) .nil
 ·refine Wp.block ?_
  refine Wp.loopF (α := (List Int) × Int) (fun a => ⟨[(0, .own 1), (1, .i a.2), (4, .nil)], [], [(1, .live 5 1 (a.1.map (eInt .u8)))]⟩) (fun k_impl_appendVar_l2 a => impl_appendVar_l2 u k_impl_appendVar_l2 a.1 a.2 = some r) ?_ ?_ u (p0, p1) h (Le.of (mo := []) (mr := [(1, 58982400)]) kr kr kr kr)
  ·intro a h; unfold impl_appendVar_l2 at h; cases h
  ·rintro k_impl_appendVar_l2 ⟨x3, x4⟩ h
   change impl_appendVar_l2 u (k_impl_appendVar_l2 + 1) x3 x4 = some r at h
   rw [impl_appendVar_l2] at h
   refine Wp.seq ?_
   refine Wp.sag ⟨[(0, .own 1), (1, .i x4), (4, .nil), (6, .b (decide (x4 ≥ 128)))], [], [(1, .live 5 1 (x3.map (eInt .u8)))]⟩ ?_
   refine Wp.c2 h (fun h => ?_) (fun h => ?_)
   ·refine Wp.sk ?_
    refine Wp.block ?_
    refine Wp.sb 5 ?_
    obtain ⟨_, e_7, h⟩ := bind_some h
    refine Runs.appT (y := .own 720896) (eInt .u8) 12 1 5 1 1 1 x3 ([bOr .u8 (IntKind.wrap .u8 x4) 128]) rfl rfl rfl rfl kr kr kr kr kr kr (.inl rfl) kr (of_decide_eq_true (chk_some e_7)) kr kr ?_
    refine Runs.allf ⟨[(0, .own 786432), (1, .i x4), (4, .nil)], [], [(786432, .live 5 1 ((x3 ++ ([bOr .u8 (IntKind.wrap .u8 x4) 128])).map (eInt .u8)))]⟩ ?_
    refine Wp.rg [] [] ?_
    refine Runs.all kr ?_
    refine blkN ?_
    refine thenN ?_
    exact ⟨(x3 ++ ([bOr .u8 (IntKind.wrap .u8 x4) 128]), bShr .i64 x4 7), h, Le.of (mo := []) (mr := [(1, 786432)]) kr kr kr kr⟩
   refine Wp.exit ?_
   refine thenE ?_
   refine thenE ?_
   refine blkE ?_
   refine thenN ?_
   exact ⟨(x3, x4), h, Le.of (mo := []) (mr := []) kr kr kr kr⟩
theorem impl_PutVar_ok (u : Nat) (p0 : List Int) (p1 : Int) (r : (List Int)) (h : impl_PutVar u p0 p1 = some r) : CallOK Tryz.prog 153 [.one (.s p0), .one (.i p1)] (.one (.ow 5 1 (r.map (eInt .u8)))) [] := by
 unfold impl_PutVar at h
 refine CallOK.of_bodyK (fn := Tryz.f153) (m := true) [.s p0, .i p1] kr rfl kr kr kr kr kr ?_
 refine Wp.sag ⟨[(0, .s p0), (1, .i p1), (4, .nil)], [], []⟩ ?_
 refine Wp.sb 1 ?_
 obtain ⟨r1, e_r1, h⟩ := bind_some h
 refine Runs.ck 7 [.s p0] (impl_cloned_ok u p0 r1 e_r1) ?_
 refine Runs.allf ⟨[(1, .i p1), (4, .nil), (5, .own 458752)], [], [(458752, .live 5 1 (r1.map (eInt .u8)))]⟩ ?_
 refine Wp.seq ?_
 refine Wp.sb 1 ?_
 obtain ⟨r2, e_r2, h⟩ := bind_some h
 refine Runs.ck 9 [.i p1, .i 0, .i 1000000000000] (impl_within_ok u p1 0 1000000000000 r2 e_r2) ?_
 refine Runs.allf ⟨[(1, .i p1), (4, .nil), (5, .own 458752), (10, .b (!r2))], [], [(458752, .live 5 1 (r1.map (eInt .u8)))]⟩ ?_
 refine Wp.c2 h (fun h => ?_) (fun h => ?_)
 ·refine Wp.sag ⟨[(1, .i p1), (4, .own 458752), (5, .own 458752)], [], [(458752, .live 5 1 (r1.map (eInt .u8)))]⟩ ?_
  refine Wp.ret ?_
  refine thenR ?_
  obtain rfl := oi h
  exact RetK [.own 458752] _ [] kr kr (.refl _) .nil
 refine Wp.sk ?_
 refine Wp.sb 2 ?_
 obtain ⟨r3, e_r3, h⟩ := bind_some h
 refine Runs.callK true 14 154 [] [.own 458752, .i p1] _ _ _ rfl rfl kr kr kr kr kr (impl_appendVar_ok u r1 p1 r3 e_r3) kr ?_
 refine Runs.allf ⟨[(4, .own 917504)], [], [(917504, .live 5 1 (r3.map (eInt .u8)))]⟩ ?_
 refine Wp.ret ?_
 obtain rfl := oi h
 exact RetK [.own 917504] _ [] kr kr (.refl _) .nil
theorem impl_PutMan_ok (u : Nat) (p0 : List Int) (p1 : Manifest) (r : (List Int)) (h : impl_PutMan u p0 p1 = some r) : CallOK Tryz.prog 102 [.one (.s p0), .agg [.i p1.fGen, .i p1.fSize, .i p1.fLen, .t (.sl 2 (p1.fSums.map Sum.enc))]] (.one (.ow 5 1 (r.map (eInt .u8)))) [] := by
 unfold impl_PutMan at h
 refine CallOK.of_bodyK (fn := Tryz.f102) (m := true) [.s p0, .agg ((Manifest.enc p1).map .t)] kr rfl kr kr kr kr kr ?_
 refine Wp.sag ⟨[(0, .s p0), (3, .obj 3 0), (4, .nil)], [(3, ((Manifest.enc p1).map .t))], []⟩ ?_
 refine Wp.seq ?_
 refine Wp.sb 1 ?_
 obtain ⟨r1, e_r1, h⟩ := bind_some h
 refine Runs.ck 9 [.agg ((Manifest.enc p1).map .t)] (impl_ManOk_ok u p1 r1 e_r1) ?_
 refine Runs.allf ⟨[(0, .s p0), (3, .obj 3 0), (4, .nil), (10, .b (!r1))], [(3, ((Manifest.enc p1).map .t))], []⟩ ?_
 refine Wp.c2 h (fun h => ?_) (fun h => ?_)
 ·refine Wp.sb 1 ?_
  obtain ⟨r2, e_r2, h⟩ := bind_some h
  refine Runs.ck 12 [.s p0] (impl_cloned_ok u p0 r2 e_r2) ?_
  refine Runs.allf ⟨[(0, .s p0), (3, .obj 3 0), (4, .own 786432)], [(3, ((Manifest.enc p1).map .t))], [(786432, .live 5 1 (r2.map (eInt .u8)))]⟩ ?_
  refine Wp.ret ?_
  refine thenR ?_
  obtain rfl := oi h
  exact RetK [.own 786432] _ [] kr kr (.refl _) .nil
 refine Wp.sk ?_
 refine Wp.seq ?_
 refine Wp.regionA (pOf []) (rhoOf [(0, .frz), (3, .obj 3), (13, .frz), (14, .obj 3), (15, .frz), (16, .own 16), (17, .obj 3), (18, .frz), (19, .own 19), (20, .obj 3), (21, .frz), (22, .own 22)]) kr kr ?_
 refine Runs.batch 3 kr ?_
 obtain ⟨r3, e_r3, h⟩ := bind_some h
 refine Runs.ck 16 [.s p0, .i p1.fGen] (impl_PutVar_ok u p0 p1.fGen r3 e_r3) ?_
 refine Runs.batch 2 kr ?_
 obtain ⟨r4, e_r4, h⟩ := bind_some h
 refine Runs.ck 19 [.own 1048576, .i p1.fSize] (impl_PutVar_ok u r3 p1.fSize r4 e_r4) ?_
 refine Runs.batch 2 kr ?_
 obtain ⟨r5, e_r5, h⟩ := bind_some h
 refine Runs.ck 22 [.own 1245184, .i p1.fLen] (impl_PutVar_ok u r4 p1.fLen r5 e_r5) ?_
 refine Runs.allf ⟨[(3, .obj 3 0), (4, .nil), (5, .own 1441792)], [(3, ((Manifest.enc p1).map .t))], [(1441792, .live 5 1 (r5.map (eInt .u8)))]⟩ ?_
 refine Wp.seqJ (α := (List Int)) (fun a => ⟨[(4, .nil), (5, .own 327681)], [], [(327681, .live 5 1 (a.map (eInt .u8)))]⟩) (fun a => impl_PutMan_j1 u a = some r) ?_ ?_
 ·rintro x14 h
  change impl_PutMan_j1 u x14 = some r at h
  unfold impl_PutMan_j1 at h
  refine Wp.sag ⟨[(4, .own 327681)], [], [(327681, .live 5 1 (x14.map (eInt .u8)))]⟩ ?_
  refine Wp.ret ?_
  obtain rfl := oi h
  exact RetK [.own 327681] _ [] kr kr (.refl _) .nil
 ·refine Wp.sb 2 ?_
  refine Runs.lenT (y := .t (.sl 2 (p1.fSums.map Sum.enc))) (e := 189) Sum.enc p1.fSums 2 rfl rfl rfl kr kr kr kr kr ?_
  refine Runs.allf ⟨[(4, .nil), (5, .own 1441792), (24, .t (.sl 2 (p1.fSums.map Sum.enc))), (25, .i ((p1.fSums.length : Int))), (26, .i 0)], [], [(1441792, .live 5 1 (r5.map (eInt .u8)))]⟩ ?_
  refine Wp.block ?_
  refine Wp.loopF (α := (List Int) × Manifest × Int) (fun a => ⟨[(4, .nil), (5, .own 327681), (24, .t (.sl 2 (a.2.1.fSums.map Sum.enc))), (25, .i ((a.2.1.fSums.length : Int))), (26, .i a.2.2)], [], [(327681, .live 5 1 (a.1.map (eInt .u8)))]⟩) (fun k_impl_PutMan_l2 a => impl_PutMan_l2 u k_impl_PutMan_l2 a.1 a.2.1 a.2.2 = some r) ?_ ?_ u (r5, p1, 0) h (Le.of (mo := []) (mr := [(327681, 1441792)]) kr kr kr kr)
  ·intro a h; unfold impl_PutMan_l2 at h; cases h
  ·rintro k_impl_PutMan_l2 ⟨x8, p1, x9⟩ h
   change impl_PutMan_l2 u (k_impl_PutMan_l2 + 1) x8 p1 x9 = some r at h
   rw [impl_PutMan_l2] at h
   refine Wp.sag ⟨[(4, .nil), (5, .own 327681), (24, .t (.sl 2 (p1.fSums.map Sum.enc))), (25, .i ((p1.fSums.length : Int))), (26, .i x9), (27, .b (decide (x9 < ((p1.fSums.length : Int)))))], [], [(327681, .live 5 1 (x8.map (eInt .u8)))]⟩ ?_
   refine Wp.seq ?_
   refine Wp.c2 h (fun h => ?_) (fun h => ?_)
   ·refine Wp.sk ?_
    refine Wp.seq ?_
    refine Wp.block ?_
    refine Wp.srg [] [] ?_
    obtain ⟨y12, e_y12, h⟩ := bind_some h
    refine Runs.idxT (e := 189) (kk := .i64) (sz := 2) Sum.enc p1.fSums x9 rfl kr kr kr kr kr kr e_y12 ?_
    refine Runs.allf ⟨[(4, .nil), (5, .own 327681), (7, .obj 7 0), (24, .t (.sl 2 (p1.fSums.map Sum.enc))), (25, .i ((p1.fSums.length : Int))), (26, .i x9)], [(7, [.i y12.fW, .i y12.fS])], [(327681, .live 5 1 (x8.map (eInt .u8)))]⟩ ?_
    refine Wp.rg [] [] ?_
    refine Runs.batch 3 kr ?_
    obtain ⟨r13, e_r13, h⟩ := bind_some h
    refine Runs.callK true 33 154 [] [.own 327681, .i y12.fS] _ _ _ rfl rfl kr kr kr kr kr (impl_appendVar_ok u x8 y12.fS r13 e_r13) kr ?_
    refine Runs.all kr ?_
    refine blkN ?_
    refine thenN ?_
    refine Wp.rg [] [] ?_
    refine Runs.alln ?_
    exact ⟨(r13, p1, bAdd .i64 x9 1), h, Le.of (mo := []) (mr := [(327681, 2162688)]) kr kr kr kr⟩
   refine Wp.exit ?_
   refine thenE ?_
   refine thenE ?_
   refine blkE ?_
   refine thenN ?_
   exact ⟨x8, h, Le.of (mo := []) (mr := []) kr kr kr kr⟩
theorem impl_putSet_ok (u : Nat) (p0 : List Int) (p1 : Int) (r : (List Int)) (h : impl_putSet u p0 p1 = some r) : CallOK Tryz.prog 180 [.one (.s p0), .one (.i p1)] (.one (.ow 5 1 (r.map (eInt .u8)))) [] := by
 unfold impl_putSet at h
 refine CallOK.of_bodyK (fn := Tryz.f180) (m := true) [.s p0, .i p1] kr rfl kr kr kr kr kr ?_
 refine Wp.sag ⟨[(0, .s p0), (1, .i p1), (4, .nil)], [], []⟩ ?_
 refine Wp.sb 3 ?_
 obtain ⟨r1, e_r1, h⟩ := bind_some h
 refine Runs.ck 8 [.s p0, .i (bAnd .i64 p1 1048575)] (impl_PutVar_ok u p0 (bAnd .i64 p1 1048575) r1 e_r1) ?_
 refine Runs.batch 2 kr ?_
 obtain ⟨r2, e_r2, h⟩ := bind_some h
 refine Runs.ck 11 [.own 524288, .i (bShr .i64 p1 20)] (impl_PutVar_ok u r1 (bShr .i64 p1 20) r2 e_r2) ?_
 refine Runs.allf ⟨[(4, .own 720896)], [], [(720896, .live 5 1 (r2.map (eInt .u8)))]⟩ ?_
 refine Wp.ret ?_
 obtain rfl := oi h
 exact RetK [.own 720896] _ [] kr kr (.refl _) .nil
theorem impl_PutPart_ok (u : Nat) (p0 : List Int) (p1 : List Int) (r : (List Int)) (h : impl_PutPart u p0 p1 = some r) : CallOK Tryz.prog 181 [.one (.s p0), .one (.s p1)] (.one (.ow 5 1 (r.map (eInt .u8)))) [] := by
 unfold impl_PutPart at h
 refine CallOK.of_bodyK (fn := Tryz.f181) (m := true) [.s p0, .s p1] kr rfl kr kr kr kr kr ?_
 refine Wp.sag ⟨[(0, .s p0), (1, .s p1), (4, .nil)], [], []⟩ ?_
 refine Wp.sb 2 ?_
 refine Runs.lenT (y := .s p1) (e := 5) (eInt .u8) p1 1 rfl rfl rfl kr kr kr kr kr ?_
 obtain ⟨r1, e_r1, h⟩ := bind_some h
 refine Runs.ck 8 [.s p0, .i ((p1.length : Int))] (impl_PutVar_ok u p0 ((p1.length : Int)) r1 e_r1) ?_
 refine Runs.batch 1 kr ?_
 obtain ⟨_, e_2, h⟩ := bind_some h
 refine Runs.appT (y := .s p1) (eInt .u8) 10 1 5 1 1 524288 r1 p1 rfl rfl rfl rfl kr kr kr kr kr kr (.inl rfl) kr (of_decide_eq_true (chk_some e_2)) kr kr ?_
 refine Runs.allf ⟨[(4, .own 655360)], [], [(655360, .live 5 1 ((r1 ++ p1).map (eInt .u8)))]⟩ ?_
 refine Wp.ret ?_
 obtain rfl := oi h
 exact RetK [.own 655360] _ [] kr kr (.refl _) .nil
theorem impl_PutMsg_ok (u : Nat) (p0 : Msg) (r : (List Int)) (h : impl_PutMsg u p0 = some r) : CallOK Tryz.prog 137 [.agg [.i p0.fKind, .i p0.fGen, .i p0.fMan.fGen, .i p0.fMan.fSize, .i p0.fMan.fLen, .t (.sl 2 (p0.fMan.fSums.map Sum.enc)), .i p0.fWant, .i p0.fDone, .i p0.fI, .s p0.fB]] (.one (.ow 5 1 (r.map (eInt .u8)))) [] := by
 unfold impl_PutMsg at h
 refine CallOK.of_bodyK (fn := Tryz.f137) (m := true) [.agg ((Msg.enc p0).map .t)] kr rfl kr kr kr kr kr ?_
 refine Wp.sag ⟨[(1, .obj 1 0), (2, .nil)], [(1, ((Msg.enc p0).map .t))], []⟩ ?_
 refine Wp.seq ?_
 refine Wp.sb 1 ?_
 obtain ⟨r1, e_r1, h⟩ := bind_some h
 refine Runs.ck 5 [.agg ((Msg.enc p0).map .t)] (impl_MsgOk_ok u p0 r1 e_r1) ?_
 refine Runs.allf ⟨[(1, .obj 1 0), (2, .nil), (6, .b (!r1))], [(1, ((Msg.enc p0).map .t))], []⟩ ?_
 refine Wp.c2 h (fun h => ?_) (fun h => ?_)
 ·refine Wp.sag ⟨[(1, .obj 1 0), (2, .nil)], [(1, ((Msg.enc p0).map .t))], []⟩ ?_
  refine Wp.ret ?_
  refine thenR ?_
  obtain rfl := oi h
  exact RetK [.nil] (.one (.nil)) [] kr kr (.one (.nilO _ _)) .nil
 refine Wp.sk ?_
 refine Wp.sb 2 ?_
 obtain ⟨r2, e_r2, h⟩ := bind_some h
 refine Runs.callK false 9 153 [] [.nil, .i p0.fKind] [.one (.t (.sl 0 [])), .one (.i p0.fKind)] (.one (.ow 5 1 (r2.map (eInt .u8)))) [] rfl rfl kr kr kr kr kr ((impl_PutVar_ok u ([]) p0.fKind r2 e_r2).le (.cons (.one (.sz _ _)) (.cons (.refl _) .nil))) kr ?_
 refine Runs.allf ⟨[(1, .obj 1 0), (2, .nil), (3, .own 589824)], [(1, ((Msg.enc p0).map .t))], [(589824, .live 5 1 (r2.map (eInt .u8)))]⟩ ?_
 refine Wp.seqJ (α := (List Int)) (fun a => ⟨[(2, .nil), (3, .own 196609)], [], [(196609, .live 5 1 (a.map (eInt .u8)))]⟩) (fun a => impl_PutMsg_j1 u a = some r) ?_ ?_
 ·rintro x11 h
  change impl_PutMsg_j1 u x11 = some r at h
  unfold impl_PutMsg_j1 at h
  refine Wp.sb 2 ?_
  obtain ⟨r12, e_r12, h⟩ := bind_some h
  refine Runs.callBK 50 182 [] [.own 196609] [.one (.s x11)] (.one (.i r12)) rfl rfl kr kr kr kr kr (impl_WeakOf_ok u x11 r12 e_r12) (by simp [V.plain, V.plains, C.plain, T.sc]) kr ?_
  obtain ⟨r13, e_r13, h⟩ := bind_some h
  refine Runs.ck 51 [.own 196609, .i r12] (impl_PutVar_ok u x11 r12 r13 e_r13) ?_
  refine Runs.allf ⟨[(2, .own 3342336)], [], [(3342336, .live 5 1 (r13.map (eInt .u8)))]⟩ ?_
  refine Wp.ret ?_
  obtain rfl := oi h
  exact RetK [.own 3342336] _ [] kr kr (.refl _) .nil
 ·refine Wp.sag ⟨[(1, .obj 1 0), (2, .nil), (3, .own 589824), (11, .i p0.fKind)], [(1, ((Msg.enc p0).map .t))], [(589824, .live 5 1 (r2.map (eInt .u8)))]⟩ ?_
  refine Wp.block ?_
  refine Wp.sag ⟨[(1, .obj 1 0), (2, .nil), (3, .own 589824), (11, .i p0.fKind), (12, .b (p0.fKind == 1))], [(1, ((Msg.enc p0).map .t))], [(589824, .live 5 1 (r2.map (eInt .u8)))]⟩ ?_
  refine Wp.c2 h (fun h => ?_) (fun h => ?_)
  ·refine Wp.rg [] [] ?_
   refine Runs.batch 3 kr ?_
   obtain ⟨r3, e_r3, h⟩ := bind_some h
   refine Runs.ck 17 [.own 589824, .agg ((Manifest.enc p0.fMan).map .t)] (impl_PutMan_ok u r2 p0.fMan r3 e_r3) ?_
   refine Runs.all kr ?_
   refine blkN ?_
   refine thenN ?_
   exact ⟨r3, h, Le.of (mo := []) (mr := [(196609, 1114112)]) kr kr kr kr⟩
  refine Wp.sag ⟨[(1, .obj 1 0), (2, .nil), (3, .own 589824), (11, .i p0.fKind), (18, .b (p0.fKind == 2))], [(1, ((Msg.enc p0).map .t))], [(589824, .live 5 1 (r2.map (eInt .u8)))]⟩ ?_
  refine Wp.c2 h (fun h => ?_) (fun h => ?_)
  ·refine Wp.regionA (pOf []) (rhoOf [(1, .obj 1), (3, .own 9), (20, .own 9), (21, .obj 1), (22, .frz), (23, .own 23), (24, .obj 1), (25, .frz), (26, .own 26), (27, .obj 1), (28, .frz), (29, .own 29)]) kr kr ?_
   refine Runs.batch 3 kr ?_
   obtain ⟨r4, e_r4, h⟩ := bind_some h
   refine Runs.ck 23 [.own 589824, .i p0.fGen] (impl_PutVar_ok u r2 p0.fGen r4 e_r4) ?_
   refine Runs.batch 2 kr ?_
   obtain ⟨r5, e_r5, h⟩ := bind_some h
   refine Runs.ck 26 [.own 1507328, .i p0.fWant] (impl_putSet_ok u r4 p0.fWant r5 e_r5) ?_
   refine Runs.batch 2 kr ?_
   obtain ⟨r6, e_r6, h⟩ := bind_some h
   refine Runs.ck 29 [.own 1703936, .i p0.fDone] (impl_putSet_ok u r5 p0.fDone r6 e_r6) ?_
   refine Runs.all kr ?_
   refine blkN ?_
   refine thenN ?_
   exact ⟨r6, h, Le.of (mo := []) (mr := [(196609, 1900544)]) kr kr kr kr⟩
  refine Wp.sag ⟨[(1, .obj 1 0), (2, .nil), (3, .own 589824), (11, .i p0.fKind), (30, .b (p0.fKind == 3))], [(1, ((Msg.enc p0).map .t))], [(589824, .live 5 1 (r2.map (eInt .u8)))]⟩ ?_
  refine Wp.c2 h (fun h => ?_) (fun h => ?_)
  ·refine Wp.regionA (pOf []) (rhoOf [(1, .obj 1), (3, .own 9), (32, .own 9), (33, .obj 1), (34, .frz), (35, .own 35), (36, .obj 1), (37, .frz), (38, .own 38), (39, .obj 1), (40, .frz), (41, .own 41)]) kr kr ?_
   refine Runs.batch 3 kr ?_
   obtain ⟨r7, e_r7, h⟩ := bind_some h
   refine Runs.ck 35 [.own 589824, .i p0.fGen] (impl_PutVar_ok u r2 p0.fGen r7 e_r7) ?_
   refine Runs.batch 2 kr ?_
   obtain ⟨r8, e_r8, h⟩ := bind_some h
   refine Runs.ck 38 [.own 2293760, .i p0.fI] (impl_PutVar_ok u r7 p0.fI r8 e_r8) ?_
   refine Runs.batch 2 kr ?_
   obtain ⟨r9, e_r9, h⟩ := bind_some h
   refine Runs.ck 41 [.own 2490368, .s p0.fB] (impl_PutPart_ok u r8 p0.fB r9 e_r9) ?_
   refine Runs.all kr ?_
   refine blkN ?_
   refine thenN ?_
   exact ⟨r9, h, Le.of (mo := []) (mr := [(196609, 2686976)]) kr kr kr kr⟩
  refine Wp.sag ⟨[(1, .obj 1 0), (2, .nil), (3, .own 589824), (42, .b (p0.fKind == 4))], [(1, ((Msg.enc p0).map .t))], [(589824, .live 5 1 (r2.map (eInt .u8)))]⟩ ?_
  refine Wp.c2 h (fun h => ?_) (fun h => ?_)
  ·refine Wp.rg [] [] ?_
   refine Runs.batch 3 kr ?_
   obtain ⟨r10, e_r10, h⟩ := bind_some h
   refine Runs.ck 47 [.own 589824, .i p0.fGen] (impl_PutVar_ok u r2 p0.fGen r10 e_r10) ?_
   refine Runs.all kr ?_
   refine blkN ?_
   refine thenN ?_
   exact ⟨r10, h, Le.of (mo := []) (mr := [(196609, 3080192)]) kr kr kr kr⟩
  refine Wp.skip ?_
  refine blkN ?_
  refine thenN ?_
  exact ⟨r2, h, Le.of (mo := []) (mr := [(196609, 589824)]) kr kr kr kr⟩
theorem bytes_Equal_ok (u : Nat) (p0 : List Int) (p1 : List Int) (r : Bool) (h : bytes_Equal u p0 p1 = some r) : CallOK Tryz.prog 179 [.one (.s p0), .one (.s p1)] (.one (.b r)) [] := by
 unfold bytes_Equal at h
 refine CallOK.of_bodyK (fn := Tryz.f179) (m := false) [.s p0, .s p1] kr rfl kr kr kr kr kr ?_
 refine Wp.sag ⟨[(0, .s p0), (1, .s p1), (4, .b false)], [], []⟩ ?_
 refine Wp.sb 1 ?_
 refine Runs.bytesStr (y := .s p0) (e := 5) p0 1 rfl kr kr kr kr kr kr kr ?_
 refine Runs.batch 1 kr ?_
 refine Runs.bytesStr (y := .s p1) (e := 5) p1 1 rfl kr kr kr kr kr kr kr ?_
 refine Runs.allf ⟨[(4, .b ((strOfNums p0).toList == (strOfNums p1).toList))], [], []⟩ ?_
 refine Wp.ret ?_
 obtain rfl := oi h
 exact RetK [.b ((strOfNums p0).toList == (strOfNums p1).toList)] _ [] kr kr (.refl _) .nil
theorem impl_SameBytes_ok (u : Nat) (p0 : List Int) (p1 : List Int) (r : Bool) (h : impl_SameBytes u p0 p1 = some r) : CallOK Tryz.prog 136 [.one (.s p0), .one (.s p1)] (.one (.b r)) [] := by
 unfold impl_SameBytes at h
 refine CallOK.of_bodyK (fn := Tryz.f136) (m := false) [.s p0, .s p1] kr rfl kr kr kr kr kr ?_
 refine Wp.sag ⟨[(0, .s p0), (1, .s p1), (4, .b false)], [], []⟩ ?_
 refine Wp.sb 2 ?_
 obtain ⟨r1, e_r1, h⟩ := bind_some h
 refine Runs.ck 7 [.s p0, .s p1] (bytes_Equal_ok u p0 p1 r1 e_r1) ?_
 refine Runs.allf ⟨[(4, .b r1)], [], []⟩ ?_
 refine Wp.ret ?_
 obtain rfl := oi h
 exact RetK [.b r1] _ [] kr kr (.refl _) .nil
end Go.Tm
