/- The functions as they are translated do what the pure functions say (printed). -/
import Derived.Test.YtohcknmdebahiaaGreatCHarmlessK1
import Derived.Test.YtohcknmdebahiaaGreatTm41
import Derived.Test.YtohcknmdebahiaaGreatProg
set_option maxRecDepth 100000
set_option linter.unusedVariables false
set_option linter.unusedSimpArgs false
namespace Go.Tm
open Go.Proofs
theorem spec_l12Body_ok (u : Nat) (p0 : List Int) (p1 : Int) (p2 : Int) (r : Msg × Int × Bool) (h : spec_l12Body u p0 p1 p2 = some r) : CallOK Tryz.prog 80 [.one (.t (.sl 1 (p0.map (eInt .u8)))), .one (.t (.int .i64 p1)), .one (.t (.int .i64 p2))] (.tup [.agg [.t (.int .i64 r.1.fKind), .t (.int .i64 r.1.fGen), .t (.int .i64 r.1.fMan.fGen), .t (.int .i64 r.1.fMan.fSize), .t (.int .i64 r.1.fMan.fLen), .ow 220 2 (r.1.fMan.fSums.map Sum.enc), .t (.int .i64 r.1.fWant), .t (.int .i64 r.1.fDone), .t (.int .i64 r.1.fI), .ow 5 1 (r.1.fB.map (eInt .u8))], .one (.t (.int .i64 r.2.1)), .one (.t (.bool r.2.2))]) [] := by
  unfold spec_l12Body at h
  refine CallOK.of_bodyK (fn := Tryz.f80) (m := true) [.t (.sl 1 (p0.map (eInt .u8))), .t (.int .i64 p1), .t (.int .i64 p2)] kr rfl kr kr kr kr kr ?_
  refine Wp.srg [] [] ?_
  refine Runs.alln ?_
  refine Wp.fg ⟨[(0, .t (.sl 1 (p0.map (eInt .u8)))), (1, .t (.int .i64 p1)), (2, .t (.int .i64 p2)), (6, .obj 6 0), (7, .t (.int .i64 0)), (8, .t (.bool false))], [(6, [.t (.int .i64 0), .t (.int .i64 0), .t (.int .i64 0), .t (.int .i64 0), .t (.int .i64 0), .nil, .t (.int .i64 0), .t (.int .i64 0), .t (.int .i64 0), .nil])], []⟩ ?_
  refine Wp.srg [] [] ?_
  refine Runs.alln ?_
  refine Wp.fg ⟨[(0, .t (.sl 1 (p0.map (eInt .u8)))), (1, .t (.int .i64 p1)), (2, .t (.int .i64 p2)), (6, .obj 6 0), (7, .t (.int .i64 0)), (8, .t (.bool false)), (9, .obj 9 0)], [(6, [.t (.int .i64 0), .t (.int .i64 0), .t (.int .i64 0), .t (.int .i64 0), .t (.int .i64 0), .nil, .t (.int .i64 0), .t (.int .i64 0), .t (.int .i64 0), .nil]), (9, [.t (.int .i64 p2), .t (.int .i64 0), .t (.int .i64 0), .t (.int .i64 0), .t (.int .i64 0), .nil, .t (.int .i64 0), .t (.int .i64 0), .t (.int .i64 0), .nil])], []⟩ ?_
  refine Wp.seq ?_
  refine Wp.srg [] [] ?_
  refine Runs.alln ?_
  refine Wp.fg ⟨[(0, .t (.sl 1 (p0.map (eInt .u8)))), (1, .t (.int .i64 p1)), (2, .t (.int .i64 p2)), (6, .obj 6 0), (7, .t (.int .i64 0)), (8, .t (.bool false)), (9, .obj 9 0), (30, .t (.bool (p2 == 1)))], [(6, [.t (.int .i64 0), .t (.int .i64 0), .t (.int .i64 0), .t (.int .i64 0), .t (.int .i64 0), .nil, .t (.int .i64 0), .t (.int .i64 0), .t (.int .i64 0), .nil]), (9, [.t (.int .i64 p2), .t (.int .i64 0), .t (.int .i64 0), .t (.int .i64 0), .t (.int .i64 0), .nil, .t (.int .i64 0), .t (.int .i64 0), .t (.int .i64 0), .nil])], []⟩ ?_
  refine Wp.cond2 (b := p2 == 1) kr (fun hc => ?_) (fun hc => ?_)
  · have h := cond_t h hc
    refine Wp.srg [] [] ?_
    refine Runs.batch 2 kr ?_
    obtain ⟨r1, e_r1, h⟩ := bind_some h
    refine Runs.callK false 34 132 [] [.t (.sl 1 (p0.map (eInt .u8))), .t (.int .i64 p1)] _ _ _ rfl rfl kr kr kr kr kr (spec_GetMan_ok u p0 p1 r1 e_r1) kr ?_
    refine Runs.alln ?_
    refine Wp.fg ⟨[(0, .t (.sl 1 (p0.map (eInt .u8)))), (1, .t (.int .i64 p1)), (2, .t (.int .i64 p2)), (6, .obj 6 0), (7, .t (.int .i64 0)), (8, .t (.bool false)), (9, .obj 9 0), (10, .obj 10 0), (11, .t (.int .i64 r1.2.1)), (12, .t (.bool r1.2.2))], [(6, [.t (.int .i64 0), .t (.int .i64 0), .t (.int .i64 0), .t (.int .i64 0), .t (.int .i64 0), .nil, .t (.int .i64 0), .t (.int .i64 0), .t (.int .i64 0), .nil]), (9, [.t (.int .i64 p2), .t (.int .i64 0), .t (.int .i64 0), .t (.int .i64 0), .t (.int .i64 0), .nil, .t (.int .i64 0), .t (.int .i64 0), .t (.int .i64 0), .nil]), (10, [.t (.int .i64 r1.1.fGen), .t (.int .i64 r1.1.fSize), .t (.int .i64 r1.1.fLen), .own 2228227])], [(2228227, .live 220 2 (r1.1.fSums.map Sum.enc))]⟩ ?_
    refine Wp.srg [] [] ?_
    refine Runs.alln ?_
    refine Wp.fg ⟨[(0, .t (.sl 1 (p0.map (eInt .u8)))), (1, .t (.int .i64 p1)), (2, .t (.int .i64 p2)), (6, .obj 6 0), (7, .t (.int .i64 0)), (8, .t (.bool false)), (9, .obj 9 0), (11, .t (.int .i64 r1.2.1)), (12, .t (.bool r1.2.2))], [(6, [.t (.int .i64 0), .t (.int .i64 0), .t (.int .i64 0), .t (.int .i64 0), .t (.int .i64 0), .nil, .t (.int .i64 0), .t (.int .i64 0), .t (.int .i64 0), .nil]), (9, [.t (.int .i64 p2), .t (.int .i64 0), .t (.int .i64 r1.1.fGen), .t (.int .i64 r1.1.fSize), .t (.int .i64 r1.1.fLen), .own 2228227, .t (.int .i64 0), .t (.int .i64 0), .t (.int .i64 0), .nil])], [(2228227, .live 220 2 (r1.1.fSums.map Sum.enc))]⟩ ?_
    refine Wp.srg [] [] ?_
    refine Runs.alln ?_
    refine Wp.fg ⟨[(0, .t (.sl 1 (p0.map (eInt .u8)))), (1, .t (.int .i64 p1)), (2, .t (.int .i64 p2)), (6, .obj 6 0), (7, .t (.int .i64 r1.2.1)), (8, .t (.bool r1.2.2)), (9, .obj 9 0)], [(6, [.t (.int .i64 p2), .t (.int .i64 0), .t (.int .i64 r1.1.fGen), .t (.int .i64 r1.1.fSize), .t (.int .i64 r1.1.fLen), .own 2228227, .t (.int .i64 0), .t (.int .i64 0), .t (.int .i64 0), .nil]), (9, [.t (.int .i64 p2), .t (.int .i64 0), .t (.int .i64 r1.1.fGen), .t (.int .i64 r1.1.fSize), .t (.int .i64 r1.1.fLen), .own 2228227, .t (.int .i64 0), .t (.int .i64 0), .t (.int .i64 0), .nil])], [(2228227, .live 220 2 (r1.1.fSums.map Sum.enc))]⟩ ?_
    refine Wp.ret ?_
    refine thenR ?_
    obtain rfl := Option.some.inj h
    exact RetK [.agg [.t (.int .i64 p2), .t (.int .i64 0), .t (.int .i64 r1.1.fGen), .t (.int .i64 r1.1.fSize), .t (.int .i64 r1.1.fLen), .own 2228227, .t (.int .i64 0), .t (.int .i64 0), .t (.int .i64 0), .nil], .t (.int .i64 r1.2.1), .t (.bool r1.2.2)] (.tup [.agg [.t (.int .i64 p2), .t (.int .i64 0), .t (.int .i64 r1.1.fGen), .t (.int .i64 r1.1.fSize), .t (.int .i64 r1.1.fLen), .ow 220 2 (r1.1.fSums.map Sum.enc), .t (.int .i64 0), .t (.int .i64 0), .t (.int .i64 0), .nil], .one (.t (.int .i64 r1.2.1)), .one (.t (.bool r1.2.2))]) [] kr kr (.tup (.cons (.agg (.cons (.refl _) (.cons (.refl _) (.cons (.refl _) (.cons (.refl _) (.cons (.refl _) (.cons (.refl _) (.cons (.refl _) (.cons (.refl _) (.cons (.refl _) (.cons (.nilO _ _) .nil))))))))))) (.cons (.refl _) (.cons (.refl _) .nil)))) .nil
  have h := cond_f h hc
  refine Wp.skip (thenN ?_)
  refine Wp.srg [] [] ?_
  refine Runs.batch 2 kr ?_
  obtain ⟨r2, e_r2, h⟩ := bind_some h
  refine Runs.callK false 46 79 [] [.t (.sl 1 (p0.map (eInt .u8))), .t (.int .i64 p1)] _ _ _ rfl rfl kr kr kr kr kr (spec_GetVar_ok u p0 p1 r2 e_r2) kr ?_
  refine Runs.alln ?_
  refine Wp.fg ⟨[(0, .t (.sl 1 (p0.map (eInt .u8)))), (2, .t (.int .i64 p2)), (6, .obj 6 0), (7, .t (.int .i64 0)), (8, .t (.bool false)), (9, .obj 9 0), (13, .t (.int .i64 r2.1)), (14, .t (.int .i64 r2.2.1)), (15, .t (.bool r2.2.2))], [(6, [.t (.int .i64 0), .t (.int .i64 0), .t (.int .i64 0), .t (.int .i64 0), .t (.int .i64 0), .nil, .t (.int .i64 0), .t (.int .i64 0), .t (.int .i64 0), .nil]), (9, [.t (.int .i64 p2), .t (.int .i64 0), .t (.int .i64 0), .t (.int .i64 0), .t (.int .i64 0), .nil, .t (.int .i64 0), .t (.int .i64 0), .t (.int .i64 0), .nil])], []⟩ ?_
  refine Wp.srg [] [] ?_
  refine Runs.alln ?_
  refine Wp.fg ⟨[(0, .t (.sl 1 (p0.map (eInt .u8)))), (2, .t (.int .i64 p2)), (6, .obj 6 0), (7, .t (.int .i64 0)), (8, .t (.bool false)), (9, .obj 9 0), (14, .t (.int .i64 r2.2.1)), (15, .t (.bool r2.2.2))], [(6, [.t (.int .i64 0), .t (.int .i64 0), .t (.int .i64 0), .t (.int .i64 0), .t (.int .i64 0), .nil, .t (.int .i64 0), .t (.int .i64 0), .t (.int .i64 0), .nil]), (9, [.t (.int .i64 p2), .t (.int .i64 r2.1), .t (.int .i64 0), .t (.int .i64 0), .t (.int .i64 0), .nil, .t (.int .i64 0), .t (.int .i64 0), .t (.int .i64 0), .nil])], []⟩ ?_
  refine Wp.seqJ (α := Int × Int × (Int × Int × Bool) × Int × Int) (fun a => ⟨[(6, .obj 6 0), (7, .t (.int .i64 0)), (8, .t (.bool false)), (9, .obj 9 0), (14, .t (.int .i64 a.1))], [(6, [.t (.int .i64 0), .t (.int .i64 0), .t (.int .i64 0), .t (.int .i64 0), .t (.int .i64 0), .nil, .t (.int .i64 0), .t (.int .i64 0), .t (.int .i64 0), .nil]), (9, [.t (.int .i64 a.2.1), .t (.int .i64 a.2.2.1.1), .t (.int .i64 0), .t (.int .i64 0), .t (.int .i64 0), .nil, .t (.int .i64 a.2.2.2.1), .t (.int .i64 a.2.2.2.2), .t (.int .i64 0), .nil])], []⟩) (fun a => spec_l12Body_j1 u a.1 a.2.1 a.2.2.1 a.2.2.2.1 a.2.2.2.2 = some r) ?_ ?_
  · rintro ⟨x20, p2, r2, x21, x22⟩ h
    change spec_l12Body_j1 u x20 p2 r2 x21 x22 = some r at h
    unfold spec_l12Body_j1 at h
    refine Wp.srg [] [] ?_
    refine Runs.alln ?_
    refine Wp.fg ⟨[(6, .obj 6 0), (7, .t (.int .i64 x20)), (8, .t (.bool true))], [(6, [.t (.int .i64 p2), .t (.int .i64 r2.1), .t (.int .i64 0), .t (.int .i64 0), .t (.int .i64 0), .nil, .t (.int .i64 x21), .t (.int .i64 x22), .t (.int .i64 0), .nil])], []⟩ ?_
    refine Wp.ret ?_
    obtain rfl := Option.some.inj h
    exact RetK [.agg [.t (.int .i64 p2), .t (.int .i64 r2.1), .t (.int .i64 0), .t (.int .i64 0), .t (.int .i64 0), .nil, .t (.int .i64 x21), .t (.int .i64 x22), .t (.int .i64 0), .nil], .t (.int .i64 x20), .t (.bool true)] (.tup [.agg [.t (.int .i64 p2), .t (.int .i64 r2.1), .t (.int .i64 0), .t (.int .i64 0), .t (.int .i64 0), .nil, .t (.int .i64 x21), .t (.int .i64 x22), .t (.int .i64 0), .nil], .one (.t (.int .i64 x20)), .one (.t (.bool true))]) [] kr kr (.tup (.cons (.agg (.cons (.refl _) (.cons (.refl _) (.cons (.refl _) (.cons (.refl _) (.cons (.refl _) (.cons (.nilO _ _) (.cons (.refl _) (.cons (.refl _) (.cons (.refl _) (.cons (.nilO _ _) .nil))))))))))) (.cons (.refl _) (.cons (.refl _) .nil)))) .nil
  · refine Wp.block ?_
    refine Wp.srg [] [] ?_
    refine Runs.alln ?_
    refine Wp.fg ⟨[(0, .t (.sl 1 (p0.map (eInt .u8)))), (2, .t (.int .i64 p2)), (6, .obj 6 0), (7, .t (.int .i64 0)), (8, .t (.bool false)), (9, .obj 9 0), (14, .t (.int .i64 r2.2.1)), (52, .t (.bool (!r2.2.2)))], [(6, [.t (.int .i64 0), .t (.int .i64 0), .t (.int .i64 0), .t (.int .i64 0), .t (.int .i64 0), .nil, .t (.int .i64 0), .t (.int .i64 0), .t (.int .i64 0), .nil]), (9, [.t (.int .i64 p2), .t (.int .i64 r2.1), .t (.int .i64 0), .t (.int .i64 0), .t (.int .i64 0), .nil, .t (.int .i64 0), .t (.int .i64 0), .t (.int .i64 0), .nil])], []⟩ ?_
    refine Wp.cond2 (b := !r2.2.2) kr (fun hc => ?_) (fun hc => ?_)
    · have h := cond_t h hc
      refine Wp.srg [] [] ?_
      refine Runs.alln ?_
      refine Wp.fg ⟨[(6, .obj 6 0), (7, .t (.int .i64 0)), (8, .t (.bool false)), (9, .obj 9 0), (14, .t (.int .i64 r2.2.1))], [(6, [.t (.int .i64 p2), .t (.int .i64 r2.1), .t (.int .i64 0), .t (.int .i64 0), .t (.int .i64 0), .nil, .t (.int .i64 0), .t (.int .i64 0), .t (.int .i64 0), .nil]), (9, [.t (.int .i64 p2), .t (.int .i64 r2.1), .t (.int .i64 0), .t (.int .i64 0), .t (.int .i64 0), .nil, .t (.int .i64 0), .t (.int .i64 0), .t (.int .i64 0), .nil])], []⟩ ?_
      refine Wp.ret ?_
      refine blkR ?_
      refine thenR ?_
      obtain rfl := Option.some.inj h
      exact RetK [.agg [.t (.int .i64 p2), .t (.int .i64 r2.1), .t (.int .i64 0), .t (.int .i64 0), .t (.int .i64 0), .nil, .t (.int .i64 0), .t (.int .i64 0), .t (.int .i64 0), .nil], .t (.int .i64 0), .t (.bool false)] (.tup [.agg [.t (.int .i64 p2), .t (.int .i64 r2.1), .t (.int .i64 0), .t (.int .i64 0), .t (.int .i64 0), .nil, .t (.int .i64 0), .t (.int .i64 0), .t (.int .i64 0), .nil], .one (.t (.int .i64 0)), .one (.t (.bool false))]) [] kr kr (.tup (.cons (.agg (.cons (.refl _) (.cons (.refl _) (.cons (.refl _) (.cons (.refl _) (.cons (.refl _) (.cons (.nilO _ _) (.cons (.refl _) (.cons (.refl _) (.cons (.refl _) (.cons (.nilO _ _) .nil))))))))))) (.cons (.refl _) (.cons (.refl _) .nil)))) .nil
    have h := cond_f h hc
    refine Wp.srg [] [] ?_
    refine Runs.alln ?_
    refine Wp.fg ⟨[(0, .t (.sl 1 (p0.map (eInt .u8)))), (2, .t (.int .i64 p2)), (6, .obj 6 0), (7, .t (.int .i64 0)), (8, .t (.bool false)), (9, .obj 9 0), (14, .t (.int .i64 r2.2.1)), (56, .t (.bool (p2 == 2)))], [(6, [.t (.int .i64 0), .t (.int .i64 0), .t (.int .i64 0), .t (.int .i64 0), .t (.int .i64 0), .nil, .t (.int .i64 0), .t (.int .i64 0), .t (.int .i64 0), .nil]), (9, [.t (.int .i64 p2), .t (.int .i64 r2.1), .t (.int .i64 0), .t (.int .i64 0), .t (.int .i64 0), .nil, .t (.int .i64 0), .t (.int .i64 0), .t (.int .i64 0), .nil])], []⟩ ?_
    refine Wp.cond2 (b := p2 == 2) kr (fun hc => ?_) (fun hc => ?_)
    · have h := cond_t h hc
      refine Wp.srg [] [] ?_
      refine Runs.alln ?_
      refine Wp.fg ⟨[(0, .t (.sl 1 (p0.map (eInt .u8)))), (6, .obj 6 0), (7, .t (.int .i64 0)), (8, .t (.bool false)), (9, .obj 9 0), (14, .t (.int .i64 r2.2.1)), (16, .own 3866624)], [(6, [.t (.int .i64 0), .t (.int .i64 0), .t (.int .i64 0), .t (.int .i64 0), .t (.int .i64 0), .nil, .t (.int .i64 0), .t (.int .i64 0), .t (.int .i64 0), .nil]), (9, [.t (.int .i64 p2), .t (.int .i64 r2.1), .t (.int .i64 0), .t (.int .i64 0), .t (.int .i64 0), .nil, .t (.int .i64 0), .t (.int .i64 0), .t (.int .i64 0), .nil])], [(3866624, .live 3 1 ((([] : List Int)).map (eInt .i64)))]⟩ ?_
      refine Wp.seqJ (α := Int × (List Int) × Int × (Int × Int × Bool)) (fun a => ⟨[(6, .obj 6 0), (7, .t (.int .i64 0)), (8, .t (.bool false)), (9, .obj 9 0), (14, .t (.int .i64 a.1)), (16, .own 1048577)], [(6, [.t (.int .i64 0), .t (.int .i64 0), .t (.int .i64 0), .t (.int .i64 0), .t (.int .i64 0), .nil, .t (.int .i64 0), .t (.int .i64 0), .t (.int .i64 0), .nil]), (9, [.t (.int .i64 a.2.2.1), .t (.int .i64 a.2.2.2.1), .t (.int .i64 0), .t (.int .i64 0), .t (.int .i64 0), .nil, .t (.int .i64 0), .t (.int .i64 0), .t (.int .i64 0), .nil])], [(1048577, .live 3 1 (a.2.1.map (eInt .i64)))]⟩) (fun a => spec_l12Body_j2 u a.1 a.2.1 a.2.2.1 a.2.2.2 = some r) ?_ ?_
      · rintro ⟨x14, x15, p2, r2⟩ h
        change spec_l12Body_j2 u x14 x15 p2 r2 = some r at h
        unfold spec_l12Body_j2 at h
        refine Wp.seq ?_
        refine Wp.regionA (pOf []) (rhoOf [(9, .obj 9), (16, .own 16), (83, .own 16), (84, .el 16), (85, .frz), (86, .own 16), (87, .el 16), (88, .frz), (89, .frz), (90, .frz), (91, .obj 9)]) kr kr ?_
        refine Runs.batch 1 kr ?_
        obtain ⟨y16, e_y16, h⟩ := bind_some h
        refine Runs.idxO (e := 3) (e' := 3) (kk := .i64) (sz := 1) (eInt .i64) x15 0 1048577 rfl kr kr kr kr kr kr kr e_y16 ?_
        refine Runs.loadE (e' := 3) (sz := 1) (m := 1) (gg := false) (eInt .i64) x15 1048577 (Int.toNat 0) 0 (.t (.int .i64 y16)) rfl kr kr kr kr kr kr (idx_some e_y16).2 kr ?_
        refine Runs.batch 1 kr ?_
        obtain ⟨y17, e_y17, h⟩ := bind_some h
        refine Runs.idxO (e := 3) (e' := 3) (kk := .i64) (sz := 1) (eInt .i64) x15 1 1048577 rfl kr kr kr kr kr kr kr e_y17 ?_
        refine Runs.loadE (e' := 3) (sz := 1) (m := 1) (gg := false) (eInt .i64) x15 1048577 (Int.toNat 1) 0 (.t (.int .i64 y17)) rfl kr kr kr kr kr kr (idx_some e_y17).2 kr ?_
        refine Runs.alln ?_
        refine Wp.fg ⟨[(6, .obj 6 0), (7, .t (.int .i64 0)), (8, .t (.bool false)), (9, .obj 9 0), (14, .t (.int .i64 x14)), (16, .own 1048577)], [(6, [.t (.int .i64 0), .t (.int .i64 0), .t (.int .i64 0), .t (.int .i64 0), .t (.int .i64 0), .nil, .t (.int .i64 0), .t (.int .i64 0), .t (.int .i64 0), .nil]), (9, [.t (.int .i64 p2), .t (.int .i64 r2.1), .t (.int .i64 0), .t (.int .i64 0), .t (.int .i64 0), .nil, .t (.int .i64 (bAdd .i64 y16 (bShl .i64 y17 20))), .t (.int .i64 0), .t (.int .i64 0), .nil])], [(1048577, .live 3 1 (x15.map (eInt .i64)))]⟩ ?_
        refine Wp.regionA (pOf []) (rhoOf [(9, .obj 9), (16, .own 16), (92, .own 16), (93, .el 16), (94, .frz), (95, .own 16), (96, .el 16), (97, .frz), (98, .frz), (99, .frz), (100, .obj 9)]) kr kr ?_
        refine Runs.batch 1 kr ?_
        obtain ⟨y18, e_y18, h⟩ := bind_some h
        refine Runs.idxO (e := 3) (e' := 3) (kk := .i64) (sz := 1) (eInt .i64) x15 2 1048577 rfl kr kr kr kr kr kr kr e_y18 ?_
        refine Runs.loadE (e' := 3) (sz := 1) (m := 1) (gg := false) (eInt .i64) x15 1048577 (Int.toNat 2) 0 (.t (.int .i64 y18)) rfl kr kr kr kr kr kr (idx_some e_y18).2 kr ?_
        refine Runs.batch 1 kr ?_
        obtain ⟨y19, e_y19, h⟩ := bind_some h
        refine Runs.idxO (e := 3) (e' := 3) (kk := .i64) (sz := 1) (eInt .i64) x15 3 1048577 rfl kr kr kr kr kr kr kr e_y19 ?_
        refine Runs.loadE (e' := 3) (sz := 1) (m := 1) (gg := false) (eInt .i64) x15 1048577 (Int.toNat 3) 0 (.t (.int .i64 y19)) rfl kr kr kr kr kr kr (idx_some e_y19).2 kr ?_
        refine Runs.all kr ?_
        refine blkN ?_
        refine thenN ?_
        exact ⟨(x14, p2, r2, bAdd .i64 y16 (bShl .i64 y17 20), bAdd .i64 y18 (bShl .i64 y19 20)), h, Le.of (mo := []) (mr := []) kr kr kr kr⟩
      · refine Wp.srg [] [] ?_
        refine Runs.alln ?_
        refine Wp.fg ⟨[(0, .t (.sl 1 (p0.map (eInt .u8)))), (6, .obj 6 0), (7, .t (.int .i64 0)), (8, .t (.bool false)), (9, .obj 9 0), (14, .t (.int .i64 r2.2.1)), (16, .own 3866624), (17, .t (.int .i64 0))], [(6, [.t (.int .i64 0), .t (.int .i64 0), .t (.int .i64 0), .t (.int .i64 0), .t (.int .i64 0), .nil, .t (.int .i64 0), .t (.int .i64 0), .t (.int .i64 0), .nil]), (9, [.t (.int .i64 p2), .t (.int .i64 r2.1), .t (.int .i64 0), .t (.int .i64 0), .t (.int .i64 0), .nil, .t (.int .i64 0), .t (.int .i64 0), .t (.int .i64 0), .nil])], [(3866624, .live 3 1 ((([] : List Int)).map (eInt .i64)))]⟩ ?_
        refine Wp.block ?_
        refine Wp.loopF (α := (List Int) × Int × (List Int) × Int × Int × (Int × Int × Bool)) (fun a => ⟨[(0, .t (.sl 1 (a.1.map (eInt .u8)))), (6, .obj 6 0), (7, .t (.int .i64 0)), (8, .t (.bool false)), (9, .obj 9 0), (14, .t (.int .i64 a.2.1)), (16, .own 1048577), (17, .t (.int .i64 a.2.2.2.1))], [(6, [.t (.int .i64 0), .t (.int .i64 0), .t (.int .i64 0), .t (.int .i64 0), .t (.int .i64 0), .nil, .t (.int .i64 0), .t (.int .i64 0), .t (.int .i64 0), .nil]), (9, [.t (.int .i64 a.2.2.2.2.1), .t (.int .i64 a.2.2.2.2.2.1), .t (.int .i64 0), .t (.int .i64 0), .t (.int .i64 0), .nil, .t (.int .i64 0), .t (.int .i64 0), .t (.int .i64 0), .nil])], [(1048577, .live 3 1 (a.2.2.1.map (eInt .i64)))]⟩) (fun k_spec_l12Body_l3 a => spec_l12Body_l3 u k_spec_l12Body_l3 a.1 a.2.1 a.2.2.1 a.2.2.2.1 a.2.2.2.2.1 a.2.2.2.2.2 = some r) ?_ ?_ u (p0, r2.2.1, ([] : List Int), 0, p2, r2) h (Le.of (mo := []) (mr := [(1048577, 3866624)]) kr kr kr kr)
        · intro a h; unfold spec_l12Body_l3 at h; cases h
        · rintro k_spec_l12Body_l3 ⟨p0, x6, x7, x8, p2, r2⟩ h
          change spec_l12Body_l3 u (k_spec_l12Body_l3 + 1) p0 x6 x7 x8 p2 r2 = some r at h
          rw [spec_l12Body_l3] at h
          refine Wp.seq ?_
          refine Wp.srg [] [] ?_
          refine Runs.alln ?_
          refine Wp.fg ⟨[(0, .t (.sl 1 (p0.map (eInt .u8)))), (6, .obj 6 0), (7, .t (.int .i64 0)), (8, .t (.bool false)), (9, .obj 9 0), (14, .t (.int .i64 x6)), (16, .own 1048577), (17, .t (.int .i64 x8)), (61, .t (.bool (decide (x8 < 4))))], [(6, [.t (.int .i64 0), .t (.int .i64 0), .t (.int .i64 0), .t (.int .i64 0), .t (.int .i64 0), .nil, .t (.int .i64 0), .t (.int .i64 0), .t (.int .i64 0), .nil]), (9, [.t (.int .i64 p2), .t (.int .i64 r2.1), .t (.int .i64 0), .t (.int .i64 0), .t (.int .i64 0), .nil, .t (.int .i64 0), .t (.int .i64 0), .t (.int .i64 0), .nil])], [(1048577, .live 3 1 (x7.map (eInt .i64)))]⟩ ?_
          refine Wp.cond2 (b := decide (x8 < 4)) kr (fun hc => ?_) (fun hc => ?_)
          · have h := cond_t h hc
            refine Wp.skip (thenN ?_)
            refine Wp.seq ?_
            refine Wp.block ?_
            refine Wp.srg [] [] ?_
            refine Runs.batch 2 kr ?_
            obtain ⟨r12, e_r12, h⟩ := bind_some h
            refine Runs.callK false 67 79 [] [.t (.sl 1 (p0.map (eInt .u8))), .t (.int .i64 x6)] _ _ _ rfl rfl kr kr kr kr kr (spec_GetVar_ok u p0 x6 r12 e_r12) kr ?_
            refine Runs.alln ?_
            refine Wp.fg ⟨[(0, .t (.sl 1 (p0.map (eInt .u8)))), (6, .obj 6 0), (7, .t (.int .i64 0)), (8, .t (.bool false)), (9, .obj 9 0), (14, .t (.int .i64 x6)), (16, .own 1048577), (17, .t (.int .i64 x8)), (18, .t (.int .i64 r12.1)), (19, .t (.int .i64 r12.2.1)), (20, .t (.bool r12.2.2))], [(6, [.t (.int .i64 0), .t (.int .i64 0), .t (.int .i64 0), .t (.int .i64 0), .t (.int .i64 0), .nil, .t (.int .i64 0), .t (.int .i64 0), .t (.int .i64 0), .nil]), (9, [.t (.int .i64 p2), .t (.int .i64 r2.1), .t (.int .i64 0), .t (.int .i64 0), .t (.int .i64 0), .nil, .t (.int .i64 0), .t (.int .i64 0), .t (.int .i64 0), .nil])], [(1048577, .live 3 1 (x7.map (eInt .i64)))]⟩ ?_
            refine Wp.seq ?_
            refine Wp.seqJ (α := (List Int) × Int × (List Int) × Int × (Int × Int × Bool) × Bool × Int × (Int × Int × Bool)) (fun a => ⟨[(0, .t (.sl 1 (a.1.map (eInt .u8)))), (6, .obj 6 0), (7, .t (.int .i64 0)), (8, .t (.bool false)), (9, .obj 9 0), (14, .t (.int .i64 a.2.1)), (16, .own 1048577), (17, .t (.int .i64 a.2.2.2.1)), (18, .t (.int .i64 a.2.2.2.2.1.1)), (19, .t (.int .i64 a.2.2.2.2.1.2.1)), (76, .t (.bool a.2.2.2.2.2.1))], [(6, [.t (.int .i64 0), .t (.int .i64 0), .t (.int .i64 0), .t (.int .i64 0), .t (.int .i64 0), .nil, .t (.int .i64 0), .t (.int .i64 0), .t (.int .i64 0), .nil]), (9, [.t (.int .i64 a.2.2.2.2.2.2.1), .t (.int .i64 a.2.2.2.2.2.2.2.1), .t (.int .i64 0), .t (.int .i64 0), .t (.int .i64 0), .nil, .t (.int .i64 0), .t (.int .i64 0), .t (.int .i64 0), .nil])], [(1048577, .live 3 1 (a.2.2.1.map (eInt .i64)))]⟩) (fun a => spec_l12Body_j4 u (fun z0 z1 z2 z3 z4 z5 => spec_l12Body_l3 u k_spec_l12Body_l3 z0 z1 z2 z3 z4 z5) a.1 a.2.1 a.2.2.1 a.2.2.2.1 a.2.2.2.2.1 a.2.2.2.2.2.1 a.2.2.2.2.2.2.1 a.2.2.2.2.2.2.2 = some r) ?_ ?_
            · rintro ⟨p0, x6, x7, x8, r12, x13, p2, r2⟩ h
              change spec_l12Body_j4 u (fun z0 z1 z2 z3 z4 z5 => spec_l12Body_l3 u k_spec_l12Body_l3 z0 z1 z2 z3 z4 z5) p0 x6 x7 x8 r12 x13 p2 r2 = some r at h
              unfold spec_l12Body_j4 at h
              refine Wp.cond2 (b := x13) kr (fun hc => ?_) (fun hc => ?_)
              · have h := cond_t h hc
                refine Wp.srg [] [] ?_
                refine Runs.alln ?_
                refine Wp.fg ⟨[(0, .t (.sl 1 (p0.map (eInt .u8)))), (6, .obj 6 0), (7, .t (.int .i64 0)), (8, .t (.bool false)), (9, .obj 9 0), (14, .t (.int .i64 x6)), (16, .own 1048577), (17, .t (.int .i64 x8)), (18, .t (.int .i64 r12.1)), (19, .t (.int .i64 r12.2.1))], [(6, [.t (.int .i64 p2), .t (.int .i64 r2.1), .t (.int .i64 0), .t (.int .i64 0), .t (.int .i64 0), .nil, .t (.int .i64 0), .t (.int .i64 0), .t (.int .i64 0), .nil]), (9, [.t (.int .i64 p2), .t (.int .i64 r2.1), .t (.int .i64 0), .t (.int .i64 0), .t (.int .i64 0), .nil, .t (.int .i64 0), .t (.int .i64 0), .t (.int .i64 0), .nil])], [(1048577, .live 3 1 (x7.map (eInt .i64)))]⟩ ?_
                refine Wp.ret ?_
                refine thenR ?_
                refine blkR ?_
                refine thenR ?_
                refine thenR ?_
                refine blkR ?_
                refine thenR ?_
                refine blkR ?_
                refine thenR ?_
                obtain rfl := Option.some.inj h
                exact RetK [.agg [.t (.int .i64 p2), .t (.int .i64 r2.1), .t (.int .i64 0), .t (.int .i64 0), .t (.int .i64 0), .nil, .t (.int .i64 0), .t (.int .i64 0), .t (.int .i64 0), .nil], .t (.int .i64 0), .t (.bool false)] (.tup [.agg [.t (.int .i64 p2), .t (.int .i64 r2.1), .t (.int .i64 0), .t (.int .i64 0), .t (.int .i64 0), .nil, .t (.int .i64 0), .t (.int .i64 0), .t (.int .i64 0), .nil], .one (.t (.int .i64 0)), .one (.t (.bool false))]) [] kr kr (.tup (.cons (.agg (.cons (.refl _) (.cons (.refl _) (.cons (.refl _) (.cons (.refl _) (.cons (.refl _) (.cons (.nilO _ _) (.cons (.refl _) (.cons (.refl _) (.cons (.refl _) (.cons (.nilO _ _) .nil))))))))))) (.cons (.refl _) (.cons (.refl _) .nil)))) .nil
              have h := cond_f h hc
              refine Wp.skip (thenN ?_)
              refine Wp.srg [] [] ?_
              refine Runs.batch 3 kr ?_
              obtain ⟨_, e_14, h⟩ := bind_some h
              refine Runs.appT (y := .own 5242880) (eInt .i64) 81 1 3 1 8 1048577 x7 ([r12.1]) rfl rfl rfl rfl kr kr kr kr kr kr (.inl rfl) kr (of_decide_eq_true (chk_some e_14)) kr kr ?_
              refine Runs.alln ?_
              refine Wp.fg ⟨[(0, .t (.sl 1 (p0.map (eInt .u8)))), (6, .obj 6 0), (7, .t (.int .i64 0)), (8, .t (.bool false)), (9, .obj 9 0), (14, .t (.int .i64 x6)), (16, .own 5308416), (17, .t (.int .i64 x8)), (19, .t (.int .i64 r12.2.1))], [(6, [.t (.int .i64 0), .t (.int .i64 0), .t (.int .i64 0), .t (.int .i64 0), .t (.int .i64 0), .nil, .t (.int .i64 0), .t (.int .i64 0), .t (.int .i64 0), .nil]), (9, [.t (.int .i64 p2), .t (.int .i64 r2.1), .t (.int .i64 0), .t (.int .i64 0), .t (.int .i64 0), .nil, .t (.int .i64 0), .t (.int .i64 0), .t (.int .i64 0), .nil])], [(5308416, .live 3 1 ((x7 ++ ([r12.1])).map (eInt .i64)))]⟩ ?_
              refine Wp.rg [] [] ?_
              refine Runs.all kr ?_
              refine blkN ?_
              refine thenN ?_
              refine Wp.rg [] [] ?_
              refine Runs.alln ?_
              exact ⟨(p0, r12.2.1, x7 ++ ([r12.1]), bAdd .i64 x8 1, p2, r2), h, Le.of (mo := []) (mr := [(1048577, 5308416)]) kr kr kr kr⟩
            · refine Wp.rg [] [] ?_
              refine Runs.batch 3 kr ?_
              rcases tf (!r12.2.2) with hc | hc
              · have h := cond_t h hc
                refine Runs.known 73 (v := true) kr hc ?_
                refine Runs.alln ?_
                exact ⟨(p0, x6, x7, x8, r12, true, p2, r2), h, Le.of (mo := []) (mr := []) kr kr kr kr⟩
              have h := cond_f h hc
              refine Runs.known 73 (v := false) kr hc ?_
              refine Runs.alln ?_
              exact ⟨(p0, x6, x7, x8, r12, decide (r12.1 ≥ 1048576), p2, r2), h, Le.of (mo := []) (mr := []) kr kr kr kr⟩
          have h := cond_f h hc
          refine Wp.exit ?_
          refine thenE ?_
          refine thenE ?_
          refine blkE ?_
          refine thenN ?_
          exact ⟨(x6, x7, p2, r2), h, Le.of (mo := []) (mr := []) kr kr kr kr⟩
    have h := cond_f h hc
    refine Wp.srg [] [] ?_
    refine Runs.alln ?_
    refine Wp.fg ⟨[(0, .t (.sl 1 (p0.map (eInt .u8)))), (6, .obj 6 0), (7, .t (.int .i64 0)), (8, .t (.bool false)), (9, .obj 9 0), (14, .t (.int .i64 r2.2.1)), (101, .t (.bool (p2 == 3)))], [(6, [.t (.int .i64 0), .t (.int .i64 0), .t (.int .i64 0), .t (.int .i64 0), .t (.int .i64 0), .nil, .t (.int .i64 0), .t (.int .i64 0), .t (.int .i64 0), .nil]), (9, [.t (.int .i64 p2), .t (.int .i64 r2.1), .t (.int .i64 0), .t (.int .i64 0), .t (.int .i64 0), .nil, .t (.int .i64 0), .t (.int .i64 0), .t (.int .i64 0), .nil])], []⟩ ?_
    refine Wp.cond2 (b := p2 == 3) kr (fun hc => ?_) (fun hc => ?_)
    · have h := cond_t h hc
      refine Wp.srg [] [] ?_
      refine Runs.batch 2 kr ?_
      obtain ⟨r13, e_r13, h⟩ := bind_some h
      refine Runs.callK false 107 79 [] [.t (.sl 1 (p0.map (eInt .u8))), .t (.int .i64 r2.2.1)] _ _ _ rfl rfl kr kr kr kr kr (spec_GetVar_ok u p0 r2.2.1 r13 e_r13) kr ?_
      refine Runs.alln ?_
      refine Wp.fg ⟨[(0, .t (.sl 1 (p0.map (eInt .u8)))), (6, .obj 6 0), (7, .t (.int .i64 0)), (8, .t (.bool false)), (9, .obj 9 0), (14, .t (.int .i64 r2.2.1)), (21, .t (.int .i64 r13.1)), (22, .t (.int .i64 r13.2.1)), (23, .t (.bool r13.2.2))], [(6, [.t (.int .i64 0), .t (.int .i64 0), .t (.int .i64 0), .t (.int .i64 0), .t (.int .i64 0), .nil, .t (.int .i64 0), .t (.int .i64 0), .t (.int .i64 0), .nil]), (9, [.t (.int .i64 p2), .t (.int .i64 r2.1), .t (.int .i64 0), .t (.int .i64 0), .t (.int .i64 0), .nil, .t (.int .i64 0), .t (.int .i64 0), .t (.int .i64 0), .nil])], []⟩ ?_
      refine Wp.srg [] [] ?_
      refine Runs.batch 2 kr ?_
      obtain ⟨r14, e_r14, h⟩ := bind_some h
      refine Runs.callK false 114 133 [] [.t (.sl 1 (p0.map (eInt .u8))), .t (.int .i64 r13.2.1), .t (.int .i64 6)] _ _ _ rfl rfl kr kr kr kr kr (spec_GetPart_ok u p0 r13.2.1 6 r14 e_r14) kr ?_
      refine Runs.alln ?_
      refine Wp.fg ⟨[(6, .obj 6 0), (7, .t (.int .i64 0)), (8, .t (.bool false)), (9, .obj 9 0), (14, .t (.int .i64 r2.2.1)), (21, .t (.int .i64 r13.1)), (23, .t (.bool r13.2.2)), (24, .own 7471104), (25, .t (.int .i64 r14.2.1)), (26, .t (.bool r14.2.2))], [(6, [.t (.int .i64 0), .t (.int .i64 0), .t (.int .i64 0), .t (.int .i64 0), .t (.int .i64 0), .nil, .t (.int .i64 0), .t (.int .i64 0), .t (.int .i64 0), .nil]), (9, [.t (.int .i64 p2), .t (.int .i64 r2.1), .t (.int .i64 0), .t (.int .i64 0), .t (.int .i64 0), .nil, .t (.int .i64 0), .t (.int .i64 0), .t (.int .i64 0), .nil])], [(7471104, .live 5 1 (r14.1.map (eInt .u8)))]⟩ ?_
      refine Wp.srg [] [] ?_
      refine Runs.alln ?_
      refine Wp.fg ⟨[(6, .obj 6 0), (7, .t (.int .i64 0)), (8, .t (.bool false)), (9, .obj 9 0), (14, .t (.int .i64 r2.2.1)), (23, .t (.bool r13.2.2)), (24, .own 7471104), (25, .t (.int .i64 r14.2.1)), (26, .t (.bool r14.2.2))], [(6, [.t (.int .i64 0), .t (.int .i64 0), .t (.int .i64 0), .t (.int .i64 0), .t (.int .i64 0), .nil, .t (.int .i64 0), .t (.int .i64 0), .t (.int .i64 0), .nil]), (9, [.t (.int .i64 p2), .t (.int .i64 r2.1), .t (.int .i64 0), .t (.int .i64 0), .t (.int .i64 0), .nil, .t (.int .i64 0), .t (.int .i64 0), .t (.int .i64 r13.1), .nil])], [(7471104, .live 5 1 (r14.1.map (eInt .u8)))]⟩ ?_
      refine Wp.srg [] [] ?_
      refine Runs.alln ?_
      refine Wp.fg ⟨[(6, .obj 6 0), (7, .t (.int .i64 0)), (8, .t (.bool false)), (9, .obj 9 0), (14, .t (.int .i64 r2.2.1)), (23, .t (.bool r13.2.2)), (25, .t (.int .i64 r14.2.1)), (26, .t (.bool r14.2.2))], [(6, [.t (.int .i64 0), .t (.int .i64 0), .t (.int .i64 0), .t (.int .i64 0), .t (.int .i64 0), .nil, .t (.int .i64 0), .t (.int .i64 0), .t (.int .i64 0), .nil]), (9, [.t (.int .i64 p2), .t (.int .i64 r2.1), .t (.int .i64 0), .t (.int .i64 0), .t (.int .i64 0), .nil, .t (.int .i64 0), .t (.int .i64 0), .t (.int .i64 r13.1), .own 7471104])], [(7471104, .live 5 1 (r14.1.map (eInt .u8)))]⟩ ?_
      refine Wp.srg [] [] ?_
      refine Runs.batch 4 kr ?_
      rcases tf (r13.2.2) with hc | hc
      · have h := cond_t h hc
        refine Runs.known 125 (v := true) kr hc ?_
        refine Runs.alln ?_
        refine Wp.fg ⟨[(6, .obj 6 0), (7, .t (.int .i64 r14.2.1)), (8, .t (.bool r14.2.2)), (9, .obj 9 0), (14, .t (.int .i64 r2.2.1))], [(6, [.t (.int .i64 p2), .t (.int .i64 r2.1), .t (.int .i64 0), .t (.int .i64 0), .t (.int .i64 0), .nil, .t (.int .i64 0), .t (.int .i64 0), .t (.int .i64 r13.1), .own 7471104]), (9, [.t (.int .i64 p2), .t (.int .i64 r2.1), .t (.int .i64 0), .t (.int .i64 0), .t (.int .i64 0), .nil, .t (.int .i64 0), .t (.int .i64 0), .t (.int .i64 r13.1), .own 7471104])], [(7471104, .live 5 1 (r14.1.map (eInt .u8)))]⟩ ?_
        refine Wp.ret ?_
        refine blkR ?_
        refine thenR ?_
        obtain rfl := Option.some.inj h
        exact RetK [.agg [.t (.int .i64 p2), .t (.int .i64 r2.1), .t (.int .i64 0), .t (.int .i64 0), .t (.int .i64 0), .nil, .t (.int .i64 0), .t (.int .i64 0), .t (.int .i64 r13.1), .own 7471104], .t (.int .i64 r14.2.1), .t (.bool r14.2.2)] (.tup [.agg [.t (.int .i64 p2), .t (.int .i64 r2.1), .t (.int .i64 0), .t (.int .i64 0), .t (.int .i64 0), .nil, .t (.int .i64 0), .t (.int .i64 0), .t (.int .i64 r13.1), .ow 5 1 (r14.1.map (eInt .u8))], .one (.t (.int .i64 r14.2.1)), .one (.t (.bool r14.2.2))]) [] kr kr (.tup (.cons (.agg (.cons (.refl _) (.cons (.refl _) (.cons (.refl _) (.cons (.refl _) (.cons (.refl _) (.cons (.nilO _ _) (.cons (.refl _) (.cons (.refl _) (.cons (.refl _) (.cons (.refl _) .nil))))))))))) (.cons (.refl _) (.cons (.refl _) .nil)))) .nil
      have h := cond_f h hc
      refine Runs.known 125 (v := false) kr hc ?_
      refine Runs.alln ?_
      refine Wp.fg ⟨[(6, .obj 6 0), (7, .t (.int .i64 r14.2.1)), (8, .t (.bool false)), (9, .obj 9 0), (14, .t (.int .i64 r2.2.1))], [(6, [.t (.int .i64 p2), .t (.int .i64 r2.1), .t (.int .i64 0), .t (.int .i64 0), .t (.int .i64 0), .nil, .t (.int .i64 0), .t (.int .i64 0), .t (.int .i64 r13.1), .own 7471104]), (9, [.t (.int .i64 p2), .t (.int .i64 r2.1), .t (.int .i64 0), .t (.int .i64 0), .t (.int .i64 0), .nil, .t (.int .i64 0), .t (.int .i64 0), .t (.int .i64 r13.1), .own 7471104])], [(7471104, .live 5 1 (r14.1.map (eInt .u8)))]⟩ ?_
      refine Wp.ret ?_
      refine blkR ?_
      refine thenR ?_
      obtain rfl := Option.some.inj h
      exact RetK [.agg [.t (.int .i64 p2), .t (.int .i64 r2.1), .t (.int .i64 0), .t (.int .i64 0), .t (.int .i64 0), .nil, .t (.int .i64 0), .t (.int .i64 0), .t (.int .i64 r13.1), .own 7471104], .t (.int .i64 r14.2.1), .t (.bool false)] (.tup [.agg [.t (.int .i64 p2), .t (.int .i64 r2.1), .t (.int .i64 0), .t (.int .i64 0), .t (.int .i64 0), .nil, .t (.int .i64 0), .t (.int .i64 0), .t (.int .i64 r13.1), .ow 5 1 (r14.1.map (eInt .u8))], .one (.t (.int .i64 r14.2.1)), .one (.t (.bool false))]) [] kr kr (.tup (.cons (.agg (.cons (.refl _) (.cons (.refl _) (.cons (.refl _) (.cons (.refl _) (.cons (.refl _) (.cons (.nilO _ _) (.cons (.refl _) (.cons (.refl _) (.cons (.refl _) (.cons (.refl _) .nil))))))))))) (.cons (.refl _) (.cons (.refl _) .nil)))) .nil
    have h := cond_f h hc
    refine Wp.skip ?_
    refine blkN ?_
    refine thenN ?_
    exact ⟨(r2.2.1, p2, r2, 0, 0), h, Le.of (mo := []) (mr := []) kr kr kr kr⟩
theorem spec_l6SameSums_ok (u : Nat) (p0 : List Sum) (p1 : List Sum) (r : Bool) (h : spec_l6SameSums u p0 p1 = some r) : CallOK Tryz.prog 158 [.one (.t (.sl 2 (p0.map Sum.enc))), .one (.t (.sl 2 (p1.map Sum.enc)))] (.one (.t (.bool r))) [] := by
  unfold spec_l6SameSums at h
  refine CallOK.of_bodyK (fn := Tryz.f158) (m := false) [.t (.sl 2 (p0.map Sum.enc)), .t (.sl 2 (p1.map Sum.enc))] kr rfl kr kr kr kr kr ?_
  refine Wp.srg [] [] ?_
  refine Runs.alln ?_
  refine Wp.fg ⟨[(0, .t (.sl 2 (p0.map Sum.enc))), (1, .t (.sl 2 (p1.map Sum.enc))), (4, .t (.bool false))], [], []⟩ ?_
  refine Wp.seq ?_
  refine Wp.srg [] [] ?_
  refine Runs.batch 1 kr ?_
  refine Runs.lenT (y := .t (.sl 2 (p0.map Sum.enc))) (e := 220) Sum.enc p0 2 rfl rfl rfl kr kr kr kr kr ?_
  refine Runs.batch 1 kr ?_
  refine Runs.lenT (y := .t (.sl 2 (p1.map Sum.enc))) (e := 220) Sum.enc p1 2 rfl rfl rfl kr kr kr kr kr ?_
  refine Runs.alln ?_
  refine Wp.fg ⟨[(0, .t (.sl 2 (p0.map Sum.enc))), (1, .t (.sl 2 (p1.map Sum.enc))), (4, .t (.bool false)), (10, .t (.bool (((p0.length : Int)) != ((p1.length : Int)))))], [], []⟩ ?_
  refine Wp.cond2 (b := ((p0.length : Int)) != ((p1.length : Int))) kr (fun hc => ?_) (fun hc => ?_)
  · have h := cond_t h hc
    refine Wp.srg [] [] ?_
    refine Runs.alln ?_
    refine Wp.fg ⟨[(0, .t (.sl 2 (p0.map Sum.enc))), (1, .t (.sl 2 (p1.map Sum.enc))), (4, .t (.bool false))], [], []⟩ ?_
    refine Wp.ret ?_
    refine thenR ?_
    obtain rfl := Option.some.inj h
    exact RetK [.t (.bool false)] _ [] kr kr (.refl _) .nil
  have h := cond_f h hc
  refine Wp.skip (thenN ?_)
  refine Wp.seqJ (α := Unit) (fun a => ⟨[(4, .t (.bool false))], [], []⟩) (fun a => spec_l6SameSums_j1 u = some r) ?_ ?_
  · rintro ⟨⟩ h
    change spec_l6SameSums_j1 u = some r at h
    unfold spec_l6SameSums_j1 at h
    refine Wp.srg [] [] ?_
    refine Runs.alln ?_
    refine Wp.fg ⟨[(4, .t (.bool true))], [], []⟩ ?_
    refine Wp.ret ?_
    obtain rfl := Option.some.inj h
    exact RetK [.t (.bool true)] _ [] kr kr (.refl _) .nil
  · refine Wp.srg [] [] ?_
    refine Runs.alln ?_
    refine Wp.fg ⟨[(0, .t (.sl 2 (p0.map Sum.enc))), (1, .t (.sl 2 (p1.map Sum.enc))), (4, .t (.bool false)), (5, .t (.int .i64 0))], [], []⟩ ?_
    refine Wp.block ?_
    refine Wp.loopF (α := (List Sum) × (List Sum) × Int) (fun a => ⟨[(0, .t (.sl 2 (a.1.map Sum.enc))), (1, .t (.sl 2 (a.2.1.map Sum.enc))), (4, .t (.bool false)), (5, .t (.int .i64 a.2.2))], [], []⟩) (fun k_spec_l6SameSums_l2 a => spec_l6SameSums_l2 u k_spec_l6SameSums_l2 a.1 a.2.1 a.2.2 = some r) ?_ ?_ u (p0, p1, 0) h (Le.of (mo := []) (mr := []) kr kr kr kr)
    · intro a h; unfold spec_l6SameSums_l2 at h; cases h
    · rintro k_spec_l6SameSums_l2 ⟨p0, p1, x2⟩ h
      change spec_l6SameSums_l2 u (k_spec_l6SameSums_l2 + 1) p0 p1 x2 = some r at h
      rw [spec_l6SameSums_l2] at h
      refine Wp.seq ?_
      refine Wp.srg [] [] ?_
      refine Runs.batch 2 kr ?_
      refine Runs.lenT (y := .t (.sl 2 (p0.map Sum.enc))) (e := 220) Sum.enc p0 2 rfl rfl rfl kr kr kr kr kr ?_
      refine Runs.alln ?_
      refine Wp.fg ⟨[(0, .t (.sl 2 (p0.map Sum.enc))), (1, .t (.sl 2 (p1.map Sum.enc))), (4, .t (.bool false)), (5, .t (.int .i64 x2)), (14, .t (.bool (decide (x2 < ((p0.length : Int))))))], [], []⟩ ?_
      refine Wp.cond2 (b := decide (x2 < ((p0.length : Int)))) kr (fun hc => ?_) (fun hc => ?_)
      · have h := cond_t h hc
        refine Wp.skip (thenN ?_)
        refine Wp.seq ?_
        refine Wp.block ?_
        refine Wp.seq ?_
        refine Wp.regionA (pOf []) (rhoOf [(0, .frz), (1, .frz), (5, .frz), (17, .frz), (18, .frz), (19, .frz), (20, .frz), (21, .frz), (22, .frz), (23, .frz), (24, .frz)]) kr kr ?_
        refine Runs.batch 2 kr ?_
        obtain ⟨y4, e_y4, h⟩ := bind_some h
        refine Runs.idxT (e := 220) (kk := .i64) (sz := 2) Sum.enc p0 x2 rfl kr kr kr kr kr kr e_y4 ?_
        refine Runs.batch 3 kr ?_
        obtain ⟨y5, e_y5, h⟩ := bind_some h
        refine Runs.idxT (e := 220) (kk := .i64) (sz := 2) Sum.enc p1 x2 rfl kr kr kr kr kr kr e_y5 ?_
        refine Runs.alln ?_
        refine Wp.fg ⟨[(0, .t (.sl 2 (p0.map Sum.enc))), (1, .t (.sl 2 (p1.map Sum.enc))), (4, .t (.bool false)), (5, .t (.int .i64 x2)), (25, .t (.bool (!([y4.fW, y4.fS] == [y5.fW, y5.fS]))))], [], []⟩ ?_
        refine Wp.cond2 (b := !([y4.fW, y4.fS] == [y5.fW, y5.fS])) kr (fun hc => ?_) (fun hc => ?_)
        · have h := cond_t h hc
          refine Wp.srg [] [] ?_
          refine Runs.alln ?_
          refine Wp.fg ⟨[(0, .t (.sl 2 (p0.map Sum.enc))), (1, .t (.sl 2 (p1.map Sum.enc))), (4, .t (.bool false)), (5, .t (.int .i64 x2))], [], []⟩ ?_
          refine Wp.ret ?_
          refine blkR ?_
          refine thenR ?_
          refine thenR ?_
          refine blkR ?_
          refine thenR ?_
          obtain rfl := Option.some.inj h
          exact RetK [.t (.bool false)] _ [] kr kr (.refl _) .nil
        have h := cond_f h hc
        refine Wp.skip ?_
        refine blkN ?_
        refine thenN ?_
        refine Wp.rg [] [] ?_
        refine Runs.alln ?_
        exact ⟨(p0, p1, bAdd .i64 x2 1), h, Le.of (mo := []) (mr := []) kr kr kr kr⟩
      have h := cond_f h hc
      refine Wp.exit ?_
      refine thenE ?_
      refine thenE ?_
      refine blkE ?_
      refine thenN ?_
      exact ⟨(), h, Le.of (mo := []) (mr := []) kr kr kr kr⟩
theorem spec_SameMan_ok (u : Nat) (p0 : Manifest) (p1 : Manifest) (r : Bool) (h : spec_SameMan u p0 p1 = some r) : CallOK Tryz.prog 95 [.agg [.t (.int .i64 p0.fGen), .t (.int .i64 p0.fSize), .t (.int .i64 p0.fLen), .t (.sl 2 (p0.fSums.map Sum.enc))], .agg [.t (.int .i64 p1.fGen), .t (.int .i64 p1.fSize), .t (.int .i64 p1.fLen), .t (.sl 2 (p1.fSums.map Sum.enc))]] (.one (.t (.bool r))) [] := by
  unfold spec_SameMan at h
  refine CallOK.of_bodyK (fn := Tryz.f95) (m := false) [.agg ((Manifest.enc p0).map .t), .agg ((Manifest.enc p1).map .t)] kr rfl kr kr kr kr kr ?_
  refine Wp.srg [] [] ?_
  refine Runs.alln ?_
  refine Wp.fg ⟨[(2, .obj 2 0), (3, .obj 3 0), (4, .t (.bool false))], [(2, ((Manifest.enc p0).map .t)), (3, ((Manifest.enc p1).map .t))], []⟩ ?_
  refine Wp.srg [] [] ?_
  refine Runs.batch 6 kr ?_
  rcases tf (p0.fGen == p1.fGen) with hc | hc
  · have h := cond_t h hc
    refine Runs.known 10 (v := true) kr hc ?_
    refine Runs.batch 7 kr ?_
    rcases tf (p0.fSize == p1.fSize) with hc | hc
    · have h := cond_t h hc
      refine Runs.known 17 (v := true) kr hc ?_
      refine Runs.batch 7 kr ?_
      rcases tf (p0.fLen == p1.fLen) with hc | hc
      · have h := cond_t h hc
        refine Runs.known 24 (v := true) kr hc ?_
        refine Runs.batch 4 kr ?_
        obtain ⟨r1, e_r1, h⟩ := bind_some h
        refine Runs.callK false 29 158 [] [.t (.sl 2 (p0.fSums.map Sum.enc)), .t (.sl 2 (p1.fSums.map Sum.enc))] _ _ _ rfl rfl kr kr kr kr kr (spec_l6SameSums_ok u p0.fSums p1.fSums r1 e_r1) kr ?_
        refine Runs.alln ?_
        refine Wp.fg ⟨[(4, .t (.bool r1))], [], []⟩ ?_
        refine Wp.ret ?_
        obtain rfl := Option.some.inj h
        exact RetK [.t (.bool r1)] _ [] kr kr (.refl _) .nil
      have h := cond_f h hc
      refine Runs.known 24 (v := false) kr hc ?_
      refine Runs.alln ?_
      refine Wp.fg ⟨[(4, .t (.bool false))], [], []⟩ ?_
      refine Wp.ret ?_
      obtain rfl := Option.some.inj h
      exact RetK [.t (.bool false)] _ [] kr kr (.refl _) .nil
    have h := cond_f h hc
    refine Runs.known 17 (v := false) kr hc ?_
    refine Runs.alln ?_
    refine Wp.fg ⟨[(4, .t (.bool false))], [], []⟩ ?_
    refine Wp.ret ?_
    obtain rfl := Option.some.inj h
    exact RetK [.t (.bool false)] _ [] kr kr (.refl _) .nil
  have h := cond_f h hc
  refine Runs.known 10 (v := false) kr hc ?_
  refine Runs.alln ?_
  refine Wp.fg ⟨[(4, .t (.bool false))], [], []⟩ ?_
  refine Wp.ret ?_
  obtain rfl := Option.some.inj h
  exact RetK [.t (.bool false)] _ [] kr kr (.refl _) .nil
theorem spec_SetOk_ok (u : Nat) (p0 : Int) (r : Bool) (h : spec_SetOk u p0 = some r) : CallOK Tryz.prog 135 [.one (.t (.int .i64 p0))] (.one (.t (.bool r))) [] := by
  unfold spec_SetOk at h
  refine CallOK.of_bodyK (fn := Tryz.f135) (m := false) [.t (.int .i64 p0)] kr rfl kr kr kr kr kr ?_
  refine Wp.srg [] [] ?_
  refine Runs.alln ?_
  refine Wp.fg ⟨[(0, .t (.int .i64 p0)), (2, .t (.bool false))], [], []⟩ ?_
  refine Wp.srg [] [] ?_
  refine Runs.batch 1 kr ?_
  obtain ⟨r1, e_r1, h⟩ := bind_some h
  refine Runs.callK false 4 56 [] [.t (.int .i64 p0), .t (.int .i64 0), .t (.int .i64 1099511627775)] _ _ _ rfl rfl kr kr kr kr kr (spec_l1In_ok u p0 0 1099511627775 r1 e_r1) kr ?_
  refine Runs.alln ?_
  refine Wp.fg ⟨[(2, .t (.bool r1))], [], []⟩ ?_
  refine Wp.ret ?_
  obtain rfl := Option.some.inj h
  exact RetK [.t (.bool r1)] _ [] kr kr (.refl _) .nil
theorem spec_MsgOk_ok (u : Nat) (p0 : Msg) (r : Bool) (h : spec_MsgOk u p0 = some r) : CallOK Tryz.prog 81 [.agg [.t (.int .i64 p0.fKind), .t (.int .i64 p0.fGen), .t (.int .i64 p0.fMan.fGen), .t (.int .i64 p0.fMan.fSize), .t (.int .i64 p0.fMan.fLen), .t (.sl 2 (p0.fMan.fSums.map Sum.enc)), .t (.int .i64 p0.fWant), .t (.int .i64 p0.fDone), .t (.int .i64 p0.fI), .t (.sl 1 (p0.fB.map (eInt .u8)))]] (.one (.t (.bool r))) [] := by
  unfold spec_MsgOk at h
  refine CallOK.of_bodyK (fn := Tryz.f81) (m := false) [.agg ((Msg.enc p0).map .t)] kr rfl kr kr kr kr kr ?_
  refine Wp.srg [] [] ?_
  refine Runs.alln ?_
  refine Wp.fg ⟨[(1, .obj 1 0), (2, .t (.bool false))], [(1, ((Msg.enc p0).map .t))], []⟩ ?_
  refine Wp.srg [] [] ?_
  refine Runs.batch 3 kr ?_
  obtain ⟨r1, e_r1, h⟩ := bind_some h
  refine Runs.callK false 8 95 [] [.agg ((Manifest.enc p0.fMan).map .t), .agg [.t (.int .i64 0), .t (.int .i64 0), .t (.int .i64 0), .nil]] [.agg ((Manifest.enc p0.fMan).map .t), .agg [.t (.int .i64 0), .t (.int .i64 0), .t (.int .i64 0), .t (.sl 0 [])]] (.one (.t (.bool r1))) [] rfl rfl kr kr kr kr kr ((spec_SameMan_ok u p0.fMan ((Manifest.mk 0 0 0 ([]))) r1 e_r1).le (.cons (.refl _) (.cons (.agg (.cons (.refl _) (.cons (.refl _) (.cons (.refl _) (.cons (.sz _ _) .nil))))) .nil))) kr ?_
  refine Runs.alln ?_
  refine Wp.fg ⟨[(1, .obj 1 0), (2, .t (.bool false)), (3, .t (.bool r1))], [(1, ((Msg.enc p0).map .t))], []⟩ ?_
  refine Wp.seqJ (α := Bool × Bool × Msg) (fun a => ⟨[(1, .obj 1 0), (2, .t (.bool false)), (3, .t (.bool a.1)), (4, .t (.bool a.2.1))], [(1, ((Msg.enc a.2.2).map .t))], []⟩) (fun a => spec_MsgOk_j1 u a.1 a.2.1 a.2.2 = some r) ?_ ?_
  · rintro ⟨r1, x2, p0⟩ h
    change spec_MsgOk_j1 u r1 x2 p0 = some r at h
    unfold spec_MsgOk_j1 at h
    refine Wp.seq ?_
    refine Wp.srg [] [] ?_
    refine Runs.alln ?_
    refine Wp.fg ⟨[(1, .obj 1 0), (2, .t (.bool false)), (3, .t (.bool r1)), (4, .t (.bool x2)), (29, .t (.int .i64 p0.fKind))], [(1, ((Msg.enc p0).map .t))], []⟩ ?_
    refine Wp.block ?_
    refine Wp.srg [] [] ?_
    refine Runs.alln ?_
    refine Wp.fg ⟨[(1, .obj 1 0), (2, .t (.bool false)), (3, .t (.bool r1)), (4, .t (.bool x2)), (29, .t (.int .i64 p0.fKind)), (30, .t (.bool (p0.fKind == 1)))], [(1, ((Msg.enc p0).map .t))], []⟩ ?_
    refine Wp.cond2 (b := p0.fKind == 1) kr (fun hc => ?_) (fun hc => ?_)
    · have h := cond_t h hc
      refine Wp.srg [] [] ?_
      refine Runs.batch 4 kr ?_
      rcases tf (p0.fGen == 0) with hc | hc
      · have h := cond_t h hc
        refine Runs.known 35 (v := true) kr hc ?_
        refine Runs.batch 6 kr ?_
        rcases tf (p0.fMan.fGen != 0) with hc | hc
        · have h := cond_t h hc
          refine Runs.known 41 (v := true) kr hc ?_
          refine Runs.batch 2 kr ?_
          obtain ⟨r3, e_r3, h⟩ := bind_some h
          refine Runs.callK false 44 134 [] [.agg ((Manifest.enc p0.fMan).map .t)] _ _ _ rfl rfl kr kr kr kr kr (spec_ManOk_ok u p0.fMan r3 e_r3) kr ?_
          refine Runs.batch 2 kr ?_
          rcases tf (r3) with hc | hc
          · have h := cond_t h hc
            refine Runs.known 46 (v := true) kr hc ?_
            refine Runs.alln ?_
            refine Wp.fg ⟨[(1, .obj 1 0), (2, .t (.bool x2)), (3, .t (.bool r1)), (4, .t (.bool x2))], [(1, ((Msg.enc p0).map .t))], []⟩ ?_
            refine Wp.ret ?_
            refine blkR ?_
            refine thenR ?_
            obtain rfl := Option.some.inj h
            exact RetK [.t (.bool x2)] _ [] kr kr (.refl _) .nil
          have h := cond_f h hc
          refine Runs.known 46 (v := false) kr hc ?_
          refine Runs.alln ?_
          refine Wp.fg ⟨[(1, .obj 1 0), (2, .t (.bool false)), (3, .t (.bool r1)), (4, .t (.bool x2))], [(1, ((Msg.enc p0).map .t))], []⟩ ?_
          refine Wp.ret ?_
          refine blkR ?_
          refine thenR ?_
          obtain rfl := Option.some.inj h
          exact RetK [.t (.bool false)] _ [] kr kr (.refl _) .nil
        have h := cond_f h hc
        refine Runs.known 41 (v := false) kr hc ?_
        refine Runs.alln ?_
        refine Wp.fg ⟨[(1, .obj 1 0), (2, .t (.bool false)), (3, .t (.bool r1)), (4, .t (.bool x2))], [(1, ((Msg.enc p0).map .t))], []⟩ ?_
        refine Wp.ret ?_
        refine blkR ?_
        refine thenR ?_
        obtain rfl := Option.some.inj h
        exact RetK [.t (.bool false)] _ [] kr kr (.refl _) .nil
      have h := cond_f h hc
      refine Runs.known 35 (v := false) kr hc ?_
      refine Runs.alln ?_
      refine Wp.fg ⟨[(1, .obj 1 0), (2, .t (.bool false)), (3, .t (.bool r1)), (4, .t (.bool x2))], [(1, ((Msg.enc p0).map .t))], []⟩ ?_
      refine Wp.ret ?_
      refine blkR ?_
      refine thenR ?_
      obtain rfl := Option.some.inj h
      exact RetK [.t (.bool false)] _ [] kr kr (.refl _) .nil
    have h := cond_f h hc
    refine Wp.srg [] [] ?_
    refine Runs.alln ?_
    refine Wp.fg ⟨[(1, .obj 1 0), (2, .t (.bool false)), (3, .t (.bool r1)), (4, .t (.bool x2)), (29, .t (.int .i64 p0.fKind)), (49, .t (.bool (p0.fKind == 2)))], [(1, ((Msg.enc p0).map .t))], []⟩ ?_
    refine Wp.cond2 (b := p0.fKind == 2) kr (fun hc => ?_) (fun hc => ?_)
    · have h := cond_t h hc
      refine Wp.srg [] [] ?_
      refine Runs.batch 2 kr ?_
      obtain ⟨r4, e_r4, h⟩ := bind_some h
      refine Runs.callK false 53 56 [] [.t (.int .i64 p0.fGen), .t (.int .i64 0), .t (.int .i64 1000000)] _ _ _ rfl rfl kr kr kr kr kr (spec_l1In_ok u p0.fGen 0 1000000 r4 e_r4) kr ?_
      refine Runs.batch 1 kr ?_
      rcases tf (r4) with hc | hc
      · have h := cond_t h hc
        refine Runs.known 54 (v := true) kr hc ?_
        refine Runs.batch 3 kr ?_
        rcases tf (r1) with hc | hc
        · have h := cond_t h hc
          refine Runs.known 57 (v := true) kr hc ?_
          refine Runs.batch 2 kr ?_
          obtain ⟨r5, e_r5, h⟩ := bind_some h
          refine Runs.callK false 60 135 [] [.t (.int .i64 p0.fWant)] _ _ _ rfl rfl kr kr kr kr kr (spec_SetOk_ok u p0.fWant r5 e_r5) kr ?_
          refine Runs.batch 2 kr ?_
          rcases tf (r5) with hc | hc
          · have h := cond_t h hc
            refine Runs.known 62 (v := true) kr hc ?_
            refine Runs.batch 2 kr ?_
            obtain ⟨r6, e_r6, h⟩ := bind_some h
            refine Runs.callK false 65 135 [] [.t (.int .i64 p0.fDone)] _ _ _ rfl rfl kr kr kr kr kr (spec_SetOk_ok u p0.fDone r6 e_r6) kr ?_
            refine Runs.batch 2 kr ?_
            rcases tf (r6) with hc | hc
            · have h := cond_t h hc
              refine Runs.known 67 (v := true) kr hc ?_
              refine Runs.batch 5 kr ?_
              rcases tf (p0.fI == 0) with hc | hc
              · have h := cond_t h hc
                refine Runs.known 72 (v := true) kr hc ?_
                refine Runs.batch 2 kr ?_
                refine Runs.lenT (y := .t (.sl 1 (p0.fB.map (eInt .u8)))) (e := 5) (eInt .u8) p0.fB 1 rfl rfl rfl kr kr kr kr kr ?_
                refine Runs.alln ?_
                refine Wp.fg ⟨[(1, .obj 1 0), (2, .t (.bool (((p0.fB.length : Int)) == 0))), (3, .t (.bool r1)), (4, .t (.bool x2))], [(1, ((Msg.enc p0).map .t))], []⟩ ?_
                refine Wp.ret ?_
                refine blkR ?_
                refine thenR ?_
                obtain rfl := Option.some.inj h
                exact RetK [.t (.bool (((p0.fB.length : Int)) == 0))] _ [] kr kr (.refl _) .nil
              have h := cond_f h hc
              refine Runs.known 72 (v := false) kr hc ?_
              refine Runs.alln ?_
              refine Wp.fg ⟨[(1, .obj 1 0), (2, .t (.bool false)), (3, .t (.bool r1)), (4, .t (.bool x2))], [(1, ((Msg.enc p0).map .t))], []⟩ ?_
              refine Wp.ret ?_
              refine blkR ?_
              refine thenR ?_
              obtain rfl := Option.some.inj h
              exact RetK [.t (.bool false)] _ [] kr kr (.refl _) .nil
            have h := cond_f h hc
            refine Runs.known 67 (v := false) kr hc ?_
            refine Runs.alln ?_
            refine Wp.fg ⟨[(1, .obj 1 0), (2, .t (.bool false)), (3, .t (.bool r1)), (4, .t (.bool x2))], [(1, ((Msg.enc p0).map .t))], []⟩ ?_
            refine Wp.ret ?_
            refine blkR ?_
            refine thenR ?_
            obtain rfl := Option.some.inj h
            exact RetK [.t (.bool false)] _ [] kr kr (.refl _) .nil
          have h := cond_f h hc
          refine Runs.known 62 (v := false) kr hc ?_
          refine Runs.alln ?_
          refine Wp.fg ⟨[(1, .obj 1 0), (2, .t (.bool false)), (3, .t (.bool r1)), (4, .t (.bool x2))], [(1, ((Msg.enc p0).map .t))], []⟩ ?_
          refine Wp.ret ?_
          refine blkR ?_
          refine thenR ?_
          obtain rfl := Option.some.inj h
          exact RetK [.t (.bool false)] _ [] kr kr (.refl _) .nil
        have h := cond_f h hc
        refine Runs.known 57 (v := false) kr hc ?_
        refine Runs.alln ?_
        refine Wp.fg ⟨[(1, .obj 1 0), (2, .t (.bool false)), (3, .t (.bool r1)), (4, .t (.bool x2))], [(1, ((Msg.enc p0).map .t))], []⟩ ?_
        refine Wp.ret ?_
        refine blkR ?_
        refine thenR ?_
        obtain rfl := Option.some.inj h
        exact RetK [.t (.bool false)] _ [] kr kr (.refl _) .nil
      have h := cond_f h hc
      refine Runs.known 54 (v := false) kr hc ?_
      refine Runs.alln ?_
      refine Wp.fg ⟨[(1, .obj 1 0), (2, .t (.bool false)), (3, .t (.bool r1)), (4, .t (.bool x2))], [(1, ((Msg.enc p0).map .t))], []⟩ ?_
      refine Wp.ret ?_
      refine blkR ?_
      refine thenR ?_
      obtain rfl := Option.some.inj h
      exact RetK [.t (.bool false)] _ [] kr kr (.refl _) .nil
    have h := cond_f h hc
    refine Wp.srg [] [] ?_
    refine Runs.alln ?_
    refine Wp.fg ⟨[(1, .obj 1 0), (2, .t (.bool false)), (3, .t (.bool r1)), (4, .t (.bool x2)), (78, .t (.bool (p0.fKind == 3)))], [(1, ((Msg.enc p0).map .t))], []⟩ ?_
    refine Wp.cond2 (b := p0.fKind == 3) kr (fun hc => ?_) (fun hc => ?_)
    · have h := cond_t h hc
      refine Wp.srg [] [] ?_
      refine Runs.batch 2 kr ?_
      obtain ⟨r7, e_r7, h⟩ := bind_some h
      refine Runs.callK false 82 56 [] [.t (.int .i64 p0.fGen), .t (.int .i64 1), .t (.int .i64 1000000)] _ _ _ rfl rfl kr kr kr kr kr (spec_l1In_ok u p0.fGen 1 1000000 r7 e_r7) kr ?_
      refine Runs.batch 1 kr ?_
      rcases tf (r7) with hc | hc
      · have h := cond_t h hc
        refine Runs.known 83 (v := true) kr hc ?_
        refine Runs.batch 3 kr ?_
        rcases tf (r1) with hc | hc
        · have h := cond_t h hc
          refine Runs.known 86 (v := true) kr hc ?_
          refine Runs.batch 5 kr ?_
          rcases tf (p0.fWant == 0) with hc | hc
          · have h := cond_t h hc
            refine Runs.known 91 (v := true) kr hc ?_
            refine Runs.batch 5 kr ?_
            rcases tf (p0.fDone == 0) with hc | hc
            · have h := cond_t h hc
              refine Runs.known 96 (v := true) kr hc ?_
              refine Runs.batch 2 kr ?_
              obtain ⟨r8, e_r8, h⟩ := bind_some h
              refine Runs.callK false 99 56 [] [.t (.int .i64 p0.fI), .t (.int .i64 0), .t (.int .i64 39)] _ _ _ rfl rfl kr kr kr kr kr (spec_l1In_ok u p0.fI 0 39 r8 e_r8) kr ?_
              refine Runs.batch 2 kr ?_
              rcases tf (r8) with hc | hc
              · have h := cond_t h hc
                refine Runs.known 101 (v := true) kr hc ?_
                refine Runs.batch 2 kr ?_
                refine Runs.lenT (y := .t (.sl 1 (p0.fB.map (eInt .u8)))) (e := 5) (eInt .u8) p0.fB 1 rfl rfl rfl kr kr kr kr kr ?_
                obtain ⟨r9, e_r9, h⟩ := bind_some h
                refine Runs.callK false 105 56 [] [.t (.int .i64 ((p0.fB.length : Int))), .t (.int .i64 1), .t (.int .i64 6)] _ _ _ rfl rfl kr kr kr kr kr (spec_l1In_ok u ((p0.fB.length : Int)) 1 6 r9 e_r9) kr ?_
                refine Runs.alln ?_
                refine Wp.fg ⟨[(1, .obj 1 0), (2, .t (.bool r9)), (3, .t (.bool r1)), (4, .t (.bool x2))], [(1, ((Msg.enc p0).map .t))], []⟩ ?_
                refine Wp.ret ?_
                refine blkR ?_
                refine thenR ?_
                obtain rfl := Option.some.inj h
                exact RetK [.t (.bool r9)] _ [] kr kr (.refl _) .nil
              have h := cond_f h hc
              refine Runs.known 101 (v := false) kr hc ?_
              refine Runs.alln ?_
              refine Wp.fg ⟨[(1, .obj 1 0), (2, .t (.bool false)), (3, .t (.bool r1)), (4, .t (.bool x2))], [(1, ((Msg.enc p0).map .t))], []⟩ ?_
              refine Wp.ret ?_
              refine blkR ?_
              refine thenR ?_
              obtain rfl := Option.some.inj h
              exact RetK [.t (.bool false)] _ [] kr kr (.refl _) .nil
            have h := cond_f h hc
            refine Runs.known 96 (v := false) kr hc ?_
            refine Runs.alln ?_
            refine Wp.fg ⟨[(1, .obj 1 0), (2, .t (.bool false)), (3, .t (.bool r1)), (4, .t (.bool x2))], [(1, ((Msg.enc p0).map .t))], []⟩ ?_
            refine Wp.ret ?_
            refine blkR ?_
            refine thenR ?_
            obtain rfl := Option.some.inj h
            exact RetK [.t (.bool false)] _ [] kr kr (.refl _) .nil
          have h := cond_f h hc
          refine Runs.known 91 (v := false) kr hc ?_
          refine Runs.alln ?_
          refine Wp.fg ⟨[(1, .obj 1 0), (2, .t (.bool false)), (3, .t (.bool r1)), (4, .t (.bool x2))], [(1, ((Msg.enc p0).map .t))], []⟩ ?_
          refine Wp.ret ?_
          refine blkR ?_
          refine thenR ?_
          obtain rfl := Option.some.inj h
          exact RetK [.t (.bool false)] _ [] kr kr (.refl _) .nil
        have h := cond_f h hc
        refine Runs.known 86 (v := false) kr hc ?_
        refine Runs.alln ?_
        refine Wp.fg ⟨[(1, .obj 1 0), (2, .t (.bool false)), (3, .t (.bool r1)), (4, .t (.bool x2))], [(1, ((Msg.enc p0).map .t))], []⟩ ?_
        refine Wp.ret ?_
        refine blkR ?_
        refine thenR ?_
        obtain rfl := Option.some.inj h
        exact RetK [.t (.bool false)] _ [] kr kr (.refl _) .nil
      have h := cond_f h hc
      refine Runs.known 83 (v := false) kr hc ?_
      refine Runs.alln ?_
      refine Wp.fg ⟨[(1, .obj 1 0), (2, .t (.bool false)), (3, .t (.bool r1)), (4, .t (.bool x2))], [(1, ((Msg.enc p0).map .t))], []⟩ ?_
      refine Wp.ret ?_
      refine blkR ?_
      refine thenR ?_
      obtain rfl := Option.some.inj h
      exact RetK [.t (.bool false)] _ [] kr kr (.refl _) .nil
    have h := cond_f h hc
    refine Wp.skip ?_
    refine blkN ?_
    refine thenN ?_
    refine Wp.srg [] [] ?_
    refine Runs.batch 4 kr ?_
    rcases tf (p0.fKind == 4) with hc | hc
    · have h := cond_t h hc
      refine Runs.known 110 (v := true) kr hc ?_
      refine Runs.batch 2 kr ?_
      obtain ⟨r10, e_r10, h⟩ := bind_some h
      refine Runs.callK false 113 56 [] [.t (.int .i64 p0.fGen), .t (.int .i64 0), .t (.int .i64 1000000)] _ _ _ rfl rfl kr kr kr kr kr (spec_l1In_ok u p0.fGen 0 1000000 r10 e_r10) kr ?_
      refine Runs.batch 2 kr ?_
      rcases tf (r10) with hc | hc
      · have h := cond_t h hc
        refine Runs.known 115 (v := true) kr hc ?_
        refine Runs.batch 3 kr ?_
        rcases tf (r1) with hc | hc
        · have h := cond_t h hc
          refine Runs.known 118 (v := true) kr hc ?_
          refine Runs.alln ?_
          refine Wp.fg ⟨[(2, .t (.bool x2))], [], []⟩ ?_
          refine Wp.ret ?_
          obtain rfl := Option.some.inj h
          exact RetK [.t (.bool x2)] _ [] kr kr (.refl _) .nil
        have h := cond_f h hc
        refine Runs.known 118 (v := false) kr hc ?_
        refine Runs.alln ?_
        refine Wp.fg ⟨[(2, .t (.bool false))], [], []⟩ ?_
        refine Wp.ret ?_
        obtain rfl := Option.some.inj h
        exact RetK [.t (.bool false)] _ [] kr kr (.refl _) .nil
      have h := cond_f h hc
      refine Runs.known 115 (v := false) kr hc ?_
      refine Runs.alln ?_
      refine Wp.fg ⟨[(2, .t (.bool false))], [], []⟩ ?_
      refine Wp.ret ?_
      obtain rfl := Option.some.inj h
      exact RetK [.t (.bool false)] _ [] kr kr (.refl _) .nil
    have h := cond_f h hc
    refine Runs.known 110 (v := false) kr hc ?_
    refine Runs.alln ?_
    refine Wp.fg ⟨[(2, .t (.bool false))], [], []⟩ ?_
    refine Wp.ret ?_
    obtain rfl := Option.some.inj h
    exact RetK [.t (.bool false)] _ [] kr kr (.refl _) .nil
  · refine Wp.rg [] [] ?_
    refine Runs.batch 4 kr ?_
    rcases tf (p0.fWant == 0) with hc | hc
    · have h := cond_t h hc
      refine Runs.known 12 (v := true) kr hc ?_
      refine Runs.batch 5 kr ?_
      rcases tf (p0.fDone == 0) with hc | hc
      · have h := cond_t h hc
        refine Runs.known 17 (v := true) kr hc ?_
        refine Runs.batch 5 kr ?_
        rcases tf (p0.fI == 0) with hc | hc
        · have h := cond_t h hc
          refine Runs.known 22 (v := true) kr hc ?_
          refine Runs.batch 2 kr ?_
          refine Runs.lenT (y := .t (.sl 1 (p0.fB.map (eInt .u8)))) (e := 5) (eInt .u8) p0.fB 1 rfl rfl rfl kr kr kr kr kr ?_
          refine Runs.alln ?_
          exact ⟨(r1, ((p0.fB.length : Int)) == 0, p0), h, Le.of (mo := []) (mr := []) kr kr kr kr⟩
        have h := cond_f h hc
        refine Runs.known 22 (v := false) kr hc ?_
        refine Runs.alln ?_
        exact ⟨(r1, false, p0), h, Le.of (mo := []) (mr := []) kr kr kr kr⟩
      have h := cond_f h hc
      refine Runs.known 17 (v := false) kr hc ?_
      refine Runs.alln ?_
      exact ⟨(r1, false, p0), h, Le.of (mo := []) (mr := []) kr kr kr kr⟩
    have h := cond_f h hc
    refine Runs.known 12 (v := false) kr hc ?_
    refine Runs.alln ?_
    exact ⟨(r1, false, p0), h, Le.of (mo := []) (mr := []) kr kr kr kr⟩
theorem spec_GetMsg_ok (u : Nat) (p0 : List Int) (r : Msg × Bool) (h : spec_GetMsg u p0 = some r) : CallOK Tryz.prog 47 [.one (.t (.sl 1 (p0.map (eInt .u8))))] (.tup [.agg [.t (.int .i64 r.1.fKind), .t (.int .i64 r.1.fGen), .t (.int .i64 r.1.fMan.fGen), .t (.int .i64 r.1.fMan.fSize), .t (.int .i64 r.1.fMan.fLen), .ow 220 2 (r.1.fMan.fSums.map Sum.enc), .t (.int .i64 r.1.fWant), .t (.int .i64 r.1.fDone), .t (.int .i64 r.1.fI), .ow 5 1 (r.1.fB.map (eInt .u8))], .one (.t (.bool r.2))]) [] := by
  unfold spec_GetMsg at h
  refine CallOK.of_bodyK (fn := Tryz.f47) (m := true) [.t (.sl 1 (p0.map (eInt .u8)))] kr rfl kr kr kr kr kr ?_
  refine Wp.srg [] [] ?_
  refine Runs.alln ?_
  refine Wp.fg ⟨[(0, .t (.sl 1 (p0.map (eInt .u8)))), (2, .obj 2 0), (3, .t (.bool false))], [(2, [.t (.int .i64 0), .t (.int .i64 0), .t (.int .i64 0), .t (.int .i64 0), .t (.int .i64 0), .nil, .t (.int .i64 0), .t (.int .i64 0), .t (.int .i64 0), .nil])], []⟩ ?_
  refine Wp.srg [] [] ?_
  refine Runs.batch 1 kr ?_
  obtain ⟨r1, e_r1, h⟩ := bind_some h
  refine Runs.callK false 15 79 [] [.t (.sl 1 (p0.map (eInt .u8))), .t (.int .i64 0)] _ _ _ rfl rfl kr kr kr kr kr (spec_GetVar_ok u p0 0 r1 e_r1) kr ?_
  refine Runs.alln ?_
  refine Wp.fg ⟨[(0, .t (.sl 1 (p0.map (eInt .u8)))), (2, .obj 2 0), (3, .t (.bool false)), (4, .t (.int .i64 r1.1)), (5, .t (.int .i64 r1.2.1)), (6, .t (.bool r1.2.2))], [(2, [.t (.int .i64 0), .t (.int .i64 0), .t (.int .i64 0), .t (.int .i64 0), .t (.int .i64 0), .nil, .t (.int .i64 0), .t (.int .i64 0), .t (.int .i64 0), .nil])], []⟩ ?_
  refine Wp.seq ?_
  refine Wp.seqJ (α := (List Int) × (Int × Int × Bool) × Bool) (fun a => ⟨[(0, .t (.sl 1 (a.1.map (eInt .u8)))), (2, .obj 2 0), (3, .t (.bool false)), (4, .t (.int .i64 a.2.1.1)), (5, .t (.int .i64 a.2.1.2.1)), (25, .t (.bool a.2.2))], [(2, [.t (.int .i64 0), .t (.int .i64 0), .t (.int .i64 0), .t (.int .i64 0), .t (.int .i64 0), .nil, .t (.int .i64 0), .t (.int .i64 0), .t (.int .i64 0), .nil])], []⟩) (fun a => spec_GetMsg_j1 u a.1 a.2.1 a.2.2 = some r) ?_ ?_
  · rintro ⟨p0, r1, x2⟩ h
    change spec_GetMsg_j1 u p0 r1 x2 = some r at h
    unfold spec_GetMsg_j1 at h
    refine Wp.cond2 (b := x2) kr (fun hc => ?_) (fun hc => ?_)
    · have h := cond_t h hc
      refine Wp.srg [] [] ?_
      refine Runs.alln ?_
      refine Wp.fg ⟨[(0, .t (.sl 1 (p0.map (eInt .u8)))), (2, .obj 2 0), (3, .t (.bool false)), (4, .t (.int .i64 r1.1)), (5, .t (.int .i64 r1.2.1))], [(2, [.t (.int .i64 0), .t (.int .i64 0), .t (.int .i64 0), .t (.int .i64 0), .t (.int .i64 0), .nil, .t (.int .i64 0), .t (.int .i64 0), .t (.int .i64 0), .nil])], []⟩ ?_
      refine Wp.ret ?_
      refine thenR ?_
      obtain rfl := Option.some.inj h
      exact RetK [.agg [.t (.int .i64 0), .t (.int .i64 0), .t (.int .i64 0), .t (.int .i64 0), .t (.int .i64 0), .nil, .t (.int .i64 0), .t (.int .i64 0), .t (.int .i64 0), .nil], .t (.bool false)] (.tup [.agg [.t (.int .i64 0), .t (.int .i64 0), .t (.int .i64 0), .t (.int .i64 0), .t (.int .i64 0), .nil, .t (.int .i64 0), .t (.int .i64 0), .t (.int .i64 0), .nil], .one (.t (.bool false))]) [] kr kr (.tup (.cons (.agg (.cons (.refl _) (.cons (.refl _) (.cons (.refl _) (.cons (.refl _) (.cons (.refl _) (.cons (.nilO _ _) (.cons (.refl _) (.cons (.refl _) (.cons (.refl _) (.cons (.nilO _ _) .nil))))))))))) (.cons (.refl _) .nil))) .nil
    have h := cond_f h hc
    refine Wp.skip (thenN ?_)
    refine Wp.srg [] [] ?_
    refine Runs.batch 3 kr ?_
    obtain ⟨r3, e_r3, h⟩ := bind_some h
    refine Runs.callK false 31 80 [] [.t (.sl 1 (p0.map (eInt .u8))), .t (.int .i64 r1.2.1), .t (.int .i64 r1.1)] _ _ _ rfl rfl kr kr kr kr kr (spec_l12Body_ok u p0 r1.2.1 r1.1 r3 e_r3) kr ?_
    refine Runs.alln ?_
    refine Wp.fg ⟨[(0, .t (.sl 1 (p0.map (eInt .u8)))), (2, .obj 2 0), (3, .t (.bool false)), (7, .obj 7 0), (8, .t (.int .i64 r3.2.1)), (9, .t (.bool r3.2.2))], [(2, [.t (.int .i64 0), .t (.int .i64 0), .t (.int .i64 0), .t (.int .i64 0), .t (.int .i64 0), .nil, .t (.int .i64 0), .t (.int .i64 0), .t (.int .i64 0), .nil]), (7, [.t (.int .i64 r3.1.fKind), .t (.int .i64 r3.1.fGen), .t (.int .i64 r3.1.fMan.fGen), .t (.int .i64 r3.1.fMan.fSize), .t (.int .i64 r3.1.fMan.fLen), .own 2031621, .t (.int .i64 r3.1.fWant), .t (.int .i64 r3.1.fDone), .t (.int .i64 r3.1.fI), .own 2031625])], [(2031621, .live 220 2 (r3.1.fMan.fSums.map Sum.enc)), (2031625, .live 5 1 (r3.1.fB.map (eInt .u8)))]⟩ ?_
    refine Wp.seq ?_
    refine Wp.seqJ (α := (List Int) × (Msg × Int × Bool) × Bool) (fun a => ⟨[(0, .t (.sl 1 (a.1.map (eInt .u8)))), (2, .obj 2 0), (3, .t (.bool false)), (7, .obj 7 0), (8, .t (.int .i64 a.2.1.2.1)), (41, .t (.bool a.2.2))], [(2, [.t (.int .i64 0), .t (.int .i64 0), .t (.int .i64 0), .t (.int .i64 0), .t (.int .i64 0), .nil, .t (.int .i64 0), .t (.int .i64 0), .t (.int .i64 0), .nil]), (7, [.t (.int .i64 a.2.1.1.fKind), .t (.int .i64 a.2.1.1.fGen), .t (.int .i64 a.2.1.1.fMan.fGen), .t (.int .i64 a.2.1.1.fMan.fSize), .t (.int .i64 a.2.1.1.fMan.fLen), .own 459269, .t (.int .i64 a.2.1.1.fWant), .t (.int .i64 a.2.1.1.fDone), .t (.int .i64 a.2.1.1.fI), .own 459273])], [(459269, .live 220 2 (a.2.1.1.fMan.fSums.map Sum.enc)), (459273, .live 5 1 (a.2.1.1.fB.map (eInt .u8)))]⟩) (fun a => spec_GetMsg_j2 u a.1 a.2.1 a.2.2 = some r) ?_ ?_
    · rintro ⟨p0, r3, x5⟩ h
      change spec_GetMsg_j2 u p0 r3 x5 = some r at h
      unfold spec_GetMsg_j2 at h
      refine Wp.cond2 (b := x5) kr (fun hc => ?_) (fun hc => ?_)
      · have h := cond_t h hc
        refine Wp.srg [] [] ?_
        refine Runs.alln ?_
        refine Wp.fg ⟨[(0, .t (.sl 1 (p0.map (eInt .u8)))), (2, .obj 2 0), (3, .t (.bool false)), (7, .obj 7 0), (8, .t (.int .i64 r3.2.1))], [(2, [.t (.int .i64 0), .t (.int .i64 0), .t (.int .i64 0), .t (.int .i64 0), .t (.int .i64 0), .nil, .t (.int .i64 0), .t (.int .i64 0), .t (.int .i64 0), .nil]), (7, [.t (.int .i64 r3.1.fKind), .t (.int .i64 r3.1.fGen), .t (.int .i64 r3.1.fMan.fGen), .t (.int .i64 r3.1.fMan.fSize), .t (.int .i64 r3.1.fMan.fLen), .own 459269, .t (.int .i64 r3.1.fWant), .t (.int .i64 r3.1.fDone), .t (.int .i64 r3.1.fI), .own 459273])], [(459269, .live 220 2 (r3.1.fMan.fSums.map Sum.enc)), (459273, .live 5 1 (r3.1.fB.map (eInt .u8)))]⟩ ?_
        refine Wp.ret ?_
        refine thenR ?_
        obtain rfl := Option.some.inj h
        exact RetK [.agg [.t (.int .i64 0), .t (.int .i64 0), .t (.int .i64 0), .t (.int .i64 0), .t (.int .i64 0), .nil, .t (.int .i64 0), .t (.int .i64 0), .t (.int .i64 0), .nil], .t (.bool false)] (.tup [.agg [.t (.int .i64 0), .t (.int .i64 0), .t (.int .i64 0), .t (.int .i64 0), .t (.int .i64 0), .nil, .t (.int .i64 0), .t (.int .i64 0), .t (.int .i64 0), .nil], .one (.t (.bool false))]) [] kr kr (.tup (.cons (.agg (.cons (.refl _) (.cons (.refl _) (.cons (.refl _) (.cons (.refl _) (.cons (.refl _) (.cons (.nilO _ _) (.cons (.refl _) (.cons (.refl _) (.cons (.refl _) (.cons (.nilO _ _) .nil))))))))))) (.cons (.refl _) .nil))) .nil
      have h := cond_f h hc
      refine Wp.skip (thenN ?_)
      refine Wp.srg [] [] ?_
      refine Runs.batch 2 kr ?_
      obtain ⟨r6, e_r6, h⟩ := bind_some h
      refine Runs.callK false 46 79 [] [.t (.sl 1 (p0.map (eInt .u8))), .t (.int .i64 r3.2.1)] _ _ _ rfl rfl kr kr kr kr kr (spec_GetVar_ok u p0 r3.2.1 r6 e_r6) kr ?_
      refine Runs.alln ?_
      refine Wp.fg ⟨[(0, .t (.sl 1 (p0.map (eInt .u8)))), (2, .obj 2 0), (3, .t (.bool false)), (7, .obj 7 0), (8, .t (.int .i64 r3.2.1)), (10, .t (.int .i64 r6.1)), (11, .t (.int .i64 r6.2.1)), (12, .t (.bool r6.2.2))], [(2, [.t (.int .i64 0), .t (.int .i64 0), .t (.int .i64 0), .t (.int .i64 0), .t (.int .i64 0), .nil, .t (.int .i64 0), .t (.int .i64 0), .t (.int .i64 0), .nil]), (7, [.t (.int .i64 r3.1.fKind), .t (.int .i64 r3.1.fGen), .t (.int .i64 r3.1.fMan.fGen), .t (.int .i64 r3.1.fMan.fSize), .t (.int .i64 r3.1.fMan.fLen), .own 459269, .t (.int .i64 r3.1.fWant), .t (.int .i64 r3.1.fDone), .t (.int .i64 r3.1.fI), .own 459273])], [(459269, .live 220 2 (r3.1.fMan.fSums.map Sum.enc)), (459273, .live 5 1 (r3.1.fB.map (eInt .u8)))]⟩ ?_
      refine Wp.seq ?_
      refine Wp.seqJ (α := Bool × (Msg × Int × Bool)) (fun a => ⟨[(2, .obj 2 0), (3, .t (.bool false)), (7, .obj 7 0), (65, .t (.bool a.1))], [(2, [.t (.int .i64 0), .t (.int .i64 0), .t (.int .i64 0), .t (.int .i64 0), .t (.int .i64 0), .nil, .t (.int .i64 0), .t (.int .i64 0), .t (.int .i64 0), .nil]), (7, [.t (.int .i64 a.2.1.fKind), .t (.int .i64 a.2.1.fGen), .t (.int .i64 a.2.1.fMan.fGen), .t (.int .i64 a.2.1.fMan.fSize), .t (.int .i64 a.2.1.fMan.fLen), .own 459269, .t (.int .i64 a.2.1.fWant), .t (.int .i64 a.2.1.fDone), .t (.int .i64 a.2.1.fI), .own 459273])], [(459269, .live 220 2 (a.2.1.fMan.fSums.map Sum.enc)), (459273, .live 5 1 (a.2.1.fB.map (eInt .u8)))]⟩) (fun a => spec_GetMsg_j3 u a.1 a.2 = some r) ?_ ?_
      · rintro ⟨x9, r3⟩ h
        change spec_GetMsg_j3 u x9 r3 = some r at h
        unfold spec_GetMsg_j3 at h
        refine Wp.cond2 (b := x9) kr (fun hc => ?_) (fun hc => ?_)
        · have h := cond_t h hc
          refine Wp.srg [] [] ?_
          refine Runs.alln ?_
          refine Wp.fg ⟨[(2, .obj 2 0), (3, .t (.bool false)), (7, .obj 7 0)], [(2, [.t (.int .i64 0), .t (.int .i64 0), .t (.int .i64 0), .t (.int .i64 0), .t (.int .i64 0), .nil, .t (.int .i64 0), .t (.int .i64 0), .t (.int .i64 0), .nil]), (7, [.t (.int .i64 r3.1.fKind), .t (.int .i64 r3.1.fGen), .t (.int .i64 r3.1.fMan.fGen), .t (.int .i64 r3.1.fMan.fSize), .t (.int .i64 r3.1.fMan.fLen), .own 459269, .t (.int .i64 r3.1.fWant), .t (.int .i64 r3.1.fDone), .t (.int .i64 r3.1.fI), .own 459273])], [(459269, .live 220 2 (r3.1.fMan.fSums.map Sum.enc)), (459273, .live 5 1 (r3.1.fB.map (eInt .u8)))]⟩ ?_
          refine Wp.ret ?_
          refine thenR ?_
          obtain rfl := Option.some.inj h
          exact RetK [.agg [.t (.int .i64 0), .t (.int .i64 0), .t (.int .i64 0), .t (.int .i64 0), .t (.int .i64 0), .nil, .t (.int .i64 0), .t (.int .i64 0), .t (.int .i64 0), .nil], .t (.bool false)] (.tup [.agg [.t (.int .i64 0), .t (.int .i64 0), .t (.int .i64 0), .t (.int .i64 0), .t (.int .i64 0), .nil, .t (.int .i64 0), .t (.int .i64 0), .t (.int .i64 0), .nil], .one (.t (.bool false))]) [] kr kr (.tup (.cons (.agg (.cons (.refl _) (.cons (.refl _) (.cons (.refl _) (.cons (.refl _) (.cons (.refl _) (.cons (.nilO _ _) (.cons (.refl _) (.cons (.refl _) (.cons (.refl _) (.cons (.nilO _ _) .nil))))))))))) (.cons (.refl _) .nil))) .nil
        have h := cond_f h hc
        refine Wp.skip (thenN ?_)
        refine Wp.srg [] [] ?_
        refine Runs.alln ?_
        refine Wp.fg ⟨[(2, .obj 2 0), (3, .t (.bool true))], [(2, [.t (.int .i64 r3.1.fKind), .t (.int .i64 r3.1.fGen), .t (.int .i64 r3.1.fMan.fGen), .t (.int .i64 r3.1.fMan.fSize), .t (.int .i64 r3.1.fMan.fLen), .own 459269, .t (.int .i64 r3.1.fWant), .t (.int .i64 r3.1.fDone), .t (.int .i64 r3.1.fI), .own 459273])], [(459269, .live 220 2 (r3.1.fMan.fSums.map Sum.enc)), (459273, .live 5 1 (r3.1.fB.map (eInt .u8)))]⟩ ?_
        refine Wp.ret ?_
        obtain rfl := Option.some.inj h
        exact RetK [.agg [.t (.int .i64 r3.1.fKind), .t (.int .i64 r3.1.fGen), .t (.int .i64 r3.1.fMan.fGen), .t (.int .i64 r3.1.fMan.fSize), .t (.int .i64 r3.1.fMan.fLen), .own 459269, .t (.int .i64 r3.1.fWant), .t (.int .i64 r3.1.fDone), .t (.int .i64 r3.1.fI), .own 459273], .t (.bool true)] _ [] kr kr (.refl _) .nil
      · refine Wp.rg [] [] ?_
        refine Runs.batch 3 kr ?_
        rcases tf (!r6.2.2) with hc | hc
        · have h := cond_t h hc
          refine Runs.known 52 (v := true) kr hc ?_
          refine Runs.alln ?_
          exact ⟨(true, r3), h, Le.of (mo := []) (mr := []) kr kr kr kr⟩
        have h := cond_f h hc
        refine Runs.known 52 (v := false) kr hc ?_
        refine Runs.batch 2 kr ?_
        refine Runs.lenT (y := .t (.sl 1 (p0.map (eInt .u8)))) (e := 5) (eInt .u8) p0 1 rfl rfl rfl kr kr kr kr kr ?_
        refine Runs.batch 3 kr ?_
        rcases tf (r6.2.1 != ((p0.length : Int))) with hc | hc
        · have h := cond_t h hc
          refine Runs.known 58 (v := true) kr hc ?_
          refine Runs.alln ?_
          exact ⟨(true, r3), h, Le.of (mo := []) (mr := []) kr kr kr kr⟩
        have h := cond_f h hc
        refine Runs.known 58 (v := false) kr hc ?_
        refine Runs.batch 3 kr ?_
        obtain ⟨_, e_7, h⟩ := bind_some h
        refine Runs.subsl (e := 5) (ax := .t (.sl 1 (p0.map (eInt .u8)))) (alo := none) (ahi := (some (.t (.int .i64 r3.2.1)))) (eInt .u8) p0 1 0 r3.2.1 rfl kr kr kr kr kr kr kr kr kr kr kr (chk_some e_7) ?_
        obtain ⟨r8, e_r8, h⟩ := bind_some h
        refine Runs.callK false 63 82 [] [.t (.sl 1 (((p0.take (Int.toNat r3.2.1)).drop (Int.toNat 0)).map (eInt .u8)))] _ _ _ rfl rfl kr kr kr kr kr (spec_WeakOf_ok u ((p0.take (Int.toNat r3.2.1)).drop (Int.toNat 0)) r8 e_r8) kr ?_
        refine Runs.alln ?_
        exact ⟨(r6.1 != r8, r3), h, Le.of (mo := []) (mr := []) kr kr kr kr⟩
    · refine Wp.rg [] [] ?_
      refine Runs.batch 3 kr ?_
      rcases tf (!r3.2.2) with hc | hc
      · have h := cond_t h hc
        refine Runs.known 37 (v := true) kr hc ?_
        refine Runs.alln ?_
        exact ⟨(p0, r3, true), h, Le.of (mo := []) (mr := [(459269, 2031621), (459273, 2031625)]) kr kr kr kr⟩
      have h := cond_f h hc
      refine Runs.known 37 (v := false) kr hc ?_
      refine Runs.batch 1 kr ?_
      obtain ⟨r4, e_r4, h⟩ := bind_some h
      refine Runs.callBK 39 81 [] [.agg [.t (.int .i64 r3.1.fKind), .t (.int .i64 r3.1.fGen), .t (.int .i64 r3.1.fMan.fGen), .t (.int .i64 r3.1.fMan.fSize), .t (.int .i64 r3.1.fMan.fLen), .own 2031621, .t (.int .i64 r3.1.fWant), .t (.int .i64 r3.1.fDone), .t (.int .i64 r3.1.fI), .own 2031625]] [.agg ((Msg.enc r3.1).map .t)] (.one (.t (.bool r4))) rfl rfl kr kr kr kr kr (spec_MsgOk_ok u r3.1 r4 e_r4) (by simp [V.plain, V.plains, C.plain, T.sc]) kr ?_
      refine Runs.alln ?_
      exact ⟨(p0, r3, !r4), h, Le.of (mo := []) (mr := [(459269, 2031621), (459273, 2031625)]) kr kr kr kr⟩
  · refine Wp.rg [] [] ?_
    refine Runs.batch 3 kr ?_
    rcases tf (!r1.2.2) with hc | hc
    · have h := cond_t h hc
      refine Runs.known 21 (v := true) kr hc ?_
      refine Runs.alln ?_
      exact ⟨(p0, r1, true), h, Le.of (mo := []) (mr := []) kr kr kr kr⟩
    have h := cond_f h hc
    refine Runs.known 21 (v := false) kr hc ?_
    refine Runs.batch 1 kr ?_
    refine Runs.lenT (y := .t (.sl 1 (p0.map (eInt .u8)))) (e := 5) (eInt .u8) p0 1 rfl rfl rfl kr kr kr kr kr ?_
    refine Runs.alln ?_
    exact ⟨(p0, r1, decide (((p0.length : Int)) > 400)), h, Le.of (mo := []) (mr := []) kr kr kr kr⟩
theorem spec_SameBytes_ok (u : Nat) (p0 : List Int) (p1 : List Int) (r : Bool) (h : spec_SameBytes u p0 p1 = some r) : CallOK Tryz.prog 48 [.one (.t (.sl 1 (p0.map (eInt .u8)))), .one (.t (.sl 1 (p1.map (eInt .u8))))] (.one (.t (.bool r))) [] := by
  unfold spec_SameBytes at h
  refine CallOK.of_bodyK (fn := Tryz.f48) (m := false) [.t (.sl 1 (p0.map (eInt .u8))), .t (.sl 1 (p1.map (eInt .u8)))] kr rfl kr kr kr kr kr ?_
  refine Wp.srg [] [] ?_
  refine Runs.alln ?_
  refine Wp.fg ⟨[(0, .t (.sl 1 (p0.map (eInt .u8)))), (1, .t (.sl 1 (p1.map (eInt .u8)))), (4, .t (.bool false))], [], []⟩ ?_
  refine Wp.srg [] [] ?_
  refine Runs.batch 1 kr ?_
  refine Runs.bytesStr (y := .t (.sl 1 (p0.map (eInt .u8)))) (e := 5) p0 1 rfl kr kr kr kr kr kr kr ?_
  refine Runs.batch 1 kr ?_
  refine Runs.bytesStr (y := .t (.sl 1 (p1.map (eInt .u8)))) (e := 5) p1 1 rfl kr kr kr kr kr kr kr ?_
  refine Runs.alln ?_
  refine Wp.fg ⟨[(4, .t (.bool ((strOfNums p0).toList == (strOfNums p1).toList)))], [], []⟩ ?_
  refine Wp.ret ?_
  obtain rfl := Option.some.inj h
  exact RetK [.t (.bool ((strOfNums p0).toList == (strOfNums p1).toList))] _ [] kr kr (.refl _) .nil
theorem spec_Harmless_ok (u : Nat) (p0 : World) (p1 : Event) (r : Bool) (h : spec_Harmless u p0 p1 = some r) : CallOK Tryz.prog 13 [.agg [.t (.int .i64 p0.fC.fSize), .t (.int .i64 p0.fC.fWindow), .t (.int .i64 p0.fC.fSuspect), .t (.int .i64 p0.fC.fForget), .t (.sl 1 (p0.fT.fUp.map (eInt .i64))), .t (.sl 1 (p0.fNew.map (eInt .u8))), .t (.sl 1 (p0.fOld.map Image.enc)), .t (.sl 12 (p0.fN.map Node.enc)), .t (.sl 6 (p0.fD.map Disk.enc)), .t (.sl 3 (p0.fNet.map Packet.enc)), .t (.sl 3 (p0.fLog.map Sent.enc)), .t (.int .i64 p0.fLost)], .agg [.t (.int .i64 p1.fKind), .t (.int .i64 p1.fN), .t (.int .i64 p1.fS), .t (.int .i64 p1.fP.fFrom), .t (.int .i64 p1.fP.fTo), .t (.sl 1 (p1.fP.fB.map (eInt .u8)))]] (.one (.t (.bool r))) [] := by
  unfold spec_Harmless at h
  refine CallOK.of_bodyK (fn := Tryz.f13) (m := false) [.agg ((World.enc p0).map .t), .agg ((Event.enc p1).map .t)] kr rfl kr kr kr kr kr ?_
  refine Wp.srg [] [] ?_
  refine Runs.alln ?_
  refine Wp.fg ⟨[(2, .obj 2 0), (3, .obj 3 0), (4, .t (.bool false))], [(2, ((World.enc p0).map .t)), (3, ((Event.enc p1).map .t))], []⟩ ?_
  refine Wp.seq ?_
  refine Wp.srg [] [] ?_
  refine Runs.alln ?_
  refine Wp.fg ⟨[(2, .obj 2 0), (3, .obj 3 0), (4, .t (.bool false)), (10, .t (.bool (p1.fKind != 7)))], [(2, ((World.enc p0).map .t)), (3, ((Event.enc p1).map .t))], []⟩ ?_
  refine Wp.cond2 (b := p1.fKind != 7) kr (fun hc => ?_) (fun hc => ?_)
  · have h := cond_t h hc
    refine Wp.srg [] [] ?_
    refine Runs.alln ?_
    refine Wp.fg ⟨[(2, .obj 2 0), (3, .obj 3 0), (4, .t (.bool true))], [(2, ((World.enc p0).map .t)), (3, ((Event.enc p1).map .t))], []⟩ ?_
    refine Wp.ret ?_
    refine thenR ?_
    obtain rfl := Option.some.inj h
    exact RetK [.t (.bool true)] _ [] kr kr (.refl _) .nil
  have h := cond_f h hc
  refine Wp.skip (thenN ?_)
  refine Wp.srg [] [] ?_
  refine Runs.batch 3 kr ?_
  obtain ⟨r1, e_r1, h⟩ := bind_some h
  refine Runs.callK false 15 47 [] [.t (.sl 1 (p1.fP.fB.map (eInt .u8)))] _ _ _ rfl rfl kr kr kr kr kr (spec_GetMsg_ok u p1.fP.fB r1 e_r1) kr ?_
  refine Runs.alln ?_
  refine Wp.fg ⟨[(2, .obj 2 0), (3, .obj 3 0), (4, .t (.bool false)), (5, .obj 5 0), (6, .t (.bool r1.2))], [(2, ((World.enc p0).map .t)), (3, ((Event.enc p1).map .t)), (5, [.t (.int .i64 r1.1.fKind), .t (.int .i64 r1.1.fGen), .t (.int .i64 r1.1.fMan.fGen), .t (.int .i64 r1.1.fMan.fSize), .t (.int .i64 r1.1.fMan.fLen), .own 983045, .t (.int .i64 r1.1.fWant), .t (.int .i64 r1.1.fDone), .t (.int .i64 r1.1.fI), .own 983049])], [(983045, .live 220 2 (r1.1.fMan.fSums.map Sum.enc)), (983049, .live 5 1 (r1.1.fB.map (eInt .u8)))]⟩ ?_
  refine Wp.seq ?_
  refine Wp.seqJ (α := Bool × World × Event) (fun a => ⟨[(2, .obj 2 0), (3, .obj 3 0), (4, .t (.bool false)), (29, .t (.bool a.1))], [(2, ((World.enc a.2.1).map .t)), (3, ((Event.enc a.2.2).map .t))], []⟩) (fun a => spec_Harmless_j1 u a.1 a.2.1 a.2.2 = some r) ?_ ?_
  · rintro ⟨x2, p0, p1⟩ h
    change spec_Harmless_j1 u x2 p0 p1 = some r at h
    unfold spec_Harmless_j1 at h
    refine Wp.cond2 (b := x2) kr (fun hc => ?_) (fun hc => ?_)
    · have h := cond_t h hc
      refine Wp.srg [] [] ?_
      refine Runs.alln ?_
      refine Wp.fg ⟨[(2, .obj 2 0), (3, .obj 3 0), (4, .t (.bool true))], [(2, ((World.enc p0).map .t)), (3, ((Event.enc p1).map .t))], []⟩ ?_
      refine Wp.ret ?_
      refine thenR ?_
      obtain rfl := Option.some.inj h
      exact RetK [.t (.bool true)] _ [] kr kr (.refl _) .nil
    have h := cond_f h hc
    refine Wp.skip (thenN ?_)
    refine Wp.seqJ (α := Unit) (fun a => ⟨[(4, .t (.bool false))], [], []⟩) (fun a => spec_Harmless_j2 u = some r) ?_ ?_
    · rintro ⟨⟩ h
      change spec_Harmless_j2 u = some r at h
      unfold spec_Harmless_j2 at h
      refine Wp.srg [] [] ?_
      refine Runs.alln ?_
      refine Wp.fg ⟨[(4, .t (.bool false))], [], []⟩ ?_
      refine Wp.ret ?_
      obtain rfl := Option.some.inj h
      exact RetK [.t (.bool false)] _ [] kr kr (.refl _) .nil
    · refine Wp.srg [] [] ?_
      refine Runs.alln ?_
      refine Wp.fg ⟨[(2, .obj 2 0), (3, .obj 3 0), (4, .t (.bool false)), (7, .t (.int .i64 0))], [(2, ((World.enc p0).map .t)), (3, ((Event.enc p1).map .t))], []⟩ ?_
      refine Wp.block ?_
      refine Wp.loopF (α := Int × World × Event) (fun a => ⟨[(2, .obj 2 0), (3, .obj 3 0), (4, .t (.bool false)), (7, .t (.int .i64 a.1))], [(2, ((World.enc a.2.1).map .t)), (3, ((Event.enc a.2.2).map .t))], []⟩) (fun k_spec_Harmless_l3 a => spec_Harmless_l3 u k_spec_Harmless_l3 a.1 a.2.1 a.2.2 = some r) ?_ ?_ u (0, p0, p1) h (Le.of (mo := []) (mr := []) kr kr kr kr)
      · intro a h; unfold spec_Harmless_l3 at h; cases h
      · rintro k_spec_Harmless_l3 ⟨x4, p0, p1⟩ h
        change spec_Harmless_l3 u (k_spec_Harmless_l3 + 1) x4 p0 p1 = some r at h
        rw [spec_Harmless_l3] at h
        refine Wp.seq ?_
        refine Wp.srg [] [] ?_
        refine Runs.batch 3 kr ?_
        refine Runs.lenT (y := .t (.sl 3 (p0.fNet.map Packet.enc))) (e := 55) Packet.enc p0.fNet 3 rfl rfl rfl kr kr kr kr kr ?_
        refine Runs.alln ?_
        refine Wp.fg ⟨[(2, .obj 2 0), (3, .obj 3 0), (4, .t (.bool false)), (7, .t (.int .i64 x4)), (34, .t (.bool (decide (x4 < ((p0.fNet.length : Int))))))], [(2, ((World.enc p0).map .t)), (3, ((Event.enc p1).map .t))], []⟩ ?_
        refine Wp.cond2 (b := decide (x4 < ((p0.fNet.length : Int)))) kr (fun hc => ?_) (fun hc => ?_)
        · have h := cond_t h hc
          refine Wp.skip (thenN ?_)
          refine Wp.seq ?_
          refine Wp.block ?_
          refine Wp.seq ?_
          refine Wp.regionA (pOf []) (rhoOf [(2, .obj 2), (3, .obj 3), (7, .frz), (37, .obj 2), (38, .frz), (39, .frz), (40, .frz), (41, .frz), (42, .frz), (43, .obj 3), (44, .obj 3), (45, .frz)]) kr kr ?_
          refine Runs.batch 3 kr ?_
          obtain ⟨y6, e_y6, h⟩ := bind_some h
          refine Runs.idxT (e := 55) (kk := .i64) (sz := 3) Packet.enc p0.fNet x4 rfl kr kr kr kr kr kr e_y6 ?_
          refine Runs.batch 5 kr ?_
          obtain ⟨r7, e_r7, h⟩ := bind_some h
          refine Runs.callK false 46 48 [] [.t (.sl 1 (y6.fB.map (eInt .u8))), .t (.sl 1 (p1.fP.fB.map (eInt .u8)))] _ _ _ rfl rfl kr kr kr kr kr (spec_SameBytes_ok u y6.fB p1.fP.fB r7 e_r7) kr ?_
          refine Runs.done ?_
          refine thenN ?_
          refine Wp.fg ⟨[(2, .obj 2 0), (3, .obj 3 0), (4, .t (.bool false)), (7, .t (.int .i64 x4)), (46, .t (.bool r7))], [(2, ((World.enc p0).map .t)), (3, ((Event.enc p1).map .t))], []⟩ ?_
          refine Wp.cond2 (b := r7) kr (fun hc => ?_) (fun hc => ?_)
          · have h := cond_t h hc
            refine Wp.srg [] [] ?_
            refine Runs.alln ?_
            refine Wp.fg ⟨[(2, .obj 2 0), (3, .obj 3 0), (4, .t (.bool true)), (7, .t (.int .i64 x4))], [(2, ((World.enc p0).map .t)), (3, ((Event.enc p1).map .t))], []⟩ ?_
            refine Wp.ret ?_
            refine blkR ?_
            refine thenR ?_
            refine thenR ?_
            refine blkR ?_
            refine thenR ?_
            obtain rfl := Option.some.inj h
            exact RetK [.t (.bool true)] _ [] kr kr (.refl _) .nil
          have h := cond_f h hc
          refine Wp.skip ?_
          refine blkN ?_
          refine thenN ?_
          refine Wp.rg [] [] ?_
          refine Runs.alln ?_
          exact ⟨(bAdd .i64 x4 1, p0, p1), h, Le.of (mo := []) (mr := []) kr kr kr kr⟩
        have h := cond_f h hc
        refine Wp.exit ?_
        refine thenE ?_
        refine thenE ?_
        refine blkE ?_
        refine thenN ?_
        exact ⟨(), h, Le.of (mo := []) (mr := []) kr kr kr kr⟩
  · refine Wp.rg [] [] ?_
    refine Runs.batch 3 kr ?_
    rcases tf (!r1.2) with hc | hc
    · have h := cond_t h hc
      refine Runs.known 20 (v := true) kr hc ?_
      refine Runs.alln ?_
      exact ⟨(true, p0, p1), h, Le.of (mo := []) (mr := []) kr kr kr kr⟩
    have h := cond_f h hc
    refine Runs.known 20 (v := false) kr hc ?_
    refine Runs.batch 5 kr ?_
    rcases tf (r1.1.fKind == 4) with hc | hc
    · have h := cond_t h hc
      refine Runs.known 25 (v := true) kr hc ?_
      refine Runs.alln ?_
      exact ⟨(true, p0, p1), h, Le.of (mo := []) (mr := []) kr kr kr kr⟩
    have h := cond_f h hc
    refine Runs.known 25 (v := false) kr hc ?_
    refine Runs.alln ?_
    exact ⟨(r1.1.fKind == 3, p0, p1), h, Le.of (mo := []) (mr := []) kr kr kr kr⟩
theorem impl_within_ok (u : Nat) (p0 : Int) (p1 : Int) (p2 : Int) (r : Bool) (h : impl_within u p0 p1 p2 = some r) : CallOK Tryz.prog 58 [.one (.t (.int .i64 p0)), .one (.t (.int .i64 p1)), .one (.t (.int .i64 p2))] (.one (.t (.bool r))) [] := by
  unfold impl_within at h
  refine CallOK.of_bodyK (fn := Tryz.f58) (m := false) [.t (.int .i64 p0), .t (.int .i64 p1), .t (.int .i64 p2)] kr rfl kr kr kr kr kr ?_
  refine Wp.srg [] [] ?_
  refine Runs.alln ?_
  refine Wp.fg ⟨[(0, .t (.int .i64 p0)), (1, .t (.int .i64 p1)), (2, .t (.int .i64 p2)), (6, .t (.bool false))], [], []⟩ ?_
  refine Wp.srg [] [] ?_
  refine Runs.batch 4 kr ?_
  rcases tf (decide (p0 ≥ p1)) with hc | hc
  · have h := cond_t h hc
    refine Runs.known 10 (v := true) kr hc ?_
    refine Runs.alln ?_
    refine Wp.fg ⟨[(6, .t (.bool (decide (p0 ≤ p2))))], [], []⟩ ?_
    refine Wp.ret ?_
    obtain rfl := Option.some.inj h
    exact RetK [.t (.bool (decide (p0 ≤ p2)))] _ [] kr kr (.refl _) .nil
  have h := cond_f h hc
  refine Runs.known 10 (v := false) kr hc ?_
  refine Runs.alln ?_
  refine Wp.fg ⟨[(6, .t (.bool false))], [], []⟩ ?_
  refine Wp.ret ?_
  obtain rfl := Option.some.inj h
  exact RetK [.t (.bool false)] _ [] kr kr (.refl _) .nil
theorem impl_readVar_ok (u : Nat) (p0 : List Int) (p1 : Int) (p2 : Int) (r : Int × Int × Bool) (h : impl_readVar u p0 p1 p2 = some r) : CallOK Tryz.prog 136 [.one (.t (.sl 1 (p0.map (eInt .u8)))), .one (.t (.int .i64 p1)), .one (.t (.int .i64 p2))] (.tup [.one (.t (.int .i64 r.1)), .one (.t (.int .i64 r.2.1)), .one (.t (.bool r.2.2))]) [] := by
  unfold impl_readVar at h
  refine CallOK.of_bodyK (fn := Tryz.f136) (m := false) [.t (.sl 1 (p0.map (eInt .u8))), .t (.int .i64 p1), .t (.int .i64 p2)] kr rfl kr kr kr kr kr ?_
  refine Wp.srg [] [] ?_
  refine Runs.alln ?_
  refine Wp.fg ⟨[(0, .t (.sl 1 (p0.map (eInt .u8)))), (1, .t (.int .i64 p1)), (2, .t (.int .i64 p2)), (6, .t (.int .i64 0)), (7, .t (.int .i64 0)), (8, .t (.bool false))], [], []⟩ ?_
  refine Wp.srg [] [] ?_
  refine Runs.alln ?_
  refine Wp.fg ⟨[(0, .t (.sl 1 (p0.map (eInt .u8)))), (1, .t (.int .i64 p1)), (2, .t (.int .i64 p2)), (6, .t (.int .i64 0)), (7, .t (.int .i64 0)), (8, .t (.bool false)), (9, .t (.int .i64 0))], [], []⟩ ?_
  refine Wp.seqJ (α := Unit) (fun a => ⟨[(6, .t (.int .i64 0)), (7, .t (.int .i64 0)), (8, .t (.bool false))], [], []⟩) (fun a => impl_readVar_j1 u = some r) ?_ ?_
  · rintro ⟨⟩ h
    change impl_readVar_j1 u = some r at h
    unfold impl_readVar_j1 at h
    refine Wp.srg [] [] ?_
    refine Runs.alln ?_
    refine Wp.fg ⟨[(6, .t (.int .i64 0)), (7, .t (.int .i64 0)), (8, .t (.bool false))], [], []⟩ ?_
    refine Wp.ret ?_
    obtain rfl := Option.some.inj h
    exact RetK [.t (.int .i64 0), .t (.int .i64 0), .t (.bool false)] _ [] kr kr (.refl _) .nil
  · refine Wp.srg [] [] ?_
    refine Runs.alln ?_
    refine Wp.fg ⟨[(0, .t (.sl 1 (p0.map (eInt .u8)))), (1, .t (.int .i64 p1)), (6, .t (.int .i64 0)), (7, .t (.int .i64 0)), (8, .t (.bool false)), (9, .t (.int .i64 0)), (12, .t (.int .i64 p2)), (13, .t (.int .i64 0))], [], []⟩ ?_
    refine Wp.block ?_
    refine Wp.loopF (α := (List Int) × Int × Int × Int × Int) (fun a => ⟨[(0, .t (.sl 1 (a.1.map (eInt .u8)))), (1, .t (.int .i64 a.2.1)), (6, .t (.int .i64 0)), (7, .t (.int .i64 0)), (8, .t (.bool false)), (9, .t (.int .i64 a.2.2.1)), (12, .t (.int .i64 a.2.2.2.1)), (13, .t (.int .i64 a.2.2.2.2))], [], []⟩) (fun k_impl_readVar_l2 a => impl_readVar_l2 u k_impl_readVar_l2 a.1 a.2.1 a.2.2.1 a.2.2.2.1 a.2.2.2.2 = some r) ?_ ?_ u (p0, p1, 0, p2, 0) h (Le.of (mo := []) (mr := []) kr kr kr kr)
    · intro a h; unfold impl_readVar_l2 at h; cases h
    · rintro k_impl_readVar_l2 ⟨p0, p1, x3, p2, x4⟩ h
      change impl_readVar_l2 u (k_impl_readVar_l2 + 1) p0 p1 x3 p2 x4 = some r at h
      rw [impl_readVar_l2] at h
      refine Wp.srg [] [] ?_
      refine Runs.alln ?_
      refine Wp.fg ⟨[(0, .t (.sl 1 (p0.map (eInt .u8)))), (1, .t (.int .i64 p1)), (6, .t (.int .i64 0)), (7, .t (.int .i64 0)), (8, .t (.bool false)), (9, .t (.int .i64 x3)), (12, .t (.int .i64 p2)), (13, .t (.int .i64 x4)), (14, .t (.bool (decide (x4 < p2))))], [], []⟩ ?_
      refine Wp.seq ?_
      refine Wp.cond2 (b := decide (x4 < p2)) kr (fun hc => ?_) (fun hc => ?_)
      · have h := cond_t h hc
        refine Wp.skip (thenN ?_)
        refine Wp.seq ?_
        refine Wp.block ?_
        refine Wp.srg [] [] ?_
        refine Runs.alln ?_
        refine Wp.fg ⟨[(0, .t (.sl 1 (p0.map (eInt .u8)))), (1, .t (.int .i64 p1)), (6, .t (.int .i64 0)), (7, .t (.int .i64 0)), (8, .t (.bool false)), (9, .t (.int .i64 x3)), (10, .t (.int .i64 x4)), (12, .t (.int .i64 p2)), (13, .t (.int .i64 x4))], [], []⟩ ?_
        refine Wp.seq ?_
        refine Wp.srg [] [] ?_
        refine Runs.batch 2 kr ?_
        refine Runs.lenT (y := .t (.sl 1 (p0.map (eInt .u8)))) (e := 5) (eInt .u8) p0 1 rfl rfl rfl kr kr kr kr kr ?_
        refine Runs.batch 3 kr ?_
        obtain ⟨r7, e_r7, h⟩ := bind_some h
        refine Runs.callK false 22 58 [] [.t (.int .i64 p1), .t (.int .i64 0), .t (.int .i64 (bSub .i64 (bSub .i64 ((p0.length : Int)) 1) x4))] _ _ _ rfl rfl kr kr kr kr kr (impl_within_ok u p1 0 (bSub .i64 (bSub .i64 ((p0.length : Int)) 1) x4) r7 e_r7) kr ?_
        refine Runs.alln ?_
        refine Wp.fg ⟨[(0, .t (.sl 1 (p0.map (eInt .u8)))), (1, .t (.int .i64 p1)), (6, .t (.int .i64 0)), (7, .t (.int .i64 0)), (8, .t (.bool false)), (9, .t (.int .i64 x3)), (10, .t (.int .i64 x4)), (12, .t (.int .i64 p2)), (13, .t (.int .i64 x4)), (23, .t (.bool (!r7)))], [], []⟩ ?_
        refine Wp.cond2 (b := !r7) kr (fun hc => ?_) (fun hc => ?_)
        · have h := cond_t h hc
          refine Wp.srg [] [] ?_
          refine Runs.alln ?_
          refine Wp.fg ⟨[(0, .t (.sl 1 (p0.map (eInt .u8)))), (1, .t (.int .i64 p1)), (6, .t (.int .i64 0)), (7, .t (.int .i64 0)), (8, .t (.bool false)), (9, .t (.int .i64 x3)), (10, .t (.int .i64 x4)), (12, .t (.int .i64 p2)), (13, .t (.int .i64 x4))], [], []⟩ ?_
          refine Wp.ret ?_
          refine thenR ?_
          refine blkR ?_
          refine thenR ?_
          refine thenR ?_
          refine blkR ?_
          refine thenR ?_
          obtain rfl := Option.some.inj h
          exact RetK [.t (.int .i64 0), .t (.int .i64 0), .t (.bool false)] _ [] kr kr (.refl _) .nil
        have h := cond_f h hc
        refine Wp.skip (thenN ?_)
        refine Wp.srg [] [] ?_
        refine Runs.batch 4 kr ?_
        obtain ⟨y8, e_y8, h⟩ := bind_some h
        refine Runs.idxT (e := 5) (kk := .i64) (sz := 1) (eInt .u8) p0 (bAdd .i64 p1 x4) rfl kr kr kr kr kr kr e_y8 ?_
        refine Runs.alln ?_
        refine Wp.fg ⟨[(0, .t (.sl 1 (p0.map (eInt .u8)))), (1, .t (.int .i64 p1)), (6, .t (.int .i64 0)), (7, .t (.int .i64 0)), (8, .t (.bool false)), (9, .t (.int .i64 x3)), (10, .t (.int .i64 x4)), (11, .t (.int .i64 (IntKind.wrap .i64 y8))), (12, .t (.int .i64 p2)), (13, .t (.int .i64 x4))], [], []⟩ ?_
        refine Wp.srg [] [] ?_
        refine Runs.batch 5 kr ?_
        obtain ⟨_, e_9, h⟩ := bind_some h
        refine Runs.num .shl (.int .i64 (bAnd .i64 (IntKind.wrap .i64 y8) 127)) (.int .i64 (bMul .i64 7 x4)) (.int .i64 (bShl .i64 (bAnd .i64 (IntKind.wrap .i64 y8) 127) (bMul .i64 7 x4))) rfl kr kr kr kr (bin_shl _ _ _ _ _ (chk_some e_9)) ?_
        refine Runs.alln ?_
        refine Wp.fg ⟨[(0, .t (.sl 1 (p0.map (eInt .u8)))), (1, .t (.int .i64 p1)), (6, .t (.int .i64 0)), (7, .t (.int .i64 0)), (8, .t (.bool false)), (9, .t (.int .i64 (bOr .i64 x3 (bShl .i64 (bAnd .i64 (IntKind.wrap .i64 y8) 127) (bMul .i64 7 x4))))), (10, .t (.int .i64 x4)), (11, .t (.int .i64 (IntKind.wrap .i64 y8))), (12, .t (.int .i64 p2)), (13, .t (.int .i64 x4))], [], []⟩ ?_
        refine Wp.srg [] [] ?_
        refine Runs.alln ?_
        refine Wp.fg ⟨[(0, .t (.sl 1 (p0.map (eInt .u8)))), (1, .t (.int .i64 p1)), (6, .t (.int .i64 0)), (7, .t (.int .i64 0)), (8, .t (.bool false)), (9, .t (.int .i64 (bOr .i64 x3 (bShl .i64 (bAnd .i64 (IntKind.wrap .i64 y8) 127) (bMul .i64 7 x4))))), (10, .t (.int .i64 x4)), (11, .t (.int .i64 (IntKind.wrap .i64 y8))), (12, .t (.int .i64 p2)), (13, .t (.int .i64 x4)), (39, .t (.bool (decide ((IntKind.wrap .i64 y8) < 128))))], [], []⟩ ?_
        refine Wp.cond2 (b := decide ((IntKind.wrap .i64 y8) < 128)) kr (fun hc => ?_) (fun hc => ?_)
        · have h := cond_t h hc
          refine Wp.srg [] [] ?_
          refine Runs.batch 8 kr ?_
          rcases tf (x4 == 0) with hc | hc
          · have h := cond_t h hc
            refine Runs.known 47 (v := true) kr hc ?_
            refine Runs.alln ?_
            refine Wp.fg ⟨[(0, .t (.sl 1 (p0.map (eInt .u8)))), (1, .t (.int .i64 p1)), (6, .t (.int .i64 (bOr .i64 x3 (bShl .i64 (bAnd .i64 (IntKind.wrap .i64 y8) 127) (bMul .i64 7 x4))))), (7, .t (.int .i64 (bAdd .i64 (bAdd .i64 p1 x4) 1))), (8, .t (.bool true)), (9, .t (.int .i64 (bOr .i64 x3 (bShl .i64 (bAnd .i64 (IntKind.wrap .i64 y8) 127) (bMul .i64 7 x4))))), (12, .t (.int .i64 p2)), (13, .t (.int .i64 x4))], [], []⟩ ?_
            refine Wp.ret ?_
            refine blkR ?_
            refine thenR ?_
            refine thenR ?_
            refine blkR ?_
            refine thenR ?_
            obtain rfl := Option.some.inj h
            exact RetK [.t (.int .i64 (bOr .i64 x3 (bShl .i64 (bAnd .i64 (IntKind.wrap .i64 y8) 127) (bMul .i64 7 x4)))), .t (.int .i64 (bAdd .i64 (bAdd .i64 p1 x4) 1)), .t (.bool true)] _ [] kr kr (.refl _) .nil
          have h := cond_f h hc
          refine Runs.known 47 (v := false) kr hc ?_
          refine Runs.alln ?_
          refine Wp.fg ⟨[(0, .t (.sl 1 (p0.map (eInt .u8)))), (1, .t (.int .i64 p1)), (6, .t (.int .i64 (bOr .i64 x3 (bShl .i64 (bAnd .i64 (IntKind.wrap .i64 y8) 127) (bMul .i64 7 x4))))), (7, .t (.int .i64 (bAdd .i64 (bAdd .i64 p1 x4) 1))), (8, .t (.bool (decide ((IntKind.wrap .i64 y8) > 0)))), (9, .t (.int .i64 (bOr .i64 x3 (bShl .i64 (bAnd .i64 (IntKind.wrap .i64 y8) 127) (bMul .i64 7 x4))))), (12, .t (.int .i64 p2)), (13, .t (.int .i64 x4)), (48, .t (.int .i64 (IntKind.wrap .i64 y8))), (49, .t (.bool (decide ((IntKind.wrap .i64 y8) > 0))))], [], []⟩ ?_
          refine Wp.ret ?_
          refine blkR ?_
          refine thenR ?_
          refine thenR ?_
          refine blkR ?_
          refine thenR ?_
          obtain rfl := Option.some.inj h
          exact RetK [.t (.int .i64 (bOr .i64 x3 (bShl .i64 (bAnd .i64 (IntKind.wrap .i64 y8) 127) (bMul .i64 7 x4)))), .t (.int .i64 (bAdd .i64 (bAdd .i64 p1 x4) 1)), .t (.bool (decide ((IntKind.wrap .i64 y8) > 0)))] _ [] kr kr (.refl _) .nil
        have h := cond_f h hc
        refine Wp.skip ?_
        refine blkN ?_
        refine thenN ?_
        refine Wp.rg [] [] ?_
        refine Runs.alln ?_
        exact ⟨(p0, p1, bOr .i64 x3 (bShl .i64 (bAnd .i64 (IntKind.wrap .i64 y8) 127) (bMul .i64 7 x4)), p2, bAdd .i64 x4 1), h, Le.of (mo := []) (mr := []) kr kr kr kr⟩
      have h := cond_f h hc
      refine Wp.exit ?_
      refine thenE ?_
      refine thenE ?_
      refine blkE ?_
      refine thenN ?_
      exact ⟨(), h, Le.of (mo := []) (mr := []) kr kr kr kr⟩
theorem impl_GetVar_ok (u : Nat) (p0 : List Int) (p1 : Int) (r : Int × Int × Bool) (h : impl_GetVar u p0 p1 = some r) : CallOK Tryz.prog 83 [.one (.t (.sl 1 (p0.map (eInt .u8)))), .one (.t (.int .i64 p1))] (.tup [.one (.t (.int .i64 r.1)), .one (.t (.int .i64 r.2.1)), .one (.t (.bool r.2.2))]) [] := by
  unfold impl_GetVar at h
  refine CallOK.of_bodyK (fn := Tryz.f83) (m := false) [.t (.sl 1 (p0.map (eInt .u8))), .t (.int .i64 p1)] kr rfl kr kr kr kr kr ?_
  refine Wp.srg [] [] ?_
  refine Runs.alln ?_
  refine Wp.fg ⟨[(0, .t (.sl 1 (p0.map (eInt .u8)))), (1, .t (.int .i64 p1)), (4, .t (.int .i64 0)), (5, .t (.int .i64 0)), (6, .t (.bool false))], [], []⟩ ?_
  refine Wp.srg [] [] ?_
  refine Runs.batch 2 kr ?_
  obtain ⟨r1, e_r1, h⟩ := bind_some h
  refine Runs.callK false 13 136 [] [.t (.sl 1 (p0.map (eInt .u8))), .t (.int .i64 p1), .t (.int .i64 6)] _ _ _ rfl rfl kr kr kr kr kr (impl_readVar_ok u p0 p1 6 r1 e_r1) kr ?_
  refine Runs.alln ?_
  refine Wp.fg ⟨[(4, .t (.int .i64 0)), (5, .t (.int .i64 0)), (6, .t (.bool false)), (7, .t (.int .i64 r1.1)), (8, .t (.int .i64 r1.2.1)), (9, .t (.bool r1.2.2))], [], []⟩ ?_
  refine Wp.seq ?_
  refine Wp.seqJ (α := (Int × Int × Bool) × Bool) (fun a => ⟨[(4, .t (.int .i64 0)), (5, .t (.int .i64 0)), (6, .t (.bool false)), (7, .t (.int .i64 a.1.1)), (8, .t (.int .i64 a.1.2.1)), (22, .t (.bool a.2))], [], []⟩) (fun a => impl_GetVar_j1 u a.1 a.2 = some r) ?_ ?_
  · rintro ⟨r1, x2⟩ h
    change impl_GetVar_j1 u r1 x2 = some r at h
    unfold impl_GetVar_j1 at h
    refine Wp.cond2 (b := x2) kr (fun hc => ?_) (fun hc => ?_)
    · have h := cond_t h hc
      refine Wp.srg [] [] ?_
      refine Runs.alln ?_
      refine Wp.fg ⟨[(4, .t (.int .i64 0)), (5, .t (.int .i64 0)), (6, .t (.bool false)), (7, .t (.int .i64 r1.1)), (8, .t (.int .i64 r1.2.1))], [], []⟩ ?_
      refine Wp.ret ?_
      refine thenR ?_
      obtain rfl := Option.some.inj h
      exact RetK [.t (.int .i64 0), .t (.int .i64 0), .t (.bool false)] _ [] kr kr (.refl _) .nil
    have h := cond_f h hc
    refine Wp.skip (thenN ?_)
    refine Wp.srg [] [] ?_
    refine Runs.alln ?_
    refine Wp.fg ⟨[(4, .t (.int .i64 r1.1)), (5, .t (.int .i64 r1.2.1)), (6, .t (.bool true))], [], []⟩ ?_
    refine Wp.ret ?_
    obtain rfl := Option.some.inj h
    exact RetK [.t (.int .i64 r1.1), .t (.int .i64 r1.2.1), .t (.bool true)] _ [] kr kr (.refl _) .nil
  · refine Wp.rg [] [] ?_
    refine Runs.batch 3 kr ?_
    rcases tf (!r1.2.2) with hc | hc
    · have h := cond_t h hc
      refine Runs.known 19 (v := true) kr hc ?_
      refine Runs.alln ?_
      exact ⟨(r1, true), h, Le.of (mo := []) (mr := []) kr kr kr kr⟩
    have h := cond_f h hc
    refine Runs.known 19 (v := false) kr hc ?_
    refine Runs.alln ?_
    exact ⟨(r1, decide (r1.1 > 1000000000000)), h, Le.of (mo := []) (mr := []) kr kr kr kr⟩
theorem impl_readVars_ok (u : Nat) (p0 : List Int) (p1 : Int) (p2 : Int) (r : (List Int) × Int × Bool) (h : impl_readVars u p0 p1 p2 = some r) : CallOK Tryz.prog 138 [.one (.t (.sl 1 (p0.map (eInt .u8)))), .one (.t (.int .i64 p1)), .one (.t (.int .i64 p2))] (.tup [.one (.ow 3 1 (r.1.map (eInt .i64))), .one (.t (.int .i64 r.2.1)), .one (.t (.bool r.2.2))]) [] := by
  unfold impl_readVars at h
  refine CallOK.of_bodyK (fn := Tryz.f138) (m := true) [.t (.sl 1 (p0.map (eInt .u8))), .t (.int .i64 p1), .t (.int .i64 p2)] kr rfl kr kr kr kr kr ?_
  refine Wp.srg [] [] ?_
  refine Runs.alln ?_
  refine Wp.fg ⟨[(0, .t (.sl 1 (p0.map (eInt .u8)))), (1, .t (.int .i64 p1)), (2, .t (.int .i64 p2)), (6, .nil), (7, .t (.int .i64 0)), (8, .t (.bool false))], [], []⟩ ?_
  refine Wp.srg [] [] ?_
  refine Runs.alln ?_
  refine Wp.fg ⟨[(0, .t (.sl 1 (p0.map (eInt .u8)))), (1, .t (.int .i64 p1)), (2, .t (.int .i64 p2)), (6, .nil), (7, .t (.int .i64 0)), (8, .t (.bool false)), (9, .own 851968)], [], [(851968, .live 3 1 ((([] : List Int)).map (eInt .i64)))]⟩ ?_
  refine Wp.seqJ (α := Int × (List Int)) (fun a => ⟨[(1, .t (.int .i64 a.1)), (6, .nil), (7, .t (.int .i64 0)), (8, .t (.bool false)), (9, .own 589825)], [], [(589825, .live 3 1 (a.2.map (eInt .i64)))]⟩) (fun a => impl_readVars_j1 u a.1 a.2 = some r) ?_ ?_
  · rintro ⟨x11, x12⟩ h
    change impl_readVars_j1 u x11 x12 = some r at h
    unfold impl_readVars_j1 at h
    refine Wp.srg [] [] ?_
    refine Runs.alln ?_
    refine Wp.fg ⟨[(6, .own 589825), (7, .t (.int .i64 x11)), (8, .t (.bool true))], [], [(589825, .live 3 1 (x12.map (eInt .i64)))]⟩ ?_
    refine Wp.ret ?_
    obtain rfl := Option.some.inj h
    exact RetK [.own 589825, .t (.int .i64 x11), .t (.bool true)] _ [] kr kr (.refl _) .nil
  · refine Wp.srg [] [] ?_
    refine Runs.alln ?_
    refine Wp.fg ⟨[(0, .t (.sl 1 (p0.map (eInt .u8)))), (1, .t (.int .i64 p1)), (6, .nil), (7, .t (.int .i64 0)), (8, .t (.bool false)), (9, .own 851968), (14, .t (.int .i64 p2)), (15, .t (.int .i64 0))], [], [(851968, .live 3 1 ((([] : List Int)).map (eInt .i64)))]⟩ ?_
    refine Wp.block ?_
    refine Wp.loopF (α := (List Int) × Int × (List Int) × Int × Int) (fun a => ⟨[(0, .t (.sl 1 (a.1.map (eInt .u8)))), (1, .t (.int .i64 a.2.1)), (6, .nil), (7, .t (.int .i64 0)), (8, .t (.bool false)), (9, .own 589825), (14, .t (.int .i64 a.2.2.2.1)), (15, .t (.int .i64 a.2.2.2.2))], [], [(589825, .live 3 1 (a.2.2.1.map (eInt .i64)))]⟩) (fun k_impl_readVars_l2 a => impl_readVars_l2 u k_impl_readVars_l2 a.1 a.2.1 a.2.2.1 a.2.2.2.1 a.2.2.2.2 = some r) ?_ ?_ u (p0, p1, ([] : List Int), p2, 0) h (Le.of (mo := []) (mr := [(589825, 851968)]) kr kr kr kr)
    · intro a h; unfold impl_readVars_l2 at h; cases h
    · rintro k_impl_readVars_l2 ⟨p0, x4, x5, p2, x6⟩ h
      change impl_readVars_l2 u (k_impl_readVars_l2 + 1) p0 x4 x5 p2 x6 = some r at h
      rw [impl_readVars_l2] at h
      refine Wp.srg [] [] ?_
      refine Runs.alln ?_
      refine Wp.fg ⟨[(0, .t (.sl 1 (p0.map (eInt .u8)))), (1, .t (.int .i64 x4)), (6, .nil), (7, .t (.int .i64 0)), (8, .t (.bool false)), (9, .own 589825), (14, .t (.int .i64 p2)), (15, .t (.int .i64 x6)), (16, .t (.bool (decide (x6 < p2))))], [], [(589825, .live 3 1 (x5.map (eInt .i64)))]⟩ ?_
      refine Wp.seq ?_
      refine Wp.cond2 (b := decide (x6 < p2)) kr (fun hc => ?_) (fun hc => ?_)
      · have h := cond_t h hc
        refine Wp.skip (thenN ?_)
        refine Wp.seq ?_
        refine Wp.block ?_
        refine Wp.srg [] [] ?_
        refine Runs.batch 2 kr ?_
        obtain ⟨r10, e_r10, h⟩ := bind_some h
        refine Runs.callK false 20 83 [] [.t (.sl 1 (p0.map (eInt .u8))), .t (.int .i64 x4)] _ _ _ rfl rfl kr kr kr kr kr (impl_GetVar_ok u p0 x4 r10 e_r10) kr ?_
        refine Runs.alln ?_
        refine Wp.fg ⟨[(0, .t (.sl 1 (p0.map (eInt .u8)))), (1, .t (.int .i64 x4)), (6, .nil), (7, .t (.int .i64 0)), (8, .t (.bool false)), (9, .own 589825), (10, .t (.int .i64 r10.1)), (11, .t (.int .i64 r10.2.1)), (12, .t (.bool r10.2.2)), (14, .t (.int .i64 p2)), (15, .t (.int .i64 x6))], [], [(589825, .live 3 1 (x5.map (eInt .i64)))]⟩ ?_
        refine Wp.seq ?_
        refine Wp.srg [] [] ?_
        refine Runs.alln ?_
        refine Wp.fg ⟨[(0, .t (.sl 1 (p0.map (eInt .u8)))), (1, .t (.int .i64 x4)), (6, .nil), (7, .t (.int .i64 0)), (8, .t (.bool false)), (9, .own 589825), (10, .t (.int .i64 r10.1)), (11, .t (.int .i64 r10.2.1)), (14, .t (.int .i64 p2)), (15, .t (.int .i64 x6)), (25, .t (.bool (!r10.2.2)))], [], [(589825, .live 3 1 (x5.map (eInt .i64)))]⟩ ?_
        refine Wp.cond2 (b := !r10.2.2) kr (fun hc => ?_) (fun hc => ?_)
        · have h := cond_t h hc
          refine Wp.srg [] [] ?_
          refine Runs.alln ?_
          refine Wp.fg ⟨[(0, .t (.sl 1 (p0.map (eInt .u8)))), (1, .t (.int .i64 x4)), (6, .nil), (7, .t (.int .i64 0)), (8, .t (.bool false)), (9, .own 589825), (10, .t (.int .i64 r10.1)), (11, .t (.int .i64 r10.2.1)), (14, .t (.int .i64 p2)), (15, .t (.int .i64 x6))], [], [(589825, .live 3 1 (x5.map (eInt .i64)))]⟩ ?_
          refine Wp.ret ?_
          refine thenR ?_
          refine blkR ?_
          refine thenR ?_
          refine thenR ?_
          refine blkR ?_
          refine thenR ?_
          obtain rfl := Option.some.inj h
          exact RetK [.nil, .t (.int .i64 0), .t (.bool false)] (.tup [.one (.nil), .one (.t (.int .i64 0)), .one (.t (.bool false))]) [] kr kr (.tup (.cons (.one (.nilO _ _)) (.cons (.refl _) (.cons (.refl _) .nil)))) .nil
        have h := cond_f h hc
        refine Wp.skip (thenN ?_)
        refine Wp.srg [] [] ?_
        refine Runs.batch 3 kr ?_
        obtain ⟨_, e_11, h⟩ := bind_some h
        refine Runs.appT (y := .own 1835008) (eInt .i64) 29 1 3 1 8 589825 x5 ([r10.1]) rfl rfl rfl rfl kr kr kr kr kr kr (.inl rfl) kr (of_decide_eq_true (chk_some e_11)) kr kr ?_
        refine Runs.alln ?_
        refine Wp.fg ⟨[(0, .t (.sl 1 (p0.map (eInt .u8)))), (1, .t (.int .i64 x4)), (6, .nil), (7, .t (.int .i64 0)), (8, .t (.bool false)), (9, .own 1900544), (11, .t (.int .i64 r10.2.1)), (14, .t (.int .i64 p2)), (15, .t (.int .i64 x6))], [], [(1900544, .live 3 1 ((x5 ++ ([r10.1])).map (eInt .i64)))]⟩ ?_
        refine Wp.rg [] [] ?_
        refine Runs.all kr ?_
        refine blkN ?_
        refine thenN ?_
        refine Wp.rg [] [] ?_
        refine Runs.alln ?_
        exact ⟨(p0, r10.2.1, x5 ++ ([r10.1]), p2, bAdd .i64 x6 1), h, Le.of (mo := []) (mr := [(589825, 1900544)]) kr kr kr kr⟩
      have h := cond_f h hc
      refine Wp.exit ?_
      refine thenE ?_
      refine thenE ?_
      refine blkE ?_
      refine thenN ?_
      exact ⟨(x4, x5), h, Le.of (mo := []) (mr := []) kr kr kr kr⟩
theorem impl_SizeOk_ok (u : Nat) (p0 : Int) (p1 : Int) (r : Bool) (h : impl_SizeOk u p0 p1 = some r) : CallOK Tryz.prog 100 [.one (.t (.int .i64 p0)), .one (.t (.int .i64 p1))] (.one (.t (.bool r))) [] := by
  unfold impl_SizeOk at h
  refine CallOK.of_bodyK (fn := Tryz.f100) (m := false) [.t (.int .i64 p0), .t (.int .i64 p1)] kr rfl kr kr kr kr kr ?_
  refine Wp.srg [] [] ?_
  refine Runs.alln ?_
  refine Wp.fg ⟨[(0, .t (.int .i64 p0)), (1, .t (.int .i64 p1)), (4, .t (.bool false))], [], []⟩ ?_
  refine Wp.srg [] [] ?_
  refine Runs.batch 1 kr ?_
  obtain ⟨r1, e_r1, h⟩ := bind_some h
  refine Runs.callK false 6 58 [] [.t (.int .i64 p0), .t (.int .i64 2), .t (.int .i64 6)] _ _ _ rfl rfl kr kr kr kr kr (impl_within_ok u p0 2 6 r1 e_r1) kr ?_
  refine Runs.batch 1 kr ?_
  rcases tf (r1) with hc | hc
  · have h := cond_t h hc
    refine Runs.known 7 (v := true) kr hc ?_
    refine Runs.batch 3 kr ?_
    obtain ⟨r2, e_r2, h⟩ := bind_some h
    refine Runs.callK false 11 58 [] [.t (.int .i64 p1), .t (.int .i64 0), .t (.int .i64 (bMul .i64 40 p0))] _ _ _ rfl rfl kr kr kr kr kr (impl_within_ok u p1 0 (bMul .i64 40 p0) r2 e_r2) kr ?_
    refine Runs.alln ?_
    refine Wp.fg ⟨[(4, .t (.bool r2))], [], []⟩ ?_
    refine Wp.ret ?_
    obtain rfl := Option.some.inj h
    exact RetK [.t (.bool r2)] _ [] kr kr (.refl _) .nil
  have h := cond_f h hc
  refine Runs.known 7 (v := false) kr hc ?_
  refine Runs.alln ?_
  refine Wp.fg ⟨[(4, .t (.bool false))], [], []⟩ ?_
  refine Wp.ret ?_
  obtain rfl := Option.some.inj h
  exact RetK [.t (.bool false)] _ [] kr kr (.refl _) .nil
theorem impl_CeilDiv_ok (u : Nat) (p0 : Int) (p1 : Int) (r : Int) (h : impl_CeilDiv u p0 p1 = some r) : CallOK Tryz.prog 249 [.one (.t (.int .i64 p0)), .one (.t (.int .i64 p1))] (.one (.t (.int .i64 r))) [] := by
  unfold impl_CeilDiv at h
  refine CallOK.of_bodyK (fn := Tryz.f249) (m := false) [.t (.int .i64 p0), .t (.int .i64 p1)] kr rfl kr kr kr kr kr ?_
  refine Wp.srg [] [] ?_
  refine Runs.alln ?_
  refine Wp.fg ⟨[(0, .t (.int .i64 p0)), (1, .t (.int .i64 p1)), (4, .t (.int .i64 0))], [], []⟩ ?_
  refine Wp.seq ?_
  refine Wp.seqJ (α := Int × Int × Bool) (fun a => ⟨[(0, .t (.int .i64 a.1)), (1, .t (.int .i64 a.2.1)), (4, .t (.int .i64 0)), (12, .t (.bool a.2.2))], [], []⟩) (fun a => impl_CeilDiv_j1 u a.1 a.2.1 a.2.2 = some r) ?_ ?_
  · rintro ⟨p0, p1, x3⟩ h
    change impl_CeilDiv_j1 u p0 p1 x3 = some r at h
    unfold impl_CeilDiv_j1 at h
    refine Wp.cond2 (b := x3) kr (fun hc => ?_) (fun hc => ?_)
    · have h := cond_t h hc
      refine Wp.srg [] [] ?_
      refine Runs.alln ?_
      refine Wp.fg ⟨[(0, .t (.int .i64 p0)), (1, .t (.int .i64 p1)), (4, .t (.int .i64 0))], [], []⟩ ?_
      refine Wp.ret ?_
      refine thenR ?_
      obtain rfl := Option.some.inj h
      exact RetK [.t (.int .i64 0)] _ [] kr kr (.refl _) .nil
    have h := cond_f h hc
    refine Wp.skip (thenN ?_)
    refine Wp.srg [] [] ?_
    refine Runs.batch 5 kr ?_
    obtain ⟨_, e_4, h⟩ := bind_some h
    refine Runs.num .quo (.int .i64 (bSub .i64 (bAdd .i64 p0 p1) 1)) (.int .i64 p1) (.int .i64 (bQuo .i64 (bSub .i64 (bAdd .i64 p0 p1) 1) p1)) rfl kr kr kr kr (bin_quo _ _ _ _ (by simpa using chk_some e_4)) ?_
    refine Runs.alln ?_
    refine Wp.fg ⟨[(4, .t (.int .i64 (bQuo .i64 (bSub .i64 (bAdd .i64 p0 p1) 1) p1)))], [], []⟩ ?_
    refine Wp.ret ?_
    obtain rfl := Option.some.inj h
    exact RetK [.t (.int .i64 (bQuo .i64 (bSub .i64 (bAdd .i64 p0 p1) 1) p1))] _ [] kr kr (.refl _) .nil
  · refine Wp.rg [] [] ?_
    refine Runs.batch 1 kr ?_
    obtain ⟨r1, e_r1, h⟩ := bind_some h
    refine Runs.callK false 6 58 [] [.t (.int .i64 p0), .t (.int .i64 0), .t (.int .i64 1000000000000)] _ _ _ rfl rfl kr kr kr kr kr (impl_within_ok u p0 0 1000000000000 r1 e_r1) kr ?_
    refine Runs.batch 2 kr ?_
    rcases tf (!r1) with hc | hc
    · have h := cond_t h hc
      refine Runs.known 8 (v := true) kr hc ?_
      refine Runs.alln ?_
      exact ⟨(p0, p1, true), h, Le.of (mo := []) (mr := []) kr kr kr kr⟩
    have h := cond_f h hc
    refine Runs.known 8 (v := false) kr hc ?_
    refine Runs.batch 1 kr ?_
    obtain ⟨r2, e_r2, h⟩ := bind_some h
    refine Runs.callK false 10 58 [] [.t (.int .i64 p1), .t (.int .i64 1), .t (.int .i64 1000000000000)] _ _ _ rfl rfl kr kr kr kr kr (impl_within_ok u p1 1 1000000000000 r2 e_r2) kr ?_
    refine Runs.alln ?_
    exact ⟨(p0, p1, !r2), h, Le.of (mo := []) (mr := []) kr kr kr kr⟩
theorem impl_Blocks_ok (u : Nat) (p0 : Int) (p1 : Int) (r : Int) (h : impl_Blocks u p0 p1 = some r) : CallOK Tryz.prog 196 [.one (.t (.int .i64 p0)), .one (.t (.int .i64 p1))] (.one (.t (.int .i64 r))) [] := by
  unfold impl_Blocks at h
  refine CallOK.of_bodyK (fn := Tryz.f196) (m := false) [.t (.int .i64 p0), .t (.int .i64 p1)] kr rfl kr kr kr kr kr ?_
  refine Wp.srg [] [] ?_
  refine Runs.alln ?_
  refine Wp.fg ⟨[(0, .t (.int .i64 p0)), (1, .t (.int .i64 p1)), (4, .t (.int .i64 0))], [], []⟩ ?_
  refine Wp.seq ?_
  refine Wp.srg [] [] ?_
  refine Runs.batch 2 kr ?_
  obtain ⟨r1, e_r1, h⟩ := bind_some h
  refine Runs.callK false 7 100 [] [.t (.int .i64 p0), .t (.int .i64 p1)] _ _ _ rfl rfl kr kr kr kr kr (impl_SizeOk_ok u p0 p1 r1 e_r1) kr ?_
  refine Runs.alln ?_
  refine Wp.fg ⟨[(0, .t (.int .i64 p0)), (1, .t (.int .i64 p1)), (4, .t (.int .i64 0)), (8, .t (.bool (!r1)))], [], []⟩ ?_
  refine Wp.cond2 (b := !r1) kr (fun hc => ?_) (fun hc => ?_)
  · have h := cond_t h hc
    refine Wp.srg [] [] ?_
    refine Runs.alln ?_
    refine Wp.fg ⟨[(0, .t (.int .i64 p0)), (1, .t (.int .i64 p1)), (4, .t (.int .i64 0))], [], []⟩ ?_
    refine Wp.ret ?_
    refine thenR ?_
    obtain rfl := Option.some.inj h
    exact RetK [.t (.int .i64 0)] _ [] kr kr (.refl _) .nil
  have h := cond_f h hc
  refine Wp.skip (thenN ?_)
  refine Wp.srg [] [] ?_
  refine Runs.batch 2 kr ?_
  obtain ⟨r2, e_r2, h⟩ := bind_some h
  refine Runs.callK false 11 249 [] [.t (.int .i64 p1), .t (.int .i64 p0)] _ _ _ rfl rfl kr kr kr kr kr (impl_CeilDiv_ok u p1 p0 r2 e_r2) kr ?_
  refine Runs.alln ?_
  refine Wp.fg ⟨[(4, .t (.int .i64 r2))], [], []⟩ ?_
  refine Wp.ret ?_
  obtain rfl := Option.some.inj h
  exact RetK [.t (.int .i64 r2)] _ [] kr kr (.refl _) .nil
theorem impl_BytesOf_ok (u : Nat) (p0 : Int) (r : (List Int) × Bool) (h : impl_BytesOf u p0 = some r) : CallOK Tryz.prog 204 [.one (.t (.int .i64 p0))] (.tup [.one (.ow 5 1 (r.1.map (eInt .u8))), .one (.t (.bool r.2))]) [] := by
  unfold impl_BytesOf at h
  refine CallOK.of_bodyK (fn := Tryz.f204) (m := true) [.t (.int .i64 p0)] kr rfl kr kr kr kr kr ?_
  refine Wp.srg [] [] ?_
  refine Runs.alln ?_
  refine Wp.fg ⟨[(0, .t (.int .i64 p0)), (2, .nil), (3, .t (.bool false))], [], []⟩ ?_
  refine Wp.srg [] [] ?_
  refine Runs.alln ?_
  refine Wp.fg ⟨[(0, .t (.int .i64 p0)), (2, .nil), (3, .t (.bool false)), (4, .t (.int .i64 0))], [], []⟩ ?_
  refine Wp.seqJ (α := Int × Int) (fun a => ⟨[(0, .t (.int .i64 a.1)), (2, .nil), (3, .t (.bool false)), (4, .t (.int .i64 a.2))], [], []⟩) (fun a => impl_BytesOf_j1 u a.1 a.2 = some r) ?_ ?_
  · rintro ⟨p0, x5⟩ h
    change impl_BytesOf_j1 u p0 x5 = some r at h
    unfold impl_BytesOf_j1 at h
    refine Wp.seq ?_
    refine Wp.seqJ (α := Int × Int × Bool) (fun a => ⟨[(0, .t (.int .i64 a.1)), (2, .nil), (3, .t (.bool false)), (4, .t (.int .i64 a.2.1)), (26, .t (.bool a.2.2))], [], []⟩) (fun a => impl_BytesOf_j2 u a.1 a.2.1 a.2.2 = some r) ?_ ?_
    · rintro ⟨p0, x5, x6⟩ h
      change impl_BytesOf_j2 u p0 x5 x6 = some r at h
      unfold impl_BytesOf_j2 at h
      refine Wp.cond2 (b := x6) kr (fun hc => ?_) (fun hc => ?_)
      · have h := cond_t h hc
        refine Wp.srg [] [] ?_
        refine Runs.alln ?_
        refine Wp.fg ⟨[(0, .t (.int .i64 p0)), (2, .nil), (3, .t (.bool false)), (4, .t (.int .i64 x5))], [], []⟩ ?_
        refine Wp.ret ?_
        refine thenR ?_
        obtain rfl := Option.some.inj h
        exact RetK [.nil, .t (.bool false)] (.tup [.one (.nil), .one (.t (.bool false))]) [] kr kr (.tup (.cons (.one (.nilO _ _)) (.cons (.refl _) .nil))) .nil
      have h := cond_f h hc
      refine Wp.skip (thenN ?_)
      refine Wp.srg [] [] ?_
      refine Runs.batch 1 kr ?_
      obtain ⟨_, e_7, h⟩ := bind_some h
      obtain ⟨_, e_8, h⟩ := bind_some h
      refine Runs.mkS (eInt .u8) (0 : Int) 28 5 1 1 x5 x5 rfl rfl kr kr kr kr kr kr (chk_some e_7) (of_decide_eq_true (chk_some e_8)) kr ?_
      refine Runs.alln ?_
      refine Wp.fg ⟨[(0, .t (.int .i64 p0)), (2, .nil), (3, .t (.bool false)), (4, .t (.int .i64 x5)), (5, .own 1835008)], [], [(1835008, .live 5 1 ((List.replicate (Int.toNat x5) (0 : Int)).map (eInt .u8)))]⟩ ?_
      refine Wp.seqJ (α := (List Int)) (fun a => ⟨[(2, .nil), (3, .t (.bool false)), (5, .own 327681)], [], [(327681, .live 5 1 (a.map (eInt .u8)))]⟩) (fun a => impl_BytesOf_j3 u a = some r) ?_ ?_
      · rintro x17 h
        change impl_BytesOf_j3 u x17 = some r at h
        unfold impl_BytesOf_j3 at h
        refine Wp.srg [] [] ?_
        refine Runs.alln ?_
        refine Wp.fg ⟨[(2, .own 327681), (3, .t (.bool true))], [], [(327681, .live 5 1 (x17.map (eInt .u8)))]⟩ ?_
        refine Wp.ret ?_
        obtain rfl := Option.some.inj h
        exact RetK [.own 327681, .t (.bool true)] _ [] kr kr (.refl _) .nil
      · refine Wp.srg [] [] ?_
        refine Runs.batch 1 kr ?_
        refine Runs.lenT (y := .own 1835008) (e := 5) (eInt .u8) (List.replicate (Int.toNat x5) (0 : Int)) 1 rfl rfl rfl kr kr kr kr kr ?_
        refine Runs.alln ?_
        refine Wp.fg ⟨[(0, .t (.int .i64 p0)), (2, .nil), (3, .t (.bool false)), (4, .t (.int .i64 x5)), (5, .own 1835008), (30, .t (.int .i64 (((List.replicate (Int.toNat x5) (0 : Int)).length : Int)))), (31, .t (.int .i64 0))], [], [(1835008, .live 5 1 ((List.replicate (Int.toNat x5) (0 : Int)).map (eInt .u8)))]⟩ ?_
        refine Wp.block ?_
        refine Wp.loopF (α := Int × Int × (List Int) × Int) (fun a => ⟨[(0, .t (.int .i64 a.1)), (2, .nil), (3, .t (.bool false)), (4, .t (.int .i64 a.2.1)), (5, .own 327681), (30, .t (.int .i64 (((List.replicate (Int.toNat a.2.1) (0 : Int)).length : Int)))), (31, .t (.int .i64 a.2.2.2))], [], [(327681, .live 5 1 (a.2.2.1.map (eInt .u8)))]⟩) (fun k_impl_BytesOf_l4 a => impl_BytesOf_l4 u k_impl_BytesOf_l4 a.1 a.2.1 a.2.2.1 a.2.2.2 = some r) ?_ ?_ u (p0, x5, List.replicate (Int.toNat x5) (0 : Int), 0) h (Le.of (mo := []) (mr := [(327681, 1835008)]) kr kr kr kr)
        · intro a h; unfold impl_BytesOf_l4 at h; cases h
        · rintro k_impl_BytesOf_l4 ⟨p0, x5, x11, x12⟩ h
          change impl_BytesOf_l4 u (k_impl_BytesOf_l4 + 1) p0 x5 x11 x12 = some r at h
          rw [impl_BytesOf_l4] at h
          refine Wp.srg [] [] ?_
          refine Runs.alln ?_
          refine Wp.fg ⟨[(0, .t (.int .i64 p0)), (2, .nil), (3, .t (.bool false)), (4, .t (.int .i64 x5)), (5, .own 327681), (30, .t (.int .i64 (((List.replicate (Int.toNat x5) (0 : Int)).length : Int)))), (31, .t (.int .i64 x12)), (32, .t (.bool (decide (x12 < (((List.replicate (Int.toNat x5) (0 : Int)).length : Int))))))], [], [(327681, .live 5 1 (x11.map (eInt .u8)))]⟩ ?_
          refine Wp.seq ?_
          refine Wp.cond2 (b := decide (x12 < (((List.replicate (Int.toNat x5) (0 : Int)).length : Int)))) kr (fun hc => ?_) (fun hc => ?_)
          · have h := cond_t h hc
            refine Wp.skip (thenN ?_)
            refine Wp.seq ?_
            refine Wp.block ?_
            refine Wp.srg [] [] ?_
            refine Runs.alln ?_
            refine Wp.fg ⟨[(0, .t (.int .i64 p0)), (2, .nil), (3, .t (.bool false)), (4, .t (.int .i64 x5)), (5, .own 327681), (6, .t (.int .i64 x12)), (30, .t (.int .i64 (((List.replicate (Int.toNat x5) (0 : Int)).length : Int)))), (31, .t (.int .i64 x12))], [], [(327681, .live 5 1 (x11.map (eInt .u8)))]⟩ ?_
            refine Wp.rg [] [] ?_
            refine Runs.batch 8 kr ?_
            obtain ⟨_, e_15, h⟩ := bind_some h
            refine Runs.num .shr (.int .i64 p0) (.int .i64 (bMul .i64 8 (bSub .i64 (bSub .i64 x5 1) x12))) (.int .i64 (bShr .i64 p0 (bMul .i64 8 (bSub .i64 (bSub .i64 x5 1) x12)))) rfl kr kr kr kr (bin_shr _ _ _ _ _ (chk_some e_15)) ?_
            refine Runs.batch 1 kr ?_
            obtain ⟨y16, e_y16, h⟩ := bind_some h
            refine Runs.idxO (e := 5) (e' := 5) (kk := .i64) (sz := 1) (eInt .u8) x11 x12 327681 rfl kr kr kr kr kr kr kr e_y16 ?_
            refine Runs.storeT (e := 5) (sz := 1) (m := 1) (eInt .u8) x11 327681 (Int.toNat x12) 0 (IntKind.wrap .u8 (bShr .i64 p0 (bMul .i64 8 (bSub .i64 (bSub .i64 x5 1) x12)))) (.t (.int .u8 (IntKind.wrap .u8 (bShr .i64 p0 (bMul .i64 8 (bSub .i64 (bSub .i64 x5 1) x12)))))) [.int .u8 (IntKind.wrap .u8 (bShr .i64 p0 (bMul .i64 8 (bSub .i64 (bSub .i64 x5 1) x12))))] rfl kr kr kr kr kr kr kr kr (idx_some e_y16).2 kr kr ?_
            refine Runs.done ?_
            refine blkN ?_
            refine thenN ?_
            refine Wp.rg [] [] ?_
            refine Runs.alln ?_
            exact ⟨(p0, x5, x11.set (Int.toNat x12) (IntKind.wrap .u8 (bShr .i64 p0 (bMul .i64 8 (bSub .i64 (bSub .i64 x5 1) x12)))), bAdd .i64 x12 1), h, Le.of (mo := []) (mr := []) kr kr kr kr⟩
          have h := cond_f h hc
          refine Wp.exit ?_
          refine thenE ?_
          refine thenE ?_
          refine blkE ?_
          refine thenN ?_
          exact ⟨x11, h, Le.of (mo := []) (mr := []) kr kr kr kr⟩
    · refine Wp.rg [] [] ?_
      refine Runs.batch 3 kr ?_
      rcases tf (decide (p0 < 1)) with hc | hc
      · have h := cond_t h hc
        refine Runs.known 20 (v := true) kr hc ?_
        refine Runs.alln ?_
        exact ⟨(p0, x5, true), h, Le.of (mo := []) (mr := []) kr kr kr kr⟩
      have h := cond_f h hc
      refine Runs.known 20 (v := false) kr hc ?_
      refine Runs.batch 3 kr ?_
      obtain ⟨_, e_6, h⟩ := bind_some h
      refine Runs.num .shr (.int .i64 p0) (.int .i64 (bMul .i64 8 x5)) (.int .i64 (bShr .i64 p0 (bMul .i64 8 x5))) rfl kr kr kr kr (bin_shr _ _ _ _ _ (chk_some e_6)) ?_
      refine Runs.alln ?_
      exact ⟨(p0, x5, (bShr .i64 p0 (bMul .i64 8 x5)) != 1), h, Le.of (mo := []) (mr := []) kr kr kr kr⟩
  · refine Wp.block ?_
    refine Wp.loopF (α := Int × Int) (fun a => ⟨[(0, .t (.int .i64 a.1)), (2, .nil), (3, .t (.bool false)), (4, .t (.int .i64 a.2))], [], []⟩) (fun k_impl_BytesOf_l5 a => impl_BytesOf_l5 u k_impl_BytesOf_l5 a.1 a.2 = some r) ?_ ?_ u (p0, 0) h (Le.of (mo := []) (mr := []) kr kr kr kr)
    · intro a h; unfold impl_BytesOf_l5 at h; cases h
    · rintro k_impl_BytesOf_l5 ⟨p0, x2⟩ h
      change impl_BytesOf_l5 u (k_impl_BytesOf_l5 + 1) p0 x2 = some r at h
      rw [impl_BytesOf_l5] at h
      refine Wp.seq ?_
      refine Wp.seqJ (α := Int × Int × Bool) (fun a => ⟨[(0, .t (.int .i64 a.1)), (2, .nil), (3, .t (.bool false)), (4, .t (.int .i64 a.2.1)), (15, .t (.bool a.2.2))], [], []⟩) (fun a => impl_BytesOf_j6 u (fun z0 z1 => impl_BytesOf_l5 u k_impl_BytesOf_l5 z0 z1) a.1 a.2.1 a.2.2 = some r) ?_ ?_
      · rintro ⟨p0, x2, x4⟩ h
        change impl_BytesOf_j6 u (fun z0 z1 => impl_BytesOf_l5 u k_impl_BytesOf_l5 z0 z1) p0 x2 x4 = some r at h
        unfold impl_BytesOf_j6 at h
        refine Wp.cond2 (b := x4) kr (fun hc => ?_) (fun hc => ?_)
        · have h := cond_t h hc
          refine Wp.skip (thenN ?_)
          refine Wp.block ?_
          refine Wp.rg [] [] ?_
          refine Runs.all kr ?_
          refine blkN ?_
          refine thenN ?_
          exact ⟨(p0, bAdd .i64 x2 1), h, Le.of (mo := []) (mr := []) kr kr kr kr⟩
        have h := cond_f h hc
        refine Wp.exit ?_
        refine thenE ?_
        refine thenE ?_
        refine blkE ?_
        refine thenN ?_
        exact ⟨(p0, x2), h, Le.of (mo := []) (mr := []) kr kr kr kr⟩
      · refine Wp.rg [] [] ?_
        refine Runs.batch 3 kr ?_
        rcases tf (decide (x2 < 6)) with hc | hc
        · have h := cond_t h hc
          refine Runs.known 9 (v := true) kr hc ?_
          refine Runs.batch 3 kr ?_
          obtain ⟨_, e_4, h⟩ := bind_some h
          refine Runs.num .shr (.int .i64 p0) (.int .i64 (bMul .i64 8 x2)) (.int .i64 (bShr .i64 p0 (bMul .i64 8 x2))) rfl kr kr kr kr (bin_shr _ _ _ _ _ (chk_some e_4)) ?_
          refine Runs.alln ?_
          exact ⟨(p0, x2, decide ((bShr .i64 p0 (bMul .i64 8 x2)) > 1)), h, Le.of (mo := []) (mr := []) kr kr kr kr⟩
        have h := cond_f h hc
        refine Runs.known 9 (v := false) kr hc ?_
        refine Runs.alln ?_
        exact ⟨(p0, x2, false), h, Le.of (mo := []) (mr := []) kr kr kr kr⟩
theorem impl_Wrap_ok (u : Nat) (p0 : Int) (p1 : Int) (r : Int) (h : impl_Wrap u p0 p1 = some r) : CallOK Tryz.prog 252 [.one (.t (.int .i64 p0)), .one (.t (.int .i64 p1))] (.one (.t (.int .i64 r))) [] := by
  unfold impl_Wrap at h
  refine CallOK.of_bodyK (fn := Tryz.f252) (m := false) [.t (.int .i64 p0), .t (.int .i64 p1)] kr rfl kr kr kr kr kr ?_
  refine Wp.srg [] [] ?_
  refine Runs.alln ?_
  refine Wp.fg ⟨[(0, .t (.int .i64 p0)), (1, .t (.int .i64 p1)), (4, .t (.int .i64 0))], [], []⟩ ?_
  refine Wp.seq ?_
  refine Wp.srg [] [] ?_
  refine Runs.batch 1 kr ?_
  obtain ⟨r1, e_r1, h⟩ := bind_some h
  refine Runs.callK false 6 58 [] [.t (.int .i64 p1), .t (.int .i64 1), .t (.int .i64 1000000000000)] _ _ _ rfl rfl kr kr kr kr kr (impl_within_ok u p1 1 1000000000000 r1 e_r1) kr ?_
  refine Runs.alln ?_
  refine Wp.fg ⟨[(0, .t (.int .i64 p0)), (1, .t (.int .i64 p1)), (4, .t (.int .i64 0)), (7, .t (.bool (!r1)))], [], []⟩ ?_
  refine Wp.cond2 (b := !r1) kr (fun hc => ?_) (fun hc => ?_)
  · have h := cond_t h hc
    refine Wp.srg [] [] ?_
    refine Runs.alln ?_
    refine Wp.fg ⟨[(0, .t (.int .i64 p0)), (1, .t (.int .i64 p1)), (4, .t (.int .i64 0))], [], []⟩ ?_
    refine Wp.ret ?_
    refine thenR ?_
    obtain rfl := Option.some.inj h
    exact RetK [.t (.int .i64 0)] _ [] kr kr (.refl _) .nil
  have h := cond_f h hc
  refine Wp.skip (thenN ?_)
  refine Wp.srg [] [] ?_
  refine Runs.batch 2 kr ?_
  obtain ⟨_, e_2, h⟩ := bind_some h
  refine Runs.num .rem (.int .i64 p0) (.int .i64 p1) (.int .i64 (bRem .i64 p0 p1)) rfl kr kr kr kr (bin_rem _ _ _ _ (by simpa using chk_some e_2)) ?_
  refine Runs.batch 3 kr ?_
  obtain ⟨_, e_3, h⟩ := bind_some h
  refine Runs.num .rem (.int .i64 (bAdd .i64 (bRem .i64 p0 p1) p1)) (.int .i64 p1) (.int .i64 (bRem .i64 (bAdd .i64 (bRem .i64 p0 p1) p1) p1)) rfl kr kr kr kr (bin_rem _ _ _ _ (by simpa using chk_some e_3)) ?_
  refine Runs.alln ?_
  refine Wp.fg ⟨[(4, .t (.int .i64 (bRem .i64 (bAdd .i64 (bRem .i64 p0 p1) p1) p1)))], [], []⟩ ?_
  refine Wp.ret ?_
  obtain rfl := Option.some.inj h
  exact RetK [.t (.int .i64 (bRem .i64 (bAdd .i64 (bRem .i64 p0 p1) p1) p1))] _ [] kr kr (.refl _) .nil
theorem impl_weak_ok (u : Nat) (p0 : Int) (p1 : Int) (r : Int) (h : impl_weak u p0 p1 = some r) : CallOK Tryz.prog 210 [.one (.t (.int .i64 p0)), .one (.t (.int .i64 p1))] (.one (.t (.int .i64 r))) [] := by
  unfold impl_weak at h
  refine CallOK.of_bodyK (fn := Tryz.f210) (m := false) [.t (.int .i64 p0), .t (.int .i64 p1)] kr rfl kr kr kr kr kr ?_
  refine Wp.srg [] [] ?_
  refine Runs.alln ?_
  refine Wp.fg ⟨[(0, .t (.int .i64 p0)), (1, .t (.int .i64 p1)), (4, .t (.int .i64 0))], [], []⟩ ?_
  refine Wp.srg [] [] ?_
  refine Runs.batch 1 kr ?_
  obtain ⟨r1, e_r1, h⟩ := bind_some h
  refine Runs.callK false 6 252 [] [.t (.int .i64 p0), .t (.int .i64 251)] _ _ _ rfl rfl kr kr kr kr kr (impl_Wrap_ok u p0 251 r1 e_r1) kr ?_
  refine Runs.batch 1 kr ?_
  obtain ⟨r2, e_r2, h⟩ := bind_some h
  refine Runs.callK false 8 252 [] [.t (.int .i64 p1), .t (.int .i64 251)] _ _ _ rfl rfl kr kr kr kr kr (impl_Wrap_ok u p1 251 r2 e_r2) kr ?_
  refine Runs.alln ?_
  refine Wp.fg ⟨[(4, .t (.int .i64 (bAdd .i64 r1 (bMul .i64 251 r2))))], [], []⟩ ?_
  refine Wp.ret ?_
  obtain rfl := Option.some.inj h
  exact RetK [.t (.int .i64 (bAdd .i64 r1 (bMul .i64 251 r2)))] _ [] kr kr (.refl _) .nil
theorem impl_WeakOf_ok (u : Nat) (p0 : List Int) (r : Int) (h : impl_WeakOf u p0 = some r) : CallOK Tryz.prog 149 [.one (.t (.sl 1 (p0.map (eInt .u8))))] (.one (.t (.int .i64 r))) [] := by
  unfold impl_WeakOf at h
  refine CallOK.of_bodyK (fn := Tryz.f149) (m := false) [.t (.sl 1 (p0.map (eInt .u8)))] kr rfl kr kr kr kr kr ?_
  refine Wp.srg [] [] ?_
  refine Runs.alln ?_
  refine Wp.fg ⟨[(0, .t (.sl 1 (p0.map (eInt .u8)))), (2, .t (.int .i64 0))], [], []⟩ ?_
  refine Wp.srg [] [] ?_
  refine Runs.alln ?_
  refine Wp.fg ⟨[(0, .t (.sl 1 (p0.map (eInt .u8)))), (2, .t (.int .i64 0)), (3, .t (.int .i64 0)), (4, .t (.int .i64 0))], [], []⟩ ?_
  refine Wp.seqJ (α := Int × Int) (fun a => ⟨[(2, .t (.int .i64 0)), (3, .t (.int .i64 a.1)), (4, .t (.int .i64 a.2))], [], []⟩) (fun a => impl_WeakOf_j1 u a.1 a.2 = some r) ?_ ?_
  · rintro ⟨x11, x12⟩ h
    change impl_WeakOf_j1 u x11 x12 = some r at h
    unfold impl_WeakOf_j1 at h
    refine Wp.srg [] [] ?_
    refine Runs.batch 2 kr ?_
    obtain ⟨r13, e_r13, h⟩ := bind_some h
    refine Runs.callK false 25 210 [] [.t (.int .i64 x11), .t (.int .i64 x12)] _ _ _ rfl rfl kr kr kr kr kr (impl_weak_ok u x11 x12 r13 e_r13) kr ?_
    refine Runs.alln ?_
    refine Wp.fg ⟨[(2, .t (.int .i64 r13))], [], []⟩ ?_
    refine Wp.ret ?_
    obtain rfl := Option.some.inj h
    exact RetK [.t (.int .i64 r13)] _ [] kr kr (.refl _) .nil
  · refine Wp.srg [] [] ?_
    refine Runs.batch 1 kr ?_
    refine Runs.lenT (y := .t (.sl 1 (p0.map (eInt .u8)))) (e := 5) (eInt .u8) p0 1 rfl rfl rfl kr kr kr kr kr ?_
    refine Runs.alln ?_
    refine Wp.fg ⟨[(2, .t (.int .i64 0)), (3, .t (.int .i64 0)), (4, .t (.int .i64 0)), (7, .t (.sl 1 (p0.map (eInt .u8)))), (8, .t (.int .i64 ((p0.length : Int)))), (9, .t (.int .i64 0))], [], []⟩ ?_
    refine Wp.block ?_
    refine Wp.loopF (α := Int × Int × (List Int) × Int) (fun a => ⟨[(2, .t (.int .i64 0)), (3, .t (.int .i64 a.1)), (4, .t (.int .i64 a.2.1)), (7, .t (.sl 1 (a.2.2.1.map (eInt .u8)))), (8, .t (.int .i64 ((a.2.2.1.length : Int)))), (9, .t (.int .i64 a.2.2.2))], [], []⟩) (fun k_impl_WeakOf_l2 a => impl_WeakOf_l2 u k_impl_WeakOf_l2 a.1 a.2.1 a.2.2.1 a.2.2.2 = some r) ?_ ?_ u (0, 0, p0, 0) h (Le.of (mo := []) (mr := []) kr kr kr kr)
    · intro a h; unfold impl_WeakOf_l2 at h; cases h
    · rintro k_impl_WeakOf_l2 ⟨x4, x5, p0, x6⟩ h
      change impl_WeakOf_l2 u (k_impl_WeakOf_l2 + 1) x4 x5 p0 x6 = some r at h
      rw [impl_WeakOf_l2] at h
      refine Wp.srg [] [] ?_
      refine Runs.alln ?_
      refine Wp.fg ⟨[(2, .t (.int .i64 0)), (3, .t (.int .i64 x4)), (4, .t (.int .i64 x5)), (7, .t (.sl 1 (p0.map (eInt .u8)))), (8, .t (.int .i64 ((p0.length : Int)))), (9, .t (.int .i64 x6)), (10, .t (.bool (decide (x6 < ((p0.length : Int))))))], [], []⟩ ?_
      refine Wp.seq ?_
      refine Wp.cond2 (b := decide (x6 < ((p0.length : Int)))) kr (fun hc => ?_) (fun hc => ?_)
      · have h := cond_t h hc
        refine Wp.skip (thenN ?_)
        refine Wp.seq ?_
        refine Wp.block ?_
        refine Wp.srg [] [] ?_
        obtain ⟨y10, e_y10, h⟩ := bind_some h
        refine Runs.idxT (e := 5) (kk := .i64) (sz := 1) (eInt .u8) p0 x6 rfl kr kr kr kr kr kr e_y10 ?_
        refine Runs.alln ?_
        refine Wp.fg ⟨[(2, .t (.int .i64 0)), (3, .t (.int .i64 x4)), (4, .t (.int .i64 x5)), (6, .t (.int .u8 y10)), (7, .t (.sl 1 (p0.map (eInt .u8)))), (8, .t (.int .i64 ((p0.length : Int)))), (9, .t (.int .i64 x6))], [], []⟩ ?_
        refine Wp.srg [] [] ?_
        refine Runs.alln ?_
        refine Wp.fg ⟨[(2, .t (.int .i64 0)), (3, .t (.int .i64 (bRem .i64 (bAdd .i64 x4 (IntKind.wrap .i64 y10)) 251))), (4, .t (.int .i64 x5)), (7, .t (.sl 1 (p0.map (eInt .u8)))), (8, .t (.int .i64 ((p0.length : Int)))), (9, .t (.int .i64 x6))], [], []⟩ ?_
        refine Wp.rg [] [] ?_
        refine Runs.all kr ?_
        refine blkN ?_
        refine thenN ?_
        refine Wp.rg [] [] ?_
        refine Runs.alln ?_
        exact ⟨(bRem .i64 (bAdd .i64 x4 (IntKind.wrap .i64 y10)) 251, bRem .i64 (bAdd .i64 x5 (bRem .i64 (bAdd .i64 x4 (IntKind.wrap .i64 y10)) 251)) 251, p0, bAdd .i64 x6 1), h, Le.of (mo := []) (mr := []) kr kr kr kr⟩
      have h := cond_f h hc
      refine Wp.exit ?_
      refine thenE ?_
      refine thenE ?_
      refine blkE ?_
      refine thenN ?_
      exact ⟨(x4, x5), h, Le.of (mo := []) (mr := []) kr kr kr kr⟩
theorem impl_SumOf_ok (u : Nat) (p0 : List Int) (r : Sum) (h : impl_SumOf u p0 = some r) : CallOK Tryz.prog 205 [.one (.t (.sl 1 (p0.map (eInt .u8))))] (.agg [.t (.int .i64 r.fW), .t (.int .i64 r.fS)]) [] := by
  unfold impl_SumOf at h
  refine CallOK.of_bodyK (fn := Tryz.f205) (m := false) [.t (.sl 1 (p0.map (eInt .u8)))] kr rfl kr kr kr kr kr ?_
  refine Wp.srg [] [] ?_
  refine Runs.alln ?_
  refine Wp.fg ⟨[(0, .t (.sl 1 (p0.map (eInt .u8)))), (2, .obj 2 0)], [(2, [.t (.int .i64 0), .t (.int .i64 0)])], []⟩ ?_
  refine Wp.seq ?_
  refine Wp.srg [] [] ?_
  refine Runs.batch 1 kr ?_
  refine Runs.lenT (y := .t (.sl 1 (p0.map (eInt .u8)))) (e := 5) (eInt .u8) p0 1 rfl rfl rfl kr kr kr kr kr ?_
  refine Runs.alln ?_
  refine Wp.fg ⟨[(0, .t (.sl 1 (p0.map (eInt .u8)))), (2, .obj 2 0), (8, .t (.bool (decide (((p0.length : Int)) > 6))))], [(2, [.t (.int .i64 0), .t (.int .i64 0)])], []⟩ ?_
  refine Wp.cond2 (b := decide (((p0.length : Int)) > 6)) kr (fun hc => ?_) (fun hc => ?_)
  · have h := cond_t h hc
    refine Wp.srg [] [] ?_
    refine Runs.alln ?_
    refine Wp.fg ⟨[(0, .t (.sl 1 (p0.map (eInt .u8)))), (2, .obj 2 0)], [(2, [.t (.int .i64 0), .t (.int .i64 0)])], []⟩ ?_
    refine Wp.ret ?_
    refine thenR ?_
    obtain rfl := Option.some.inj h
    exact RetK [.agg [.t (.int .i64 0), .t (.int .i64 0)]] _ [] kr kr (.refl _) .nil
  have h := cond_f h hc
  refine Wp.skip (thenN ?_)
  refine Wp.srg [] [] ?_
  refine Runs.alln ?_
  refine Wp.fg ⟨[(0, .t (.sl 1 (p0.map (eInt .u8)))), (2, .obj 2 0), (3, .t (.int .i64 1))], [(2, [.t (.int .i64 0), .t (.int .i64 0)])], []⟩ ?_
  refine Wp.seqJ (α := (List Int) × Int) (fun a => ⟨[(0, .t (.sl 1 (a.1.map (eInt .u8)))), (2, .obj 2 0), (3, .t (.int .i64 a.2))], [(2, [.t (.int .i64 0), .t (.int .i64 0)])], []⟩) (fun a => impl_SumOf_j1 u a.1 a.2 = some r) ?_ ?_
  · rintro ⟨p0, x8⟩ h
    change impl_SumOf_j1 u p0 x8 = some r at h
    unfold impl_SumOf_j1 at h
    refine Wp.srg [] [] ?_
    refine Runs.batch 1 kr ?_
    obtain ⟨r9, e_r9, h⟩ := bind_some h
    refine Runs.callK false 23 149 [] [.t (.sl 1 (p0.map (eInt .u8)))] _ _ _ rfl rfl kr kr kr kr kr (impl_WeakOf_ok u p0 r9 e_r9) kr ?_
    refine Runs.alln ?_
    refine Wp.fg ⟨[(2, .obj 2 0)], [(2, [.t (.int .i64 r9), .t (.int .i64 x8)])], []⟩ ?_
    refine Wp.ret ?_
    obtain rfl := Option.some.inj h
    exact RetK [.agg [.t (.int .i64 r9), .t (.int .i64 x8)]] _ [] kr kr (.refl _) .nil
  · refine Wp.srg [] [] ?_
    refine Runs.batch 1 kr ?_
    refine Runs.lenT (y := .t (.sl 1 (p0.map (eInt .u8)))) (e := 5) (eInt .u8) p0 1 rfl rfl rfl kr kr kr kr kr ?_
    refine Runs.alln ?_
    refine Wp.fg ⟨[(0, .t (.sl 1 (p0.map (eInt .u8)))), (2, .obj 2 0), (3, .t (.int .i64 1)), (10, .t (.sl 1 (p0.map (eInt .u8)))), (11, .t (.int .i64 ((p0.length : Int)))), (12, .t (.int .i64 0))], [(2, [.t (.int .i64 0), .t (.int .i64 0)])], []⟩ ?_
    refine Wp.block ?_
    refine Wp.loopF (α := (List Int) × Int × Int) (fun a => ⟨[(0, .t (.sl 1 (a.1.map (eInt .u8)))), (2, .obj 2 0), (3, .t (.int .i64 a.2.1)), (10, .t (.sl 1 (a.1.map (eInt .u8)))), (11, .t (.int .i64 ((a.1.length : Int)))), (12, .t (.int .i64 a.2.2))], [(2, [.t (.int .i64 0), .t (.int .i64 0)])], []⟩) (fun k_impl_SumOf_l2 a => impl_SumOf_l2 u k_impl_SumOf_l2 a.1 a.2.1 a.2.2 = some r) ?_ ?_ u (p0, 1, 0) h (Le.of (mo := []) (mr := []) kr kr kr kr)
    · intro a h; unfold impl_SumOf_l2 at h; cases h
    · rintro k_impl_SumOf_l2 ⟨p0, x3, x4⟩ h
      change impl_SumOf_l2 u (k_impl_SumOf_l2 + 1) p0 x3 x4 = some r at h
      rw [impl_SumOf_l2] at h
      refine Wp.srg [] [] ?_
      refine Runs.alln ?_
      refine Wp.fg ⟨[(0, .t (.sl 1 (p0.map (eInt .u8)))), (2, .obj 2 0), (3, .t (.int .i64 x3)), (10, .t (.sl 1 (p0.map (eInt .u8)))), (11, .t (.int .i64 ((p0.length : Int)))), (12, .t (.int .i64 x4)), (13, .t (.bool (decide (x4 < ((p0.length : Int))))))], [(2, [.t (.int .i64 0), .t (.int .i64 0)])], []⟩ ?_
      refine Wp.seq ?_
      refine Wp.cond2 (b := decide (x4 < ((p0.length : Int)))) kr (fun hc => ?_) (fun hc => ?_)
      · have h := cond_t h hc
        refine Wp.skip (thenN ?_)
        refine Wp.seq ?_
        refine Wp.block ?_
        refine Wp.srg [] [] ?_
        obtain ⟨y7, e_y7, h⟩ := bind_some h
        refine Runs.idxT (e := 5) (kk := .i64) (sz := 1) (eInt .u8) p0 x4 rfl kr kr kr kr kr kr e_y7 ?_
        refine Runs.alln ?_
        refine Wp.fg ⟨[(0, .t (.sl 1 (p0.map (eInt .u8)))), (2, .obj 2 0), (3, .t (.int .i64 x3)), (5, .t (.int .u8 y7)), (10, .t (.sl 1 (p0.map (eInt .u8)))), (11, .t (.int .i64 ((p0.length : Int)))), (12, .t (.int .i64 x4))], [(2, [.t (.int .i64 0), .t (.int .i64 0)])], []⟩ ?_
        refine Wp.rg [] [] ?_
        refine Runs.all kr ?_
        refine blkN ?_
        refine thenN ?_
        refine Wp.rg [] [] ?_
        refine Runs.alln ?_
        exact ⟨(p0, bOr .i64 (bShl .i64 x3 8) (IntKind.wrap .i64 y7), bAdd .i64 x4 1), h, Le.of (mo := []) (mr := []) kr kr kr kr⟩
      have h := cond_f h hc
      refine Wp.exit ?_
      refine thenE ?_
      refine thenE ?_
      refine blkE ?_
      refine thenN ?_
      exact ⟨(p0, x3), h, Le.of (mo := []) (mr := []) kr kr kr kr⟩
theorem impl_isZeroMan_ok (u : Nat) (p0 : Manifest) (r : Bool) (h : impl_isZeroMan u p0 = some r) : CallOK Tryz.prog 207 [.agg [.t (.int .i64 p0.fGen), .t (.int .i64 p0.fSize), .t (.int .i64 p0.fLen), .t (.sl 2 (p0.fSums.map Sum.enc))]] (.one (.t (.bool r))) [] := by
  unfold impl_isZeroMan at h
  refine CallOK.of_bodyK (fn := Tryz.f207) (m := false) [.agg ((Manifest.enc p0).map .t)] kr rfl kr kr kr kr kr ?_
  refine Wp.srg [] [] ?_
  refine Runs.alln ?_
  refine Wp.fg ⟨[(1, .obj 1 0), (2, .t (.bool false))], [(1, ((Manifest.enc p0).map .t))], []⟩ ?_
  refine Wp.srg [] [] ?_
  refine Runs.batch 4 kr ?_
  rcases tf (p0.fGen == 0) with hc | hc
  · have h := cond_t h hc
    refine Runs.known 6 (v := true) kr hc ?_
    refine Runs.batch 5 kr ?_
    rcases tf (p0.fSize == 0) with hc | hc
    · have h := cond_t h hc
      refine Runs.known 11 (v := true) kr hc ?_
      refine Runs.batch 5 kr ?_
      rcases tf (p0.fLen == 0) with hc | hc
      · have h := cond_t h hc
        refine Runs.known 16 (v := true) kr hc ?_
        refine Runs.batch 2 kr ?_
        refine Runs.lenT (y := .t (.sl 2 (p0.fSums.map Sum.enc))) (e := 220) Sum.enc p0.fSums 2 rfl rfl rfl kr kr kr kr kr ?_
        refine Runs.alln ?_
        refine Wp.fg ⟨[(2, .t (.bool (((p0.fSums.length : Int)) == 0)))], [], []⟩ ?_
        refine Wp.ret ?_
        obtain rfl := Option.some.inj h
        exact RetK [.t (.bool (((p0.fSums.length : Int)) == 0))] _ [] kr kr (.refl _) .nil
      have h := cond_f h hc
      refine Runs.known 16 (v := false) kr hc ?_
      refine Runs.alln ?_
      refine Wp.fg ⟨[(2, .t (.bool false))], [], []⟩ ?_
      refine Wp.ret ?_
      obtain rfl := Option.some.inj h
      exact RetK [.t (.bool false)] _ [] kr kr (.refl _) .nil
    have h := cond_f h hc
    refine Runs.known 11 (v := false) kr hc ?_
    refine Runs.alln ?_
    refine Wp.fg ⟨[(2, .t (.bool false))], [], []⟩ ?_
    refine Wp.ret ?_
    obtain rfl := Option.some.inj h
    exact RetK [.t (.bool false)] _ [] kr kr (.refl _) .nil
  have h := cond_f h hc
  refine Runs.known 6 (v := false) kr hc ?_
  refine Runs.alln ?_
  refine Wp.fg ⟨[(2, .t (.bool false))], [], []⟩ ?_
  refine Wp.ret ?_
  obtain rfl := Option.some.inj h
  exact RetK [.t (.bool false)] _ [] kr kr (.refl _) .nil
theorem impl_SpanOf_ok (u : Nat) (p0 : Int) (p1 : Int) (p2 : Int) (r : Int × Int) (h : impl_SpanOf u p0 p1 p2 = some r) : CallOK Tryz.prog 125 [.one (.t (.int .i64 p0)), .one (.t (.int .i64 p1)), .one (.t (.int .i64 p2))] (.tup [.one (.t (.int .i64 r.1)), .one (.t (.int .i64 r.2))]) [] := by
  unfold impl_SpanOf at h
  refine CallOK.of_bodyK (fn := Tryz.f125) (m := false) [.t (.int .i64 p0), .t (.int .i64 p1), .t (.int .i64 p2)] kr rfl kr kr kr kr kr ?_
  refine Wp.srg [] [] ?_
  refine Runs.alln ?_
  refine Wp.fg ⟨[(0, .t (.int .i64 p0)), (1, .t (.int .i64 p1)), (2, .t (.int .i64 p2)), (6, .t (.int .i64 0)), (7, .t (.int .i64 0))], [], []⟩ ?_
  refine Wp.seq ?_
  refine Wp.srg [] [] ?_
  refine Runs.batch 3 kr ?_
  obtain ⟨r1, e_r1, h⟩ := bind_some h
  refine Runs.callK false 11 196 [] [.t (.int .i64 p0), .t (.int .i64 p1)] _ _ _ rfl rfl kr kr kr kr kr (impl_Blocks_ok u p0 p1 r1 e_r1) kr ?_
  refine Runs.batch 1 kr ?_
  obtain ⟨r2, e_r2, h⟩ := bind_some h
  refine Runs.callK false 13 58 [] [.t (.int .i64 p2), .t (.int .i64 0), .t (.int .i64 (bSub .i64 r1 1))] _ _ _ rfl rfl kr kr kr kr kr (impl_within_ok u p2 0 (bSub .i64 r1 1) r2 e_r2) kr ?_
  refine Runs.alln ?_
  refine Wp.fg ⟨[(0, .t (.int .i64 p0)), (1, .t (.int .i64 p1)), (2, .t (.int .i64 p2)), (6, .t (.int .i64 0)), (7, .t (.int .i64 0)), (14, .t (.bool (!r2)))], [], []⟩ ?_
  refine Wp.cond2 (b := !r2) kr (fun hc => ?_) (fun hc => ?_)
  · have h := cond_t h hc
    refine Wp.srg [] [] ?_
    refine Runs.alln ?_
    refine Wp.fg ⟨[(0, .t (.int .i64 p0)), (1, .t (.int .i64 p1)), (2, .t (.int .i64 p2)), (6, .t (.int .i64 0)), (7, .t (.int .i64 0))], [], []⟩ ?_
    refine Wp.ret ?_
    refine thenR ?_
    obtain rfl := Option.some.inj h
    exact RetK [.t (.int .i64 0), .t (.int .i64 0)] _ [] kr kr (.refl _) .nil
  have h := cond_f h hc
  refine Wp.skip (thenN ?_)
  refine Wp.srg [] [] ?_
  refine Runs.alln ?_
  refine Wp.fg ⟨[(6, .t (.int .i64 (bMul .i64 p2 p0))), (7, .t (.int .i64 (if (bSub .i64 p1 (bMul .i64 p2 p0)) < p0 then (bSub .i64 p1 (bMul .i64 p2 p0)) else p0)))], [], []⟩ ?_
  refine Wp.ret ?_
  obtain rfl := Option.some.inj h
  exact RetK [.t (.int .i64 (bMul .i64 p2 p0)), .t (.int .i64 (if (bSub .i64 p1 (bMul .i64 p2 p0)) < p0 then (bSub .i64 p1 (bMul .i64 p2 p0)) else p0))] _ [] kr kr (.refl _) .nil
theorem impl_ManOk_ok (u : Nat) (p0 : Manifest) (r : Bool) (h : impl_ManOk u p0 = some r) : CallOK Tryz.prog 140 [.agg [.t (.int .i64 p0.fGen), .t (.int .i64 p0.fSize), .t (.int .i64 p0.fLen), .t (.sl 2 (p0.fSums.map Sum.enc))]] (.one (.t (.bool r))) [] := by
  unfold impl_ManOk at h
  refine CallOK.of_bodyK (fn := Tryz.f140) (m := false) [.agg ((Manifest.enc p0).map .t)] kr rfl kr kr kr kr kr ?_
  refine Wp.srg [] [] ?_
  refine Runs.alln ?_
  refine Wp.fg ⟨[(1, .obj 1 0), (2, .t (.bool false))], [(1, ((Manifest.enc p0).map .t))], []⟩ ?_
  refine Wp.seq ?_
  refine Wp.srg [] [] ?_
  refine Runs.batch 1 kr ?_
  obtain ⟨r1, e_r1, h⟩ := bind_some h
  refine Runs.callK false 10 207 [] [.agg ((Manifest.enc p0).map .t)] _ _ _ rfl rfl kr kr kr kr kr (impl_isZeroMan_ok u p0 r1 e_r1) kr ?_
  refine Runs.done ?_
  refine thenN ?_
  refine Wp.fg ⟨[(1, .obj 1 0), (2, .t (.bool false)), (10, .t (.bool r1))], [(1, ((Manifest.enc p0).map .t))], []⟩ ?_
  refine Wp.cond2 (b := r1) kr (fun hc => ?_) (fun hc => ?_)
  · have h := cond_t h hc
    refine Wp.srg [] [] ?_
    refine Runs.alln ?_
    refine Wp.fg ⟨[(1, .obj 1 0), (2, .t (.bool true))], [(1, ((Manifest.enc p0).map .t))], []⟩ ?_
    refine Wp.ret ?_
    refine thenR ?_
    obtain rfl := Option.some.inj h
    exact RetK [.t (.bool true)] _ [] kr kr (.refl _) .nil
  have h := cond_f h hc
  refine Wp.skip (thenN ?_)
  refine Wp.seq ?_
  refine Wp.seqJ (α := Bool × Manifest) (fun a => ⟨[(1, .obj 1 0), (2, .t (.bool false)), (33, .t (.bool a.1))], [(1, ((Manifest.enc a.2).map .t))], []⟩) (fun a => impl_ManOk_j1 u a.1 a.2 = some r) ?_ ?_
  · rintro ⟨x5, p0⟩ h
    change impl_ManOk_j1 u x5 p0 = some r at h
    unfold impl_ManOk_j1 at h
    refine Wp.cond2 (b := x5) kr (fun hc => ?_) (fun hc => ?_)
    · have h := cond_t h hc
      refine Wp.srg [] [] ?_
      refine Runs.alln ?_
      refine Wp.fg ⟨[(1, .obj 1 0), (2, .t (.bool false))], [(1, ((Manifest.enc p0).map .t))], []⟩ ?_
      refine Wp.ret ?_
      refine thenR ?_
      obtain rfl := Option.some.inj h
      exact RetK [.t (.bool false)] _ [] kr kr (.refl _) .nil
    have h := cond_f h hc
    refine Wp.skip (thenN ?_)
    refine Wp.seqJ (α := Unit) (fun a => ⟨[(2, .t (.bool false))], [], []⟩) (fun a => impl_ManOk_j2 u = some r) ?_ ?_
    · rintro ⟨⟩ h
      change impl_ManOk_j2 u = some r at h
      unfold impl_ManOk_j2 at h
      refine Wp.srg [] [] ?_
      refine Runs.alln ?_
      refine Wp.fg ⟨[(2, .t (.bool true))], [], []⟩ ?_
      refine Wp.ret ?_
      obtain rfl := Option.some.inj h
      exact RetK [.t (.bool true)] _ [] kr kr (.refl _) .nil
    · refine Wp.srg [] [] ?_
      refine Runs.batch 2 kr ?_
      refine Runs.lenT (y := .t (.sl 2 (p0.fSums.map Sum.enc))) (e := 220) Sum.enc p0.fSums 2 rfl rfl rfl kr kr kr kr kr ?_
      refine Runs.alln ?_
      refine Wp.fg ⟨[(1, .obj 1 0), (2, .t (.bool false)), (35, .t (.sl 2 (p0.fSums.map Sum.enc))), (36, .t (.int .i64 ((p0.fSums.length : Int)))), (37, .t (.int .i64 0))], [(1, ((Manifest.enc p0).map .t))], []⟩ ?_
      refine Wp.block ?_
      refine Wp.loopF (α := Manifest × Int) (fun a => ⟨[(1, .obj 1 0), (2, .t (.bool false)), (35, .t (.sl 2 (a.1.fSums.map Sum.enc))), (36, .t (.int .i64 ((a.1.fSums.length : Int)))), (37, .t (.int .i64 a.2))], [(1, ((Manifest.enc a.1).map .t))], []⟩) (fun k_impl_ManOk_l3 a => impl_ManOk_l3 u k_impl_ManOk_l3 a.1 a.2 = some r) ?_ ?_ u (p0, 0) h (Le.of (mo := []) (mr := []) kr kr kr kr)
      · intro a h; unfold impl_ManOk_l3 at h; cases h
      · rintro k_impl_ManOk_l3 ⟨p0, x7⟩ h
        change impl_ManOk_l3 u (k_impl_ManOk_l3 + 1) p0 x7 = some r at h
        rw [impl_ManOk_l3] at h
        refine Wp.srg [] [] ?_
        refine Runs.alln ?_
        refine Wp.fg ⟨[(1, .obj 1 0), (2, .t (.bool false)), (35, .t (.sl 2 (p0.fSums.map Sum.enc))), (36, .t (.int .i64 ((p0.fSums.length : Int)))), (37, .t (.int .i64 x7)), (38, .t (.bool (decide (x7 < ((p0.fSums.length : Int))))))], [(1, ((Manifest.enc p0).map .t))], []⟩ ?_
        refine Wp.seq ?_
        refine Wp.cond2 (b := decide (x7 < ((p0.fSums.length : Int)))) kr (fun hc => ?_) (fun hc => ?_)
        · have h := cond_t h hc
          refine Wp.skip (thenN ?_)
          refine Wp.seq ?_
          refine Wp.block ?_
          refine Wp.srg [] [] ?_
          refine Runs.batch 1 kr ?_
          obtain ⟨y9, e_y9, h⟩ := bind_some h
          refine Runs.idxT (e := 220) (kk := .i64) (sz := 2) Sum.enc p0.fSums x7 rfl kr kr kr kr kr kr e_y9 ?_
          refine Runs.alln ?_
          refine Wp.fg ⟨[(1, .obj 1 0), (2, .t (.bool false)), (3, .t (.int .i64 x7)), (4, .obj 4 0), (35, .t (.sl 2 (p0.fSums.map Sum.enc))), (36, .t (.int .i64 ((p0.fSums.length : Int)))), (37, .t (.int .i64 x7))], [(1, ((Manifest.enc p0).map .t)), (4, [.t (.int .i64 y9.fW), .t (.int .i64 y9.fS)])], []⟩ ?_
          refine Wp.srg [] [] ?_
          refine Runs.batch 2 kr ?_
          obtain ⟨r10, e_r10, h⟩ := bind_some h
          refine Runs.callK false 45 204 [] [.t (.int .i64 y9.fS)] _ _ _ rfl rfl kr kr kr kr kr (impl_BytesOf_ok u y9.fS r10 e_r10) kr ?_
          refine Runs.alln ?_
          refine Wp.fg ⟨[(1, .obj 1 0), (2, .t (.bool false)), (3, .t (.int .i64 x7)), (4, .obj 4 0), (5, .own 2949120), (6, .t (.bool r10.2)), (35, .t (.sl 2 (p0.fSums.map Sum.enc))), (36, .t (.int .i64 ((p0.fSums.length : Int)))), (37, .t (.int .i64 x7))], [(1, ((Manifest.enc p0).map .t)), (4, [.t (.int .i64 y9.fW), .t (.int .i64 y9.fS)])], [(2949120, .live 5 1 (r10.1.map (eInt .u8)))]⟩ ?_
          refine Wp.srg [] [] ?_
          refine Runs.batch 5 kr ?_
          obtain ⟨r11, e_r11, h⟩ := bind_some h
          refine Runs.callK false 54 125 [] [.t (.int .i64 p0.fSize), .t (.int .i64 p0.fLen), .t (.int .i64 x7)] _ _ _ rfl rfl kr kr kr kr kr (impl_SpanOf_ok u p0.fSize p0.fLen x7 r11 e_r11) kr ?_
          refine Runs.alln ?_
          refine Wp.fg ⟨[(1, .obj 1 0), (2, .t (.bool false)), (4, .obj 4 0), (5, .own 2949120), (6, .t (.bool r10.2)), (8, .t (.int .i64 r11.2)), (35, .t (.sl 2 (p0.fSums.map Sum.enc))), (36, .t (.int .i64 ((p0.fSums.length : Int)))), (37, .t (.int .i64 x7))], [(1, ((Manifest.enc p0).map .t)), (4, [.t (.int .i64 y9.fW), .t (.int .i64 y9.fS)])], [(2949120, .live 5 1 (r10.1.map (eInt .u8)))]⟩ ?_
          refine Wp.seqJ (α := Manifest × Int × Bool) (fun a => ⟨[(1, .obj 1 0), (2, .t (.bool false)), (35, .t (.sl 2 (a.1.fSums.map Sum.enc))), (36, .t (.int .i64 ((a.1.fSums.length : Int)))), (37, .t (.int .i64 a.2.1)), (71, .t (.bool a.2.2))], [(1, ((Manifest.enc a.1).map .t))], []⟩) (fun a => impl_ManOk_j4 u (fun z0 z1 => impl_ManOk_l3 u k_impl_ManOk_l3 z0 z1) a.1 a.2.1 a.2.2 = some r) ?_ ?_
          · rintro ⟨p0, x7, x13⟩ h
            change impl_ManOk_j4 u (fun z0 z1 => impl_ManOk_l3 u k_impl_ManOk_l3 z0 z1) p0 x7 x13 = some r at h
            unfold impl_ManOk_j4 at h
            refine Wp.cond2 (b := x13) kr (fun hc => ?_) (fun hc => ?_)
            · have h := cond_t h hc
              refine Wp.srg [] [] ?_
              refine Runs.alln ?_
              refine Wp.fg ⟨[(1, .obj 1 0), (2, .t (.bool false)), (35, .t (.sl 2 (p0.fSums.map Sum.enc))), (36, .t (.int .i64 ((p0.fSums.length : Int)))), (37, .t (.int .i64 x7))], [(1, ((Manifest.enc p0).map .t))], []⟩ ?_
              refine Wp.ret ?_
              refine blkR ?_
              refine thenR ?_
              refine thenR ?_
              refine blkR ?_
              refine thenR ?_
              obtain rfl := Option.some.inj h
              exact RetK [.t (.bool false)] _ [] kr kr (.refl _) .nil
            have h := cond_f h hc
            refine Wp.skip ?_
            refine blkN ?_
            refine thenN ?_
            refine Wp.rg [] [] ?_
            refine Runs.alln ?_
            exact ⟨(p0, bAdd .i64 x7 1), h, Le.of (mo := []) (mr := []) kr kr kr kr⟩
          · refine Wp.regionA (pOf []) (rhoOf [(4, .obj 4), (5, .own 45), (6, .frz), (8, .frz), (57, .frz), (58, .frz), (59, .frz), (60, .own 45), (61, .frz), (62, .frz), (64, .frz), (65, .frz), (66, .own 45), (67, .frz), (68, .obj 4), (69, .frz)]) kr kr ?_
            refine Runs.batch 3 kr ?_
            rcases tf (!r10.2) with hc | hc
            · have h := cond_t h hc
              refine Runs.known 59 (v := true) kr hc ?_
              refine Runs.alln ?_
              exact ⟨(p0, x7, true), h, Le.of (mo := []) (mr := []) kr kr kr kr⟩
            have h := cond_f h hc
            refine Runs.known 59 (v := false) kr hc ?_
            refine Runs.batch 1 kr ?_
            refine Runs.lenT (y := .own 2949120) (e := 5) (eInt .u8) r10.1 1 rfl rfl rfl kr kr kr kr kr ?_
            refine Runs.batch 4 kr ?_
            rcases tf (((r10.1.length : Int)) != r11.2) with hc | hc
            · have h := cond_t h hc
              refine Runs.known 65 (v := true) kr hc ?_
              refine Runs.alln ?_
              exact ⟨(p0, x7, true), h, Le.of (mo := []) (mr := []) kr kr kr kr⟩
            have h := cond_f h hc
            refine Runs.known 65 (v := false) kr hc ?_
            refine Runs.batch 1 kr ?_
            obtain ⟨r12, e_r12, h⟩ := bind_some h
            refine Runs.callBK 67 149 [] [.own 2949120] [.one (.t (.sl 1 (r10.1.map (eInt .u8))))] (.one (.t (.int .i64 r12))) rfl rfl kr kr kr kr kr (impl_WeakOf_ok u r10.1 r12 e_r12) (by simp [V.plain, V.plains, C.plain, T.sc]) kr ?_
            refine Runs.alln ?_
            exact ⟨(p0, x7, r12 != y9.fW), h, Le.of (mo := []) (mr := []) kr kr kr kr⟩
        have h := cond_f h hc
        refine Wp.exit ?_
        refine thenE ?_
        refine thenE ?_
        refine blkE ?_
        refine thenN ?_
        exact ⟨(), h, Le.of (mo := []) (mr := []) kr kr kr kr⟩
  · refine Wp.regionA (pOf []) (rhoOf [(1, .obj 1), (11, .obj 1), (12, .frz), (13, .frz), (14, .frz), (15, .frz), (16, .obj 1), (17, .frz), (18, .obj 1), (19, .frz), (20, .frz), (22, .frz), (23, .frz), (24, .obj 1), (25, .frz), (26, .frz), (27, .obj 1), (28, .frz), (29, .obj 1), (30, .frz), (31, .frz)]) kr kr ?_
    refine Runs.batch 2 kr ?_
    obtain ⟨r2, e_r2, h⟩ := bind_some h
    refine Runs.callK false 13 58 [] [.t (.int .i64 p0.fGen), .t (.int .i64 1), .t (.int .i64 1000000)] _ _ _ rfl rfl kr kr kr kr kr (impl_within_ok u p0.fGen 1 1000000 r2 e_r2) kr ?_
    refine Runs.batch 2 kr ?_
    rcases tf (!r2) with hc | hc
    · have h := cond_t h hc
      refine Runs.known 15 (v := true) kr hc ?_
      refine Runs.alln ?_
      exact ⟨(true, p0), h, Le.of (mo := []) (mr := []) kr kr kr kr⟩
    have h := cond_f h hc
    refine Runs.known 15 (v := false) kr hc ?_
    refine Runs.batch 4 kr ?_
    obtain ⟨r3, e_r3, h⟩ := bind_some h
    refine Runs.callK false 20 100 [] [.t (.int .i64 p0.fSize), .t (.int .i64 p0.fLen)] _ _ _ rfl rfl kr kr kr kr kr (impl_SizeOk_ok u p0.fSize p0.fLen r3 e_r3) kr ?_
    refine Runs.batch 3 kr ?_
    rcases tf (!r3) with hc | hc
    · have h := cond_t h hc
      refine Runs.known 23 (v := true) kr hc ?_
      refine Runs.alln ?_
      exact ⟨(true, p0), h, Le.of (mo := []) (mr := []) kr kr kr kr⟩
    have h := cond_f h hc
    refine Runs.known 23 (v := false) kr hc ?_
    refine Runs.batch 2 kr ?_
    refine Runs.lenT (y := .t (.sl 2 (p0.fSums.map Sum.enc))) (e := 220) Sum.enc p0.fSums 2 rfl rfl rfl kr kr kr kr kr ?_
    refine Runs.batch 4 kr ?_
    obtain ⟨r4, e_r4, h⟩ := bind_some h
    refine Runs.callK false 31 196 [] [.t (.int .i64 p0.fSize), .t (.int .i64 p0.fLen)] _ _ _ rfl rfl kr kr kr kr kr (impl_Blocks_ok u p0.fSize p0.fLen r4 e_r4) kr ?_
    refine Runs.alln ?_
    exact ⟨(((p0.fSums.length : Int)) != r4, p0), h, Le.of (mo := []) (mr := []) kr kr kr kr⟩
theorem impl_GetMan_ok (u : Nat) (p0 : List Int) (p1 : Int) (r : Manifest × Int × Bool) (h : impl_GetMan u p0 p1 = some r) : CallOK Tryz.prog 137 [.one (.t (.sl 1 (p0.map (eInt .u8)))), .one (.t (.int .i64 p1))] (.tup [.agg [.t (.int .i64 r.1.fGen), .t (.int .i64 r.1.fSize), .t (.int .i64 r.1.fLen), .ow 220 2 (r.1.fSums.map Sum.enc)], .one (.t (.int .i64 r.2.1)), .one (.t (.bool r.2.2))]) [] := by
  unfold impl_GetMan at h
  refine CallOK.of_bodyK (fn := Tryz.f137) (m := true) [.t (.sl 1 (p0.map (eInt .u8))), .t (.int .i64 p1)] kr rfl kr kr kr kr kr ?_
  refine Wp.srg [] [] ?_
  refine Runs.alln ?_
  refine Wp.fg ⟨[(0, .t (.sl 1 (p0.map (eInt .u8)))), (1, .t (.int .i64 p1)), (4, .obj 4 0), (5, .t (.int .i64 0)), (6, .t (.bool false))], [(4, [.t (.int .i64 0), .t (.int .i64 0), .t (.int .i64 0), .nil])], []⟩ ?_
  refine Wp.srg [] [] ?_
  refine Runs.batch 2 kr ?_
  obtain ⟨r1, e_r1, h⟩ := bind_some h
  refine Runs.callK false 18 138 [] [.t (.sl 1 (p0.map (eInt .u8))), .t (.int .i64 p1), .t (.int .i64 3)] _ _ _ rfl rfl kr kr kr kr kr (impl_readVars_ok u p0 p1 3 r1 e_r1) kr ?_
  refine Runs.alln ?_
  refine Wp.fg ⟨[(0, .t (.sl 1 (p0.map (eInt .u8)))), (1, .t (.int .i64 r1.2.1)), (4, .obj 4 0), (5, .t (.int .i64 0)), (6, .t (.bool false)), (7, .own 1179648), (8, .t (.bool r1.2.2))], [(4, [.t (.int .i64 0), .t (.int .i64 0), .t (.int .i64 0), .nil])], [(1179648, .live 3 1 (r1.1.map (eInt .i64)))]⟩ ?_
  refine Wp.seq ?_
  refine Wp.srg [] [] ?_
  refine Runs.alln ?_
  refine Wp.fg ⟨[(0, .t (.sl 1 (p0.map (eInt .u8)))), (1, .t (.int .i64 r1.2.1)), (4, .obj 4 0), (5, .t (.int .i64 0)), (6, .t (.bool false)), (7, .own 1179648), (23, .t (.bool (!r1.2.2)))], [(4, [.t (.int .i64 0), .t (.int .i64 0), .t (.int .i64 0), .nil])], [(1179648, .live 3 1 (r1.1.map (eInt .i64)))]⟩ ?_
  refine Wp.cond2 (b := !r1.2.2) kr (fun hc => ?_) (fun hc => ?_)
  · have h := cond_t h hc
    refine Wp.srg [] [] ?_
    refine Runs.alln ?_
    refine Wp.fg ⟨[(0, .t (.sl 1 (p0.map (eInt .u8)))), (1, .t (.int .i64 r1.2.1)), (4, .obj 4 0), (5, .t (.int .i64 0)), (6, .t (.bool false)), (7, .own 1179648)], [(4, [.t (.int .i64 0), .t (.int .i64 0), .t (.int .i64 0), .nil])], [(1179648, .live 3 1 (r1.1.map (eInt .i64)))]⟩ ?_
    refine Wp.ret ?_
    refine thenR ?_
    obtain rfl := Option.some.inj h
    exact RetK [.agg [.t (.int .i64 0), .t (.int .i64 0), .t (.int .i64 0), .nil], .t (.int .i64 0), .t (.bool false)] (.tup [.agg [.t (.int .i64 0), .t (.int .i64 0), .t (.int .i64 0), .nil], .one (.t (.int .i64 0)), .one (.t (.bool false))]) [] kr kr (.tup (.cons (.agg (.cons (.refl _) (.cons (.refl _) (.cons (.refl _) (.cons (.nilO _ _) .nil))))) (.cons (.refl _) (.cons (.refl _) .nil)))) .nil
  have h := cond_f h hc
  refine Wp.skip (thenN ?_)
  refine Wp.seq ?_
  refine Wp.regionA (pOf []) (rhoOf [(7, .own 18), (9, .obj 9), (25, .own 18), (26, .el 18), (27, .frz), (28, .own 18), (29, .el 18), (30, .frz), (31, .own 18), (32, .el 18), (33, .frz), (34, .frz)]) kr kr ?_
  refine Runs.batch 1 kr ?_
  obtain ⟨y2, e_y2, h⟩ := bind_some h
  refine Runs.idxO (e := 3) (e' := 3) (kk := .i64) (sz := 1) (eInt .i64) r1.1 0 1179648 rfl kr kr kr kr kr kr kr e_y2 ?_
  refine Runs.loadE (e' := 3) (sz := 1) (m := 1) (gg := false) (eInt .i64) r1.1 1179648 (Int.toNat 0) 0 (.t (.int .i64 y2)) rfl kr kr kr kr kr kr (idx_some e_y2).2 kr ?_
  refine Runs.batch 1 kr ?_
  obtain ⟨y3, e_y3, h⟩ := bind_some h
  refine Runs.idxO (e := 3) (e' := 3) (kk := .i64) (sz := 1) (eInt .i64) r1.1 1 1179648 rfl kr kr kr kr kr kr kr e_y3 ?_
  refine Runs.loadE (e' := 3) (sz := 1) (m := 1) (gg := false) (eInt .i64) r1.1 1179648 (Int.toNat 1) 0 (.t (.int .i64 y3)) rfl kr kr kr kr kr kr (idx_some e_y3).2 kr ?_
  refine Runs.batch 1 kr ?_
  obtain ⟨y4, e_y4, h⟩ := bind_some h
  refine Runs.idxO (e := 3) (e' := 3) (kk := .i64) (sz := 1) (eInt .i64) r1.1 2 1179648 rfl kr kr kr kr kr kr kr e_y4 ?_
  refine Runs.loadE (e' := 3) (sz := 1) (m := 1) (gg := false) (eInt .i64) r1.1 1179648 (Int.toNat 2) 0 (.t (.int .i64 y4)) rfl kr kr kr kr kr kr (idx_some e_y4).2 kr ?_
  refine Runs.alln ?_
  refine Wp.fg ⟨[(0, .t (.sl 1 (p0.map (eInt .u8)))), (1, .t (.int .i64 r1.2.1)), (4, .obj 4 0), (5, .t (.int .i64 0)), (6, .t (.bool false)), (9, .obj 9 0)], [(4, [.t (.int .i64 0), .t (.int .i64 0), .t (.int .i64 0), .nil]), (9, [.t (.int .i64 y2), .t (.int .i64 y3), .t (.int .i64 y4), .nil])], []⟩ ?_
  refine Wp.seqJ (α := Int × Int × Int × Int × (List Sum)) (fun a => ⟨[(1, .t (.int .i64 a.1)), (4, .obj 4 0), (5, .t (.int .i64 0)), (6, .t (.bool false)), (9, .obj 9 0)], [(4, [.t (.int .i64 0), .t (.int .i64 0), .t (.int .i64 0), .nil]), (9, [.t (.int .i64 a.2.1), .t (.int .i64 a.2.2.1), .t (.int .i64 a.2.2.2.1), .own 590339])], [(590339, .live 220 2 (a.2.2.2.2.map Sum.enc))]⟩) (fun a => impl_GetMan_j1 u a.1 a.2.1 a.2.2.1 a.2.2.2.1 a.2.2.2.2 = some r) ?_ ?_
  · rintro ⟨x19, y2, y3, y4, x20⟩ h
    change impl_GetMan_j1 u x19 y2 y3 y4 x20 = some r at h
    unfold impl_GetMan_j1 at h
    refine Wp.seq ?_
    refine Wp.srg [] [] ?_
    refine Runs.batch 1 kr ?_
    obtain ⟨r21, e_r21, h⟩ := bind_some h
    refine Runs.callBK 71 140 [] [.agg [.t (.int .i64 y2), .t (.int .i64 y3), .t (.int .i64 y4), .own 590339]] [.agg [.t (.int .i64 y2), .t (.int .i64 y3), .t (.int .i64 y4), .t (.sl 2 (x20.map Sum.enc))]] (.one (.t (.bool r21))) rfl rfl kr kr kr kr kr (impl_ManOk_ok u ((Manifest.mk y2 y3 y4 x20)) r21 e_r21) (by simp [V.plain, V.plains, C.plain, T.sc]) kr ?_
    refine Runs.alln ?_
    refine Wp.fg ⟨[(1, .t (.int .i64 x19)), (4, .obj 4 0), (5, .t (.int .i64 0)), (6, .t (.bool false)), (9, .obj 9 0), (72, .t (.bool (!r21)))], [(4, [.t (.int .i64 0), .t (.int .i64 0), .t (.int .i64 0), .nil]), (9, [.t (.int .i64 y2), .t (.int .i64 y3), .t (.int .i64 y4), .own 590339])], [(590339, .live 220 2 (x20.map Sum.enc))]⟩ ?_
    refine Wp.cond2 (b := !r21) kr (fun hc => ?_) (fun hc => ?_)
    · have h := cond_t h hc
      refine Wp.srg [] [] ?_
      refine Runs.alln ?_
      refine Wp.fg ⟨[(1, .t (.int .i64 x19)), (4, .obj 4 0), (5, .t (.int .i64 0)), (6, .t (.bool false)), (9, .obj 9 0)], [(4, [.t (.int .i64 0), .t (.int .i64 0), .t (.int .i64 0), .nil]), (9, [.t (.int .i64 y2), .t (.int .i64 y3), .t (.int .i64 y4), .own 590339])], [(590339, .live 220 2 (x20.map Sum.enc))]⟩ ?_
      refine Wp.ret ?_
      refine thenR ?_
      obtain rfl := Option.some.inj h
      exact RetK [.agg [.t (.int .i64 0), .t (.int .i64 0), .t (.int .i64 0), .nil], .t (.int .i64 0), .t (.bool false)] (.tup [.agg [.t (.int .i64 0), .t (.int .i64 0), .t (.int .i64 0), .nil], .one (.t (.int .i64 0)), .one (.t (.bool false))]) [] kr kr (.tup (.cons (.agg (.cons (.refl _) (.cons (.refl _) (.cons (.refl _) (.cons (.nilO _ _) .nil))))) (.cons (.refl _) (.cons (.refl _) .nil)))) .nil
    have h := cond_f h hc
    refine Wp.skip (thenN ?_)
    refine Wp.srg [] [] ?_
    refine Runs.alln ?_
    refine Wp.fg ⟨[(4, .obj 4 0), (5, .t (.int .i64 x19)), (6, .t (.bool true))], [(4, [.t (.int .i64 y2), .t (.int .i64 y3), .t (.int .i64 y4), .own 590339])], [(590339, .live 220 2 (x20.map Sum.enc))]⟩ ?_
    refine Wp.ret ?_
    obtain rfl := Option.some.inj h
    exact RetK [.agg [.t (.int .i64 y2), .t (.int .i64 y3), .t (.int .i64 y4), .own 590339], .t (.int .i64 x19), .t (.bool true)] _ [] kr kr (.refl _) .nil
  · refine Wp.srg [] [] ?_
    refine Runs.batch 4 kr ?_
    obtain ⟨r5, e_r5, h⟩ := bind_some h
    refine Runs.callK false 39 196 [] [.t (.int .i64 y3), .t (.int .i64 y4)] _ _ _ rfl rfl kr kr kr kr kr (impl_Blocks_ok u y3 y4 r5 e_r5) kr ?_
    refine Runs.alln ?_
    refine Wp.fg ⟨[(0, .t (.sl 1 (p0.map (eInt .u8)))), (1, .t (.int .i64 r1.2.1)), (4, .obj 4 0), (5, .t (.int .i64 0)), (6, .t (.bool false)), (9, .obj 9 0), (39, .t (.int .i64 r5)), (40, .t (.int .i64 0))], [(4, [.t (.int .i64 0), .t (.int .i64 0), .t (.int .i64 0), .nil]), (9, [.t (.int .i64 y2), .t (.int .i64 y3), .t (.int .i64 y4), .nil])], []⟩ ?_
    refine Wp.block ?_
    refine Wp.loopF (α := (List Int) × Int × Int × Int × Int × Int × Int × (List Sum)) (fun a => ⟨[(0, .t (.sl 1 (a.1.map (eInt .u8)))), (1, .t (.int .i64 a.2.1)), (4, .obj 4 0), (5, .t (.int .i64 0)), (6, .t (.bool false)), (9, .obj 9 0), (39, .t (.int .i64 a.2.2.1)), (40, .t (.int .i64 a.2.2.2.1))], [(4, [.t (.int .i64 0), .t (.int .i64 0), .t (.int .i64 0), .nil]), (9, [.t (.int .i64 a.2.2.2.2.1), .t (.int .i64 a.2.2.2.2.2.1), .t (.int .i64 a.2.2.2.2.2.2.1), .own 590339])], [(590339, .live 220 2 (a.2.2.2.2.2.2.2.map Sum.enc))]⟩) (fun k_impl_GetMan_l2 a => impl_GetMan_l2 u k_impl_GetMan_l2 a.1 a.2.1 a.2.2.1 a.2.2.2.1 a.2.2.2.2.1 a.2.2.2.2.2.1 a.2.2.2.2.2.2.1 a.2.2.2.2.2.2.2 = some r) ?_ ?_ u (p0, r1.2.1, r5, 0, y2, y3, y4, []) h (Le.trans (Le.emptyO 9 3 590339 220 2 [.t (.int .i64 y2), .t (.int .i64 y3), .t (.int .i64 y4), .nil] kr kr kr) (Le.of (mo := []) (mr := []) kr kr kr kr))
    · intro a h; unfold impl_GetMan_l2 at h; cases h
    · rintro k_impl_GetMan_l2 ⟨p0, x9, r5, x10, y2, y3, y4, x11⟩ h
      change impl_GetMan_l2 u (k_impl_GetMan_l2 + 1) p0 x9 r5 x10 y2 y3 y4 x11 = some r at h
      rw [impl_GetMan_l2] at h
      refine Wp.srg [] [] ?_
      refine Runs.alln ?_
      refine Wp.fg ⟨[(0, .t (.sl 1 (p0.map (eInt .u8)))), (1, .t (.int .i64 x9)), (4, .obj 4 0), (5, .t (.int .i64 0)), (6, .t (.bool false)), (9, .obj 9 0), (39, .t (.int .i64 r5)), (40, .t (.int .i64 x10)), (41, .t (.bool (decide (x10 < r5))))], [(4, [.t (.int .i64 0), .t (.int .i64 0), .t (.int .i64 0), .nil]), (9, [.t (.int .i64 y2), .t (.int .i64 y3), .t (.int .i64 y4), .own 590339])], [(590339, .live 220 2 (x11.map Sum.enc))]⟩ ?_
      refine Wp.seq ?_
      refine Wp.cond2 (b := decide (x10 < r5)) kr (fun hc => ?_) (fun hc => ?_)
      · have h := cond_t h hc
        refine Wp.skip (thenN ?_)
        refine Wp.seq ?_
        refine Wp.block ?_
        refine Wp.srg [] [] ?_
        refine Runs.batch 2 kr ?_
        obtain ⟨r15, e_r15, h⟩ := bind_some h
        refine Runs.callK false 45 136 [] [.t (.sl 1 (p0.map (eInt .u8))), .t (.int .i64 x9), .t (.int .i64 8)] _ _ _ rfl rfl kr kr kr kr kr (impl_readVar_ok u p0 x9 8 r15 e_r15) kr ?_
        refine Runs.alln ?_
        refine Wp.fg ⟨[(0, .t (.sl 1 (p0.map (eInt .u8)))), (1, .t (.int .i64 x9)), (4, .obj 4 0), (5, .t (.int .i64 0)), (6, .t (.bool false)), (9, .obj 9 0), (10, .t (.int .i64 r15.1)), (11, .t (.int .i64 r15.2.1)), (12, .t (.bool r15.2.2)), (39, .t (.int .i64 r5)), (40, .t (.int .i64 x10))], [(4, [.t (.int .i64 0), .t (.int .i64 0), .t (.int .i64 0), .nil]), (9, [.t (.int .i64 y2), .t (.int .i64 y3), .t (.int .i64 y4), .own 590339])], [(590339, .live 220 2 (x11.map Sum.enc))]⟩ ?_
        refine Wp.srg [] [] ?_
        refine Runs.batch 1 kr ?_
        obtain ⟨r16, e_r16, h⟩ := bind_some h
        refine Runs.callK false 51 204 [] [.t (.int .i64 r15.1)] _ _ _ rfl rfl kr kr kr kr kr (impl_BytesOf_ok u r15.1 r16 e_r16) kr ?_
        refine Runs.alln ?_
        refine Wp.fg ⟨[(0, .t (.sl 1 (p0.map (eInt .u8)))), (1, .t (.int .i64 x9)), (4, .obj 4 0), (5, .t (.int .i64 0)), (6, .t (.bool false)), (9, .obj 9 0), (11, .t (.int .i64 r15.2.1)), (12, .t (.bool r15.2.2)), (13, .own 3342336), (14, .t (.bool r16.2)), (39, .t (.int .i64 r5)), (40, .t (.int .i64 x10))], [(4, [.t (.int .i64 0), .t (.int .i64 0), .t (.int .i64 0), .nil]), (9, [.t (.int .i64 y2), .t (.int .i64 y3), .t (.int .i64 y4), .own 590339])], [(590339, .live 220 2 (x11.map Sum.enc)), (3342336, .live 5 1 (r16.1.map (eInt .u8)))]⟩ ?_
        refine Wp.seq ?_
        refine Wp.seqJ (α := (List Int) × Int × (Int × Int × Bool) × ((List Int) × Bool) × Int × Int × Bool × Int × Int × Int × (List Sum)) (fun a => ⟨[(0, .t (.sl 1 (a.1.map (eInt .u8)))), (1, .t (.int .i64 a.2.1)), (4, .obj 4 0), (5, .t (.int .i64 0)), (6, .t (.bool false)), (9, .obj 9 0), (11, .t (.int .i64 a.2.2.1.2.1)), (13, .own 851969), (39, .t (.int .i64 a.2.2.2.2.1)), (40, .t (.int .i64 a.2.2.2.2.2.1)), (59, .t (.bool a.2.2.2.2.2.2.1))], [(4, [.t (.int .i64 0), .t (.int .i64 0), .t (.int .i64 0), .nil]), (9, [.t (.int .i64 a.2.2.2.2.2.2.2.1), .t (.int .i64 a.2.2.2.2.2.2.2.2.1), .t (.int .i64 a.2.2.2.2.2.2.2.2.2.1), .own 590339])], [(590339, .live 220 2 (a.2.2.2.2.2.2.2.2.2.2.map Sum.enc)), (851969, .live 5 1 (a.2.2.2.1.1.map (eInt .u8)))]⟩) (fun a => impl_GetMan_j3 u (fun z0 z1 z2 z3 z4 z5 z6 z7 => impl_GetMan_l2 u k_impl_GetMan_l2 z0 z1 z2 z3 z4 z5 z6 z7) a.1 a.2.1 a.2.2.1 a.2.2.2.1 a.2.2.2.2.1 a.2.2.2.2.2.1 a.2.2.2.2.2.2.1 a.2.2.2.2.2.2.2.1 a.2.2.2.2.2.2.2.2.1 a.2.2.2.2.2.2.2.2.2.1 a.2.2.2.2.2.2.2.2.2.2 = some r) ?_ ?_
        · rintro ⟨p0, x9, r15, r16, r5, x10, x17, y2, y3, y4, x11⟩ h
          change impl_GetMan_j3 u (fun z0 z1 z2 z3 z4 z5 z6 z7 => impl_GetMan_l2 u k_impl_GetMan_l2 z0 z1 z2 z3 z4 z5 z6 z7) p0 x9 r15 r16 r5 x10 x17 y2 y3 y4 x11 = some r at h
          unfold impl_GetMan_j3 at h
          refine Wp.cond2 (b := x17) kr (fun hc => ?_) (fun hc => ?_)
          · have h := cond_t h hc
            refine Wp.srg [] [] ?_
            refine Runs.alln ?_
            refine Wp.fg ⟨[(0, .t (.sl 1 (p0.map (eInt .u8)))), (1, .t (.int .i64 x9)), (4, .obj 4 0), (5, .t (.int .i64 0)), (6, .t (.bool false)), (9, .obj 9 0), (11, .t (.int .i64 r15.2.1)), (13, .own 851969), (39, .t (.int .i64 r5)), (40, .t (.int .i64 x10))], [(4, [.t (.int .i64 0), .t (.int .i64 0), .t (.int .i64 0), .nil]), (9, [.t (.int .i64 y2), .t (.int .i64 y3), .t (.int .i64 y4), .own 590339])], [(590339, .live 220 2 (x11.map Sum.enc)), (851969, .live 5 1 (r16.1.map (eInt .u8)))]⟩ ?_
            refine Wp.ret ?_
            refine thenR ?_
            refine blkR ?_
            refine thenR ?_
            refine thenR ?_
            refine blkR ?_
            refine thenR ?_
            obtain rfl := Option.some.inj h
            exact RetK [.agg [.t (.int .i64 0), .t (.int .i64 0), .t (.int .i64 0), .nil], .t (.int .i64 0), .t (.bool false)] (.tup [.agg [.t (.int .i64 0), .t (.int .i64 0), .t (.int .i64 0), .nil], .one (.t (.int .i64 0)), .one (.t (.bool false))]) [] kr kr (.tup (.cons (.agg (.cons (.refl _) (.cons (.refl _) (.cons (.refl _) (.cons (.nilO _ _) .nil))))) (.cons (.refl _) (.cons (.refl _) .nil)))) .nil
          have h := cond_f h hc
          refine Wp.skip (thenN ?_)
          refine Wp.seq ?_
          refine Wp.regionA (pOf []) (rhoOf [(9, .obj 9), (13, .own 13), (61, .obj 9), (62, .own 9), (63, .own 13), (64, .frz), (65, .own 65), (66, .own 66), (67, .obj 9)]) kr kr ?_
          refine Runs.batch 3 kr ?_
          obtain ⟨r18, e_r18, h⟩ := bind_some h
          refine Runs.callBK 64 205 [] [.own 851969] [.one (.t (.sl 1 (r16.1.map (eInt .u8))))] (.agg [.t (.int .i64 r18.fW), .t (.int .i64 r18.fS)]) rfl rfl kr kr kr kr kr (impl_SumOf_ok u r16.1 r18 e_r18) (by simp [V.plain, V.plains, C.plain, T.sc]) kr ?_
          refine Runs.batch 1 kr ?_
          obtain ⟨_, e_19, h⟩ := bind_some h
          refine Runs.appT (y := .own 4259840) Sum.enc 66 2 220 2 16 590339 x11 ([r18]) rfl rfl rfl rfl kr kr kr kr kr kr (.inl rfl) kr (of_decide_eq_true (chk_some e_19)) kr kr ?_
          refine Runs.alln ?_
          refine Wp.fg ⟨[(0, .t (.sl 1 (p0.map (eInt .u8)))), (1, .t (.int .i64 x9)), (4, .obj 4 0), (5, .t (.int .i64 0)), (6, .t (.bool false)), (9, .obj 9 0), (11, .t (.int .i64 r15.2.1)), (39, .t (.int .i64 r5)), (40, .t (.int .i64 x10))], [(4, [.t (.int .i64 0), .t (.int .i64 0), .t (.int .i64 0), .nil]), (9, [.t (.int .i64 y2), .t (.int .i64 y3), .t (.int .i64 y4), .own 4325376])], [(4325376, .live 220 2 ((x11 ++ ([r18])).map Sum.enc))]⟩ ?_
          refine Wp.rg [] [] ?_
          refine Runs.all kr ?_
          refine blkN ?_
          refine thenN ?_
          refine Wp.rg [] [] ?_
          refine Runs.alln ?_
          exact ⟨(p0, r15.2.1, r5, bAdd .i64 x10 1, y2, y3, y4, x11 ++ ([r18])), h, Le.of (mo := []) (mr := [(590339, 4325376)]) kr kr kr kr⟩
        · refine Wp.rg [] [] ?_
          refine Runs.batch 3 kr ?_
          rcases tf (!r15.2.2) with hc | hc
          · have h := cond_t h hc
            refine Runs.known 56 (v := true) kr hc ?_
            refine Runs.alln ?_
            exact ⟨(p0, x9, r15, r16, r5, x10, true, y2, y3, y4, x11), h, Le.of (mo := []) (mr := [(851969, 3342336)]) kr kr kr kr⟩
          have h := cond_f h hc
          refine Runs.known 56 (v := false) kr hc ?_
          refine Runs.alln ?_
          exact ⟨(p0, x9, r15, r16, r5, x10, !r16.2, y2, y3, y4, x11), h, Le.of (mo := []) (mr := [(851969, 3342336)]) kr kr kr kr⟩
      have h := cond_f h hc
      refine Wp.exit ?_
      refine thenE ?_
      refine thenE ?_
      refine blkE ?_
      refine thenN ?_
      exact ⟨(x9, y2, y3, y4, x11), h, Le.of (mo := []) (mr := []) kr kr kr kr⟩
theorem impl_cloned_ok (u : Nat) (p0 : List Int) (r : (List Int)) (h : impl_cloned u p0 = some r) : CallOK Tryz.prog 208 [.one (.t (.sl 1 (p0.map (eInt .u8))))] (.one (.ow 5 1 (r.map (eInt .u8)))) [] := by
  unfold impl_cloned at h
  refine CallOK.of_bodyK (fn := Tryz.f208) (m := true) [.t (.sl 1 (p0.map (eInt .u8)))] kr rfl kr kr kr kr kr ?_
  refine Wp.srg [] [] ?_
  refine Runs.alln ?_
  refine Wp.fg ⟨[(0, .t (.sl 1 (p0.map (eInt .u8)))), (2, .nil)], [], []⟩ ?_
  refine Wp.srg [] [] ?_
  refine Runs.batch 1 kr ?_
  refine Runs.lenT (y := .t (.sl 1 (p0.map (eInt .u8)))) (e := 5) (eInt .u8) p0 1 rfl rfl rfl kr kr kr kr kr ?_
  obtain ⟨_, e_1, h⟩ := bind_some h
  obtain ⟨_, e_2, h⟩ := bind_some h
  refine Runs.mkS (eInt .u8) (0 : Int) 5 5 1 1 0 ((p0.length : Int)) rfl rfl kr kr kr kr kr kr (chk_some e_1) (of_decide_eq_true (chk_some e_2)) kr ?_
  refine Runs.batch 1 kr ?_
  obtain ⟨_, e_3, h⟩ := bind_some h
  refine Runs.appT (y := .t (.sl 1 (p0.map (eInt .u8)))) (eInt .u8) 7 1 5 1 1 327680 (List.replicate (Int.toNat 0) (0 : Int)) p0 rfl rfl rfl rfl kr kr kr kr kr kr (.inl rfl) kr (of_decide_eq_true (chk_some e_3)) kr kr ?_
  refine Runs.alln ?_
  refine Wp.fg ⟨[(2, .own 458752)], [], [(458752, .live 5 1 (((List.replicate (Int.toNat 0) (0 : Int)) ++ p0).map (eInt .u8)))]⟩ ?_
  refine Wp.ret ?_
  obtain rfl := Option.some.inj h
  exact RetK [.own 458752] _ [] kr kr (.refl _) .nil
theorem impl_Slice_ok (u : Nat) (p0 : List Int) (p1 : Int) (p2 : Int) (r : (List Int) × Bool) (h : impl_Slice u p0 p1 p2 = some r) : CallOK Tryz.prog 206 [.one (.t (.sl 1 (p0.map (eInt .u8)))), .one (.t (.int .i64 p1)), .one (.t (.int .i64 p2))] (.tup [.one (.ow 5 1 (r.1.map (eInt .u8))), .one (.t (.bool r.2))]) [] := by
  unfold impl_Slice at h
  refine CallOK.of_bodyK (fn := Tryz.f206) (m := true) [.t (.sl 1 (p0.map (eInt .u8))), .t (.int .i64 p1), .t (.int .i64 p2)] kr rfl kr kr kr kr kr ?_
  refine Wp.srg [] [] ?_
  refine Runs.alln ?_
  refine Wp.fg ⟨[(0, .t (.sl 1 (p0.map (eInt .u8)))), (1, .t (.int .i64 p1)), (2, .t (.int .i64 p2)), (6, .nil), (7, .t (.bool false))], [], []⟩ ?_
  refine Wp.seq ?_
  refine Wp.seqJ (α := (List Int) × Int × Int × Bool) (fun a => ⟨[(0, .t (.sl 1 (a.1.map (eInt .u8)))), (1, .t (.int .i64 a.2.1)), (2, .t (.int .i64 a.2.2.1)), (6, .nil), (7, .t (.bool false)), (21, .t (.bool a.2.2.2))], [], []⟩) (fun a => impl_Slice_j1 u a.1 a.2.1 a.2.2.1 a.2.2.2 = some r) ?_ ?_
  · rintro ⟨p0, p1, p2, x3⟩ h
    change impl_Slice_j1 u p0 p1 p2 x3 = some r at h
    unfold impl_Slice_j1 at h
    refine Wp.cond2 (b := x3) kr (fun hc => ?_) (fun hc => ?_)
    · have h := cond_t h hc
      refine Wp.srg [] [] ?_
      refine Runs.alln ?_
      refine Wp.fg ⟨[(0, .t (.sl 1 (p0.map (eInt .u8)))), (1, .t (.int .i64 p1)), (2, .t (.int .i64 p2)), (6, .nil), (7, .t (.bool false))], [], []⟩ ?_
      refine Wp.ret ?_
      refine thenR ?_
      obtain rfl := Option.some.inj h
      exact RetK [.nil, .t (.bool false)] (.tup [.one (.nil), .one (.t (.bool false))]) [] kr kr (.tup (.cons (.one (.nilO _ _)) (.cons (.refl _) .nil))) .nil
    have h := cond_f h hc
    refine Wp.skip (thenN ?_)
    refine Wp.srg [] [] ?_
    refine Runs.batch 5 kr ?_
    obtain ⟨_, e_4, h⟩ := bind_some h
    refine Runs.subsl (e := 5) (ax := .t (.sl 1 (p0.map (eInt .u8)))) (alo := (some (.t (.int .i64 p1)))) (ahi := (some (.t (.int .i64 (bAdd .i64 p1 p2))))) (eInt .u8) p0 1 p1 (bAdd .i64 p1 p2) rfl kr kr kr kr kr kr kr kr kr kr kr (chk_some e_4) ?_
    obtain ⟨r5, e_r5, h⟩ := bind_some h
    refine Runs.callK false 28 208 [] [.t (.sl 1 (((p0.take (Int.toNat (bAdd .i64 p1 p2))).drop (Int.toNat p1)).map (eInt .u8)))] _ _ _ rfl rfl kr kr kr kr kr (impl_cloned_ok u ((p0.take (Int.toNat (bAdd .i64 p1 p2))).drop (Int.toNat p1)) r5 e_r5) kr ?_
    refine Runs.alln ?_
    refine Wp.fg ⟨[(6, .own 1835008), (7, .t (.bool true))], [], [(1835008, .live 5 1 (r5.map (eInt .u8)))]⟩ ?_
    refine Wp.ret ?_
    obtain rfl := Option.some.inj h
    exact RetK [.own 1835008, .t (.bool true)] _ [] kr kr (.refl _) .nil
  · refine Wp.rg [] [] ?_
    refine Runs.batch 2 kr ?_
    refine Runs.lenT (y := .t (.sl 1 (p0.map (eInt .u8)))) (e := 5) (eInt .u8) p0 1 rfl rfl rfl kr kr kr kr kr ?_
    obtain ⟨r1, e_r1, h⟩ := bind_some h
    refine Runs.callK false 11 58 [] [.t (.int .i64 p1), .t (.int .i64 0), .t (.int .i64 ((p0.length : Int)))] _ _ _ rfl rfl kr kr kr kr kr (impl_within_ok u p1 0 ((p0.length : Int)) r1 e_r1) kr ?_
    refine Runs.batch 2 kr ?_
    rcases tf (!r1) with hc | hc
    · have h := cond_t h hc
      refine Runs.known 13 (v := true) kr hc ?_
      refine Runs.alln ?_
      exact ⟨(p0, p1, p2, true), h, Le.of (mo := []) (mr := []) kr kr kr kr⟩
    have h := cond_f h hc
    refine Runs.known 13 (v := false) kr hc ?_
    refine Runs.batch 2 kr ?_
    refine Runs.lenT (y := .t (.sl 1 (p0.map (eInt .u8)))) (e := 5) (eInt .u8) p0 1 rfl rfl rfl kr kr kr kr kr ?_
    refine Runs.batch 2 kr ?_
    obtain ⟨r2, e_r2, h⟩ := bind_some h
    refine Runs.callK false 19 58 [] [.t (.int .i64 p2), .t (.int .i64 0), .t (.int .i64 (bSub .i64 ((p0.length : Int)) p1))] _ _ _ rfl rfl kr kr kr kr kr (impl_within_ok u p2 0 (bSub .i64 ((p0.length : Int)) p1) r2 e_r2) kr ?_
    refine Runs.alln ?_
    exact ⟨(p0, p1, p2, !r2), h, Le.of (mo := []) (mr := []) kr kr kr kr⟩
theorem impl_GetPart_ok (u : Nat) (p0 : List Int) (p1 : Int) (p2 : Int) (r : (List Int) × Int × Bool) (h : impl_GetPart u p0 p1 p2 = some r) : CallOK Tryz.prog 139 [.one (.t (.sl 1 (p0.map (eInt .u8)))), .one (.t (.int .i64 p1)), .one (.t (.int .i64 p2))] (.tup [.one (.ow 5 1 (r.1.map (eInt .u8))), .one (.t (.int .i64 r.2.1)), .one (.t (.bool r.2.2))]) [] := by
  unfold impl_GetPart at h
  refine CallOK.of_bodyK (fn := Tryz.f139) (m := true) [.t (.sl 1 (p0.map (eInt .u8))), .t (.int .i64 p1), .t (.int .i64 p2)] kr rfl kr kr kr kr kr ?_
  refine Wp.srg [] [] ?_
  refine Runs.alln ?_
  refine Wp.fg ⟨[(0, .t (.sl 1 (p0.map (eInt .u8)))), (1, .t (.int .i64 p1)), (2, .t (.int .i64 p2)), (6, .nil), (7, .t (.int .i64 0)), (8, .t (.bool false))], [], []⟩ ?_
  refine Wp.srg [] [] ?_
  refine Runs.batch 2 kr ?_
  obtain ⟨r1, e_r1, h⟩ := bind_some h
  refine Runs.callK false 16 83 [] [.t (.sl 1 (p0.map (eInt .u8))), .t (.int .i64 p1)] _ _ _ rfl rfl kr kr kr kr kr (impl_GetVar_ok u p0 p1 r1 e_r1) kr ?_
  refine Runs.alln ?_
  refine Wp.fg ⟨[(0, .t (.sl 1 (p0.map (eInt .u8)))), (2, .t (.int .i64 p2)), (6, .nil), (7, .t (.int .i64 0)), (8, .t (.bool false)), (9, .t (.int .i64 r1.1)), (10, .t (.int .i64 r1.2.1)), (11, .t (.bool r1.2.2))], [], []⟩ ?_
  refine Wp.seq ?_
  refine Wp.seqJ (α := (List Int) × (Int × Int × Bool) × Bool) (fun a => ⟨[(0, .t (.sl 1 (a.1.map (eInt .u8)))), (6, .nil), (7, .t (.int .i64 0)), (8, .t (.bool false)), (9, .t (.int .i64 a.2.1.1)), (10, .t (.int .i64 a.2.1.2.1)), (26, .t (.bool a.2.2))], [], []⟩) (fun a => impl_GetPart_j1 u a.1 a.2.1 a.2.2 = some r) ?_ ?_
  · rintro ⟨p0, r1, x2⟩ h
    change impl_GetPart_j1 u p0 r1 x2 = some r at h
    unfold impl_GetPart_j1 at h
    refine Wp.cond2 (b := x2) kr (fun hc => ?_) (fun hc => ?_)
    · have h := cond_t h hc
      refine Wp.srg [] [] ?_
      refine Runs.alln ?_
      refine Wp.fg ⟨[(0, .t (.sl 1 (p0.map (eInt .u8)))), (6, .nil), (7, .t (.int .i64 0)), (8, .t (.bool false)), (9, .t (.int .i64 r1.1)), (10, .t (.int .i64 r1.2.1))], [], []⟩ ?_
      refine Wp.ret ?_
      refine thenR ?_
      obtain rfl := Option.some.inj h
      exact RetK [.nil, .t (.int .i64 0), .t (.bool false)] (.tup [.one (.nil), .one (.t (.int .i64 0)), .one (.t (.bool false))]) [] kr kr (.tup (.cons (.one (.nilO _ _)) (.cons (.refl _) (.cons (.refl _) .nil)))) .nil
    have h := cond_f h hc
    refine Wp.skip (thenN ?_)
    refine Wp.srg [] [] ?_
    refine Runs.batch 3 kr ?_
    obtain ⟨r3, e_r3, h⟩ := bind_some h
    refine Runs.callK false 31 206 [] [.t (.sl 1 (p0.map (eInt .u8))), .t (.int .i64 r1.2.1), .t (.int .i64 r1.1)] _ _ _ rfl rfl kr kr kr kr kr (impl_Slice_ok u p0 r1.2.1 r1.1 r3 e_r3) kr ?_
    refine Runs.alln ?_
    refine Wp.fg ⟨[(6, .nil), (7, .t (.int .i64 0)), (8, .t (.bool false)), (9, .t (.int .i64 r1.1)), (10, .t (.int .i64 r1.2.1)), (11, .t (.bool r3.2)), (12, .own 2031616)], [], [(2031616, .live 5 1 (r3.1.map (eInt .u8)))]⟩ ?_
    refine Wp.seq ?_
    refine Wp.srg [] [] ?_
    refine Runs.alln ?_
    refine Wp.fg ⟨[(6, .nil), (7, .t (.int .i64 0)), (8, .t (.bool false)), (9, .t (.int .i64 r1.1)), (10, .t (.int .i64 r1.2.1)), (12, .own 2031616), (35, .t (.bool (!r3.2)))], [], [(2031616, .live 5 1 (r3.1.map (eInt .u8)))]⟩ ?_
    refine Wp.cond2 (b := !r3.2) kr (fun hc => ?_) (fun hc => ?_)
    · have h := cond_t h hc
      refine Wp.srg [] [] ?_
      refine Runs.alln ?_
      refine Wp.fg ⟨[(6, .nil), (7, .t (.int .i64 0)), (8, .t (.bool false)), (9, .t (.int .i64 r1.1)), (10, .t (.int .i64 r1.2.1)), (12, .own 2031616)], [], [(2031616, .live 5 1 (r3.1.map (eInt .u8)))]⟩ ?_
      refine Wp.ret ?_
      refine thenR ?_
      obtain rfl := Option.some.inj h
      exact RetK [.nil, .t (.int .i64 0), .t (.bool false)] (.tup [.one (.nil), .one (.t (.int .i64 0)), .one (.t (.bool false))]) [] kr kr (.tup (.cons (.one (.nilO _ _)) (.cons (.refl _) (.cons (.refl _) .nil)))) .nil
    have h := cond_f h hc
    refine Wp.skip (thenN ?_)
    refine Wp.srg [] [] ?_
    refine Runs.alln ?_
    refine Wp.fg ⟨[(6, .own 2031616), (7, .t (.int .i64 (bAdd .i64 r1.2.1 r1.1))), (8, .t (.bool true))], [], [(2031616, .live 5 1 (r3.1.map (eInt .u8)))]⟩ ?_
    refine Wp.ret ?_
    obtain rfl := Option.some.inj h
    exact RetK [.own 2031616, .t (.int .i64 (bAdd .i64 r1.2.1 r1.1)), .t (.bool true)] _ [] kr kr (.refl _) .nil
  · refine Wp.rg [] [] ?_
    refine Runs.batch 3 kr ?_
    rcases tf (!r1.2.2) with hc | hc
    · have h := cond_t h hc
      refine Runs.known 22 (v := true) kr hc ?_
      refine Runs.alln ?_
      exact ⟨(p0, r1, true), h, Le.of (mo := []) (mr := []) kr kr kr kr⟩
    have h := cond_f h hc
    refine Runs.known 22 (v := false) kr hc ?_
    refine Runs.alln ?_
    exact ⟨(p0, r1, decide (r1.1 > p2)), h, Le.of (mo := []) (mr := []) kr kr kr kr⟩
theorem impl_readMsg_ok (u : Nat) (p0 : List Int) (p1 : Int) (p2 : Int) (r : Msg × Bool) (h : impl_readMsg u p0 p1 p2 = some r) : CallOK Tryz.prog 84 [.one (.t (.sl 1 (p0.map (eInt .u8)))), .one (.t (.int .i64 p1)), .one (.t (.int .i64 p2))] (.tup [.agg [.t (.int .i64 r.1.fKind), .t (.int .i64 r.1.fGen), .t (.int .i64 r.1.fMan.fGen), .t (.int .i64 r.1.fMan.fSize), .t (.int .i64 r.1.fMan.fLen), .ow 220 2 (r.1.fMan.fSums.map Sum.enc), .t (.int .i64 r.1.fWant), .t (.int .i64 r.1.fDone), .t (.int .i64 r.1.fI), .ow 5 1 (r.1.fB.map (eInt .u8))], .one (.t (.bool r.2))]) [] := by
  unfold impl_readMsg at h
  refine CallOK.of_bodyK (fn := Tryz.f84) (m := true) [.t (.sl 1 (p0.map (eInt .u8))), .t (.int .i64 p1), .t (.int .i64 p2)] kr rfl kr kr kr kr kr ?_
  refine Wp.srg [] [] ?_
  refine Runs.alln ?_
  refine Wp.fg ⟨[(0, .t (.sl 1 (p0.map (eInt .u8)))), (1, .t (.int .i64 p1)), (2, .t (.int .i64 p2)), (6, .obj 6 0), (7, .t (.bool false))], [(6, [.t (.int .i64 0), .t (.int .i64 0), .t (.int .i64 0), .t (.int .i64 0), .t (.int .i64 0), .nil, .t (.int .i64 0), .t (.int .i64 0), .t (.int .i64 0), .nil])], []⟩ ?_
  refine Wp.srg [] [] ?_
  refine Runs.alln ?_
  refine Wp.fg ⟨[(0, .t (.sl 1 (p0.map (eInt .u8)))), (1, .t (.int .i64 p1)), (2, .t (.int .i64 p2)), (6, .obj 6 0), (7, .t (.bool false)), (8, .obj 8 0)], [(6, [.t (.int .i64 0), .t (.int .i64 0), .t (.int .i64 0), .t (.int .i64 0), .t (.int .i64 0), .nil, .t (.int .i64 0), .t (.int .i64 0), .t (.int .i64 0), .nil]), (8, [.t (.int .i64 p1), .t (.int .i64 0), .t (.int .i64 0), .t (.int .i64 0), .t (.int .i64 0), .nil, .t (.int .i64 0), .t (.int .i64 0), .t (.int .i64 0), .nil])], []⟩ ?_
  refine Wp.srg [] [] ?_
  refine Runs.alln ?_
  refine Wp.fg ⟨[(0, .t (.sl 1 (p0.map (eInt .u8)))), (1, .t (.int .i64 p1)), (2, .t (.int .i64 p2)), (6, .obj 6 0), (7, .t (.bool false)), (8, .obj 8 0), (9, .t (.bool false))], [(6, [.t (.int .i64 0), .t (.int .i64 0), .t (.int .i64 0), .t (.int .i64 0), .t (.int .i64 0), .nil, .t (.int .i64 0), .t (.int .i64 0), .t (.int .i64 0), .nil]), (8, [.t (.int .i64 p1), .t (.int .i64 0), .t (.int .i64 0), .t (.int .i64 0), .t (.int .i64 0), .nil, .t (.int .i64 0), .t (.int .i64 0), .t (.int .i64 0), .nil])], []⟩ ?_
  refine Wp.seqJ (α := Bool × Int × Int × Int × Int × Int × (List Sum) × Int × Int × Int × (List Int)) (fun a => ⟨[(6, .obj 6 0), (7, .t (.bool false)), (8, .obj 8 0), (9, .t (.bool a.1))], [(6, [.t (.int .i64 0), .t (.int .i64 0), .t (.int .i64 0), .t (.int .i64 0), .t (.int .i64 0), .nil, .t (.int .i64 0), .t (.int .i64 0), .t (.int .i64 0), .nil]), (8, [.t (.int .i64 a.2.1), .t (.int .i64 a.2.2.1), .t (.int .i64 a.2.2.2.1), .t (.int .i64 a.2.2.2.2.1), .t (.int .i64 a.2.2.2.2.2.1), .own 524805, .t (.int .i64 a.2.2.2.2.2.2.2.1), .t (.int .i64 a.2.2.2.2.2.2.2.2.1), .t (.int .i64 a.2.2.2.2.2.2.2.2.2.1), .own 524809])], [(524805, .live 220 2 (a.2.2.2.2.2.2.1.map Sum.enc)), (524809, .live 5 1 (a.2.2.2.2.2.2.2.2.2.2.map (eInt .u8)))]⟩) (fun a => impl_readMsg_j1 u a.1 a.2.1 a.2.2.1 a.2.2.2.1 a.2.2.2.2.1 a.2.2.2.2.2.1 a.2.2.2.2.2.2.1 a.2.2.2.2.2.2.2.1 a.2.2.2.2.2.2.2.2.1 a.2.2.2.2.2.2.2.2.2.1 a.2.2.2.2.2.2.2.2.2.2 = some r) ?_ ?_
  · rintro ⟨x13, p1, x14, x15, x16, x17, x18, x19, x20, x21, x22⟩ h
    change impl_readMsg_j1 u x13 p1 x14 x15 x16 x17 x18 x19 x20 x21 x22 = some r at h
    unfold impl_readMsg_j1 at h
    refine Wp.srg [] [] ?_
    refine Runs.alln ?_
    refine Wp.fg ⟨[(6, .obj 6 0), (7, .t (.bool x13))], [(6, [.t (.int .i64 p1), .t (.int .i64 x14), .t (.int .i64 x15), .t (.int .i64 x16), .t (.int .i64 x17), .own 524805, .t (.int .i64 x19), .t (.int .i64 x20), .t (.int .i64 x21), .own 524809])], [(524805, .live 220 2 (x18.map Sum.enc)), (524809, .live 5 1 (x22.map (eInt .u8)))]⟩ ?_
    refine Wp.ret ?_
    obtain rfl := Option.some.inj h
    exact RetK [.agg [.t (.int .i64 p1), .t (.int .i64 x14), .t (.int .i64 x15), .t (.int .i64 x16), .t (.int .i64 x17), .own 524805, .t (.int .i64 x19), .t (.int .i64 x20), .t (.int .i64 x21), .own 524809], .t (.bool x13)] _ [] kr kr (.refl _) .nil
  · refine Wp.srg [] [] ?_
    refine Runs.alln ?_
    refine Wp.fg ⟨[(0, .t (.sl 1 (p0.map (eInt .u8)))), (2, .t (.int .i64 p2)), (6, .obj 6 0), (7, .t (.bool false)), (8, .obj 8 0), (9, .t (.bool false)), (18, .t (.int .i64 p1))], [(6, [.t (.int .i64 0), .t (.int .i64 0), .t (.int .i64 0), .t (.int .i64 0), .t (.int .i64 0), .nil, .t (.int .i64 0), .t (.int .i64 0), .t (.int .i64 0), .nil]), (8, [.t (.int .i64 p1), .t (.int .i64 0), .t (.int .i64 0), .t (.int .i64 0), .t (.int .i64 0), .nil, .t (.int .i64 0), .t (.int .i64 0), .t (.int .i64 0), .nil])], []⟩ ?_
    refine Wp.block ?_
    refine Wp.srg [] [] ?_
    refine Runs.alln ?_
    refine Wp.fg ⟨[(0, .t (.sl 1 (p0.map (eInt .u8)))), (2, .t (.int .i64 p2)), (6, .obj 6 0), (7, .t (.bool false)), (8, .obj 8 0), (9, .t (.bool false)), (18, .t (.int .i64 p1)), (19, .t (.bool (p1 == 1)))], [(6, [.t (.int .i64 0), .t (.int .i64 0), .t (.int .i64 0), .t (.int .i64 0), .t (.int .i64 0), .nil, .t (.int .i64 0), .t (.int .i64 0), .t (.int .i64 0), .nil]), (8, [.t (.int .i64 p1), .t (.int .i64 0), .t (.int .i64 0), .t (.int .i64 0), .t (.int .i64 0), .nil, .t (.int .i64 0), .t (.int .i64 0), .t (.int .i64 0), .nil])], []⟩ ?_
    refine Wp.cond2 (b := p1 == 1) kr (fun hc => ?_) (fun hc => ?_)
    · have h := cond_t h hc
      refine Wp.rg [] [] ?_
      refine Runs.batch 2 kr ?_
      obtain ⟨r1, e_r1, h⟩ := bind_some h
      refine Runs.callK false 24 137 [] [.t (.sl 1 (p0.map (eInt .u8))), .t (.int .i64 p2)] _ _ _ rfl rfl kr kr kr kr kr (impl_GetMan_ok u p0 p2 r1 e_r1) kr ?_
      refine Runs.all kr ?_
      refine blkN ?_
      refine thenN ?_
      exact ⟨(r1.2.2, p1, 0, r1.1.fGen, r1.1.fSize, r1.1.fLen, r1.1.fSums, 0, 0, 0, []), h, Le.trans (Le.emptyO 8 9 524809 5 1 [.t (.int .i64 p1), .t (.int .i64 0), .t (.int .i64 r1.1.fGen), .t (.int .i64 r1.1.fSize), .t (.int .i64 r1.1.fLen), .own 1572867, .t (.int .i64 0), .t (.int .i64 0), .t (.int .i64 0), .nil] kr kr kr) (Le.of (mo := []) (mr := [(524805, 1572867)]) kr kr kr kr)⟩
    have h := cond_f h hc
    refine Wp.srg [] [] ?_
    refine Runs.alln ?_
    refine Wp.fg ⟨[(0, .t (.sl 1 (p0.map (eInt .u8)))), (2, .t (.int .i64 p2)), (6, .obj 6 0), (7, .t (.bool false)), (8, .obj 8 0), (9, .t (.bool false)), (18, .t (.int .i64 p1)), (29, .t (.bool (p1 == 2)))], [(6, [.t (.int .i64 0), .t (.int .i64 0), .t (.int .i64 0), .t (.int .i64 0), .t (.int .i64 0), .nil, .t (.int .i64 0), .t (.int .i64 0), .t (.int .i64 0), .nil]), (8, [.t (.int .i64 p1), .t (.int .i64 0), .t (.int .i64 0), .t (.int .i64 0), .t (.int .i64 0), .nil, .t (.int .i64 0), .t (.int .i64 0), .t (.int .i64 0), .nil])], []⟩ ?_
    refine Wp.cond2 (b := p1 == 2) kr (fun hc => ?_) (fun hc => ?_)
    · have h := cond_t h hc
      refine Wp.srg [] [] ?_
      refine Runs.batch 2 kr ?_
      obtain ⟨r2, e_r2, h⟩ := bind_some h
      refine Runs.callK false 34 138 [] [.t (.sl 1 (p0.map (eInt .u8))), .t (.int .i64 p2), .t (.int .i64 5)] _ _ _ rfl rfl kr kr kr kr kr (impl_readVars_ok u p0 p2 5 r2 e_r2) kr ?_
      refine Runs.alln ?_
      refine Wp.fg ⟨[(6, .obj 6 0), (7, .t (.bool false)), (8, .obj 8 0), (9, .t (.bool false)), (10, .own 2228224), (12, .t (.bool r2.2.2))], [(6, [.t (.int .i64 0), .t (.int .i64 0), .t (.int .i64 0), .t (.int .i64 0), .t (.int .i64 0), .nil, .t (.int .i64 0), .t (.int .i64 0), .t (.int .i64 0), .nil]), (8, [.t (.int .i64 p1), .t (.int .i64 0), .t (.int .i64 0), .t (.int .i64 0), .t (.int .i64 0), .nil, .t (.int .i64 0), .t (.int .i64 0), .t (.int .i64 0), .nil])], [(2228224, .live 3 1 (r2.1.map (eInt .i64)))]⟩ ?_
      refine Wp.seq ?_
      refine Wp.srg [] [] ?_
      refine Runs.alln ?_
      refine Wp.fg ⟨[(6, .obj 6 0), (7, .t (.bool false)), (8, .obj 8 0), (9, .t (.bool false)), (10, .own 2228224), (39, .t (.bool (!r2.2.2)))], [(6, [.t (.int .i64 0), .t (.int .i64 0), .t (.int .i64 0), .t (.int .i64 0), .t (.int .i64 0), .nil, .t (.int .i64 0), .t (.int .i64 0), .t (.int .i64 0), .nil]), (8, [.t (.int .i64 p1), .t (.int .i64 0), .t (.int .i64 0), .t (.int .i64 0), .t (.int .i64 0), .nil, .t (.int .i64 0), .t (.int .i64 0), .t (.int .i64 0), .nil])], [(2228224, .live 3 1 (r2.1.map (eInt .i64)))]⟩ ?_
      refine Wp.cond2 (b := !r2.2.2) kr (fun hc => ?_) (fun hc => ?_)
      · have h := cond_t h hc
        refine Wp.srg [] [] ?_
        refine Runs.alln ?_
        refine Wp.fg ⟨[(6, .obj 6 0), (7, .t (.bool false)), (8, .obj 8 0), (9, .t (.bool false)), (10, .own 2228224)], [(6, [.t (.int .i64 0), .t (.int .i64 0), .t (.int .i64 0), .t (.int .i64 0), .t (.int .i64 0), .nil, .t (.int .i64 0), .t (.int .i64 0), .t (.int .i64 0), .nil]), (8, [.t (.int .i64 p1), .t (.int .i64 0), .t (.int .i64 0), .t (.int .i64 0), .t (.int .i64 0), .nil, .t (.int .i64 0), .t (.int .i64 0), .t (.int .i64 0), .nil])], [(2228224, .live 3 1 (r2.1.map (eInt .i64)))]⟩ ?_
        refine Wp.ret ?_
        refine thenR ?_
        refine blkR ?_
        refine thenR ?_
        obtain rfl := Option.some.inj h
        exact RetK [.agg [.t (.int .i64 0), .t (.int .i64 0), .t (.int .i64 0), .t (.int .i64 0), .t (.int .i64 0), .nil, .t (.int .i64 0), .t (.int .i64 0), .t (.int .i64 0), .nil], .t (.bool false)] (.tup [.agg [.t (.int .i64 0), .t (.int .i64 0), .t (.int .i64 0), .t (.int .i64 0), .t (.int .i64 0), .nil, .t (.int .i64 0), .t (.int .i64 0), .t (.int .i64 0), .nil], .one (.t (.bool false))]) [] kr kr (.tup (.cons (.agg (.cons (.refl _) (.cons (.refl _) (.cons (.refl _) (.cons (.refl _) (.cons (.refl _) (.cons (.nilO _ _) (.cons (.refl _) (.cons (.refl _) (.cons (.refl _) (.cons (.nilO _ _) .nil))))))))))) (.cons (.refl _) .nil))) .nil
      have h := cond_f h hc
      refine Wp.skip (thenN ?_)
      refine Wp.regionA (pOf []) (rhoOf [(8, .obj 8), (10, .own 34), (41, .own 34), (42, .el 34), (43, .frz), (44, .own 34), (45, .el 34), (46, .frz), (47, .own 34), (48, .el 34), (49, .frz), (50, .frz), (51, .frz), (52, .own 34), (53, .el 34), (54, .frz), (55, .own 34), (56, .el 34), (57, .frz), (58, .frz), (59, .frz), (60, .obj 8), (61, .obj 8), (62, .obj 8)]) kr kr ?_
      refine Runs.batch 1 kr ?_
      obtain ⟨y3, e_y3, h⟩ := bind_some h
      refine Runs.idxO (e := 3) (e' := 3) (kk := .i64) (sz := 1) (eInt .i64) r2.1 0 2228224 rfl kr kr kr kr kr kr kr e_y3 ?_
      refine Runs.loadE (e' := 3) (sz := 1) (m := 1) (gg := false) (eInt .i64) r2.1 2228224 (Int.toNat 0) 0 (.t (.int .i64 y3)) rfl kr kr kr kr kr kr (idx_some e_y3).2 kr ?_
      refine Runs.batch 1 kr ?_
      obtain ⟨y4, e_y4, h⟩ := bind_some h
      refine Runs.idxO (e := 3) (e' := 3) (kk := .i64) (sz := 1) (eInt .i64) r2.1 1 2228224 rfl kr kr kr kr kr kr kr e_y4 ?_
      refine Runs.loadE (e' := 3) (sz := 1) (m := 1) (gg := false) (eInt .i64) r2.1 2228224 (Int.toNat 1) 0 (.t (.int .i64 y4)) rfl kr kr kr kr kr kr (idx_some e_y4).2 kr ?_
      refine Runs.batch 1 kr ?_
      obtain ⟨y5, e_y5, h⟩ := bind_some h
      refine Runs.idxO (e := 3) (e' := 3) (kk := .i64) (sz := 1) (eInt .i64) r2.1 2 2228224 rfl kr kr kr kr kr kr kr e_y5 ?_
      refine Runs.loadE (e' := 3) (sz := 1) (m := 1) (gg := false) (eInt .i64) r2.1 2228224 (Int.toNat 2) 0 (.t (.int .i64 y5)) rfl kr kr kr kr kr kr (idx_some e_y5).2 kr ?_
      refine Runs.batch 3 kr ?_
      obtain ⟨y6, e_y6, h⟩ := bind_some h
      refine Runs.idxO (e := 3) (e' := 3) (kk := .i64) (sz := 1) (eInt .i64) r2.1 3 2228224 rfl kr kr kr kr kr kr kr e_y6 ?_
      refine Runs.loadE (e' := 3) (sz := 1) (m := 1) (gg := false) (eInt .i64) r2.1 2228224 (Int.toNat 3) 0 (.t (.int .i64 y6)) rfl kr kr kr kr kr kr (idx_some e_y6).2 kr ?_
      refine Runs.batch 1 kr ?_
      obtain ⟨y7, e_y7, h⟩ := bind_some h
      refine Runs.idxO (e := 3) (e' := 3) (kk := .i64) (sz := 1) (eInt .i64) r2.1 4 2228224 rfl kr kr kr kr kr kr kr e_y7 ?_
      refine Runs.loadE (e' := 3) (sz := 1) (m := 1) (gg := false) (eInt .i64) r2.1 2228224 (Int.toNat 4) 0 (.t (.int .i64 y7)) rfl kr kr kr kr kr kr (idx_some e_y7).2 kr ?_
      refine Runs.all kr ?_
      refine blkN ?_
      refine thenN ?_
      exact ⟨(true, p1, y3, 0, 0, 0, [], bOr .i64 y4 (bShl .i64 y5 20), bOr .i64 y6 (bShl .i64 y7 20), 0, []), h, Le.trans (Le.emptyO 8 5 524805 220 2 [.t (.int .i64 p1), .t (.int .i64 y3), .t (.int .i64 0), .t (.int .i64 0), .t (.int .i64 0), .nil, .t (.int .i64 (bOr .i64 y4 (bShl .i64 y5 20))), .t (.int .i64 (bOr .i64 y6 (bShl .i64 y7 20))), .t (.int .i64 0), .nil] kr kr kr) (Le.trans (Le.emptyO 8 9 524809 5 1 [.t (.int .i64 p1), .t (.int .i64 y3), .t (.int .i64 0), .t (.int .i64 0), .t (.int .i64 0), .own 524805, .t (.int .i64 (bOr .i64 y4 (bShl .i64 y5 20))), .t (.int .i64 (bOr .i64 y6 (bShl .i64 y7 20))), .t (.int .i64 0), .nil] kr kr kr) (Le.of (mo := []) (mr := []) kr kr kr kr))⟩
    have h := cond_f h hc
    refine Wp.srg [] [] ?_
    refine Runs.alln ?_
    refine Wp.fg ⟨[(0, .t (.sl 1 (p0.map (eInt .u8)))), (2, .t (.int .i64 p2)), (6, .obj 6 0), (7, .t (.bool false)), (8, .obj 8 0), (9, .t (.bool false)), (18, .t (.int .i64 p1)), (63, .t (.bool (p1 == 3)))], [(6, [.t (.int .i64 0), .t (.int .i64 0), .t (.int .i64 0), .t (.int .i64 0), .t (.int .i64 0), .nil, .t (.int .i64 0), .t (.int .i64 0), .t (.int .i64 0), .nil]), (8, [.t (.int .i64 p1), .t (.int .i64 0), .t (.int .i64 0), .t (.int .i64 0), .t (.int .i64 0), .nil, .t (.int .i64 0), .t (.int .i64 0), .t (.int .i64 0), .nil])], []⟩ ?_
    refine Wp.cond2 (b := p1 == 3) kr (fun hc => ?_) (fun hc => ?_)
    · have h := cond_t h hc
      refine Wp.srg [] [] ?_
      refine Runs.batch 2 kr ?_
      obtain ⟨r8, e_r8, h⟩ := bind_some h
      refine Runs.callK false 68 138 [] [.t (.sl 1 (p0.map (eInt .u8))), .t (.int .i64 p2), .t (.int .i64 2)] _ _ _ rfl rfl kr kr kr kr kr (impl_readVars_ok u p0 p2 2 r8 e_r8) kr ?_
      refine Runs.alln ?_
      refine Wp.fg ⟨[(0, .t (.sl 1 (p0.map (eInt .u8)))), (6, .obj 6 0), (7, .t (.bool false)), (8, .obj 8 0), (9, .t (.bool false)), (13, .own 4456448), (14, .t (.int .i64 r8.2.1)), (15, .t (.bool r8.2.2))], [(6, [.t (.int .i64 0), .t (.int .i64 0), .t (.int .i64 0), .t (.int .i64 0), .t (.int .i64 0), .nil, .t (.int .i64 0), .t (.int .i64 0), .t (.int .i64 0), .nil]), (8, [.t (.int .i64 p1), .t (.int .i64 0), .t (.int .i64 0), .t (.int .i64 0), .t (.int .i64 0), .nil, .t (.int .i64 0), .t (.int .i64 0), .t (.int .i64 0), .nil])], [(4456448, .live 3 1 (r8.1.map (eInt .i64)))]⟩ ?_
      refine Wp.seq ?_
      refine Wp.srg [] [] ?_
      refine Runs.alln ?_
      refine Wp.fg ⟨[(0, .t (.sl 1 (p0.map (eInt .u8)))), (6, .obj 6 0), (7, .t (.bool false)), (8, .obj 8 0), (9, .t (.bool false)), (13, .own 4456448), (14, .t (.int .i64 r8.2.1)), (73, .t (.bool (!r8.2.2)))], [(6, [.t (.int .i64 0), .t (.int .i64 0), .t (.int .i64 0), .t (.int .i64 0), .t (.int .i64 0), .nil, .t (.int .i64 0), .t (.int .i64 0), .t (.int .i64 0), .nil]), (8, [.t (.int .i64 p1), .t (.int .i64 0), .t (.int .i64 0), .t (.int .i64 0), .t (.int .i64 0), .nil, .t (.int .i64 0), .t (.int .i64 0), .t (.int .i64 0), .nil])], [(4456448, .live 3 1 (r8.1.map (eInt .i64)))]⟩ ?_
      refine Wp.cond2 (b := !r8.2.2) kr (fun hc => ?_) (fun hc => ?_)
      · have h := cond_t h hc
        refine Wp.srg [] [] ?_
        refine Runs.alln ?_
        refine Wp.fg ⟨[(0, .t (.sl 1 (p0.map (eInt .u8)))), (6, .obj 6 0), (7, .t (.bool false)), (8, .obj 8 0), (9, .t (.bool false)), (13, .own 4456448), (14, .t (.int .i64 r8.2.1))], [(6, [.t (.int .i64 0), .t (.int .i64 0), .t (.int .i64 0), .t (.int .i64 0), .t (.int .i64 0), .nil, .t (.int .i64 0), .t (.int .i64 0), .t (.int .i64 0), .nil]), (8, [.t (.int .i64 p1), .t (.int .i64 0), .t (.int .i64 0), .t (.int .i64 0), .t (.int .i64 0), .nil, .t (.int .i64 0), .t (.int .i64 0), .t (.int .i64 0), .nil])], [(4456448, .live 3 1 (r8.1.map (eInt .i64)))]⟩ ?_
        refine Wp.ret ?_
        refine thenR ?_
        refine blkR ?_
        refine thenR ?_
        obtain rfl := Option.some.inj h
        exact RetK [.agg [.t (.int .i64 0), .t (.int .i64 0), .t (.int .i64 0), .t (.int .i64 0), .t (.int .i64 0), .nil, .t (.int .i64 0), .t (.int .i64 0), .t (.int .i64 0), .nil], .t (.bool false)] (.tup [.agg [.t (.int .i64 0), .t (.int .i64 0), .t (.int .i64 0), .t (.int .i64 0), .t (.int .i64 0), .nil, .t (.int .i64 0), .t (.int .i64 0), .t (.int .i64 0), .nil], .one (.t (.bool false))]) [] kr kr (.tup (.cons (.agg (.cons (.refl _) (.cons (.refl _) (.cons (.refl _) (.cons (.refl _) (.cons (.refl _) (.cons (.nilO _ _) (.cons (.refl _) (.cons (.refl _) (.cons (.refl _) (.cons (.nilO _ _) .nil))))))))))) (.cons (.refl _) .nil))) .nil
      have h := cond_f h hc
      refine Wp.skip (thenN ?_)
      refine Wp.seq ?_
      refine Wp.regionA (pOf []) (rhoOf [(8, .obj 8), (13, .own 68), (75, .own 68), (76, .el 68), (77, .frz), (78, .own 68), (79, .el 68), (80, .frz), (81, .obj 8), (82, .obj 8)]) kr kr ?_
      refine Runs.batch 1 kr ?_
      obtain ⟨y9, e_y9, h⟩ := bind_some h
      refine Runs.idxO (e := 3) (e' := 3) (kk := .i64) (sz := 1) (eInt .i64) r8.1 0 4456448 rfl kr kr kr kr kr kr kr e_y9 ?_
      refine Runs.loadE (e' := 3) (sz := 1) (m := 1) (gg := false) (eInt .i64) r8.1 4456448 (Int.toNat 0) 0 (.t (.int .i64 y9)) rfl kr kr kr kr kr kr (idx_some e_y9).2 kr ?_
      refine Runs.batch 1 kr ?_
      obtain ⟨y10, e_y10, h⟩ := bind_some h
      refine Runs.idxO (e := 3) (e' := 3) (kk := .i64) (sz := 1) (eInt .i64) r8.1 1 4456448 rfl kr kr kr kr kr kr kr e_y10 ?_
      refine Runs.loadE (e' := 3) (sz := 1) (m := 1) (gg := false) (eInt .i64) r8.1 4456448 (Int.toNat 1) 0 (.t (.int .i64 y10)) rfl kr kr kr kr kr kr (idx_some e_y10).2 kr ?_
      refine Runs.alln ?_
      refine Wp.fg ⟨[(0, .t (.sl 1 (p0.map (eInt .u8)))), (6, .obj 6 0), (7, .t (.bool false)), (8, .obj 8 0), (9, .t (.bool false)), (14, .t (.int .i64 r8.2.1))], [(6, [.t (.int .i64 0), .t (.int .i64 0), .t (.int .i64 0), .t (.int .i64 0), .t (.int .i64 0), .nil, .t (.int .i64 0), .t (.int .i64 0), .t (.int .i64 0), .nil]), (8, [.t (.int .i64 p1), .t (.int .i64 y9), .t (.int .i64 0), .t (.int .i64 0), .t (.int .i64 0), .nil, .t (.int .i64 0), .t (.int .i64 0), .t (.int .i64 y10), .nil])], []⟩ ?_
      refine Wp.rg [] [] ?_
      refine Runs.batch 2 kr ?_
      obtain ⟨r11, e_r11, h⟩ := bind_some h
      refine Runs.callK false 86 139 [] [.t (.sl 1 (p0.map (eInt .u8))), .t (.int .i64 r8.2.1), .t (.int .i64 6)] _ _ _ rfl rfl kr kr kr kr kr (impl_GetPart_ok u p0 r8.2.1 6 r11 e_r11) kr ?_
      refine Runs.all kr ?_
      refine blkN ?_
      refine thenN ?_
      exact ⟨(r11.2.2, p1, y9, 0, 0, 0, [], 0, 0, y10, r11.1), h, Le.trans (Le.emptyO 8 5 524805 220 2 [.t (.int .i64 p1), .t (.int .i64 y9), .t (.int .i64 0), .t (.int .i64 0), .t (.int .i64 0), .nil, .t (.int .i64 0), .t (.int .i64 0), .t (.int .i64 y10), .own 5636096] kr kr kr) (Le.of (mo := []) (mr := [(524809, 5636096)]) kr kr kr kr)⟩
    have h := cond_f h hc
    refine Wp.srg [] [] ?_
    refine Runs.alln ?_
    refine Wp.fg ⟨[(0, .t (.sl 1 (p0.map (eInt .u8)))), (2, .t (.int .i64 p2)), (6, .obj 6 0), (7, .t (.bool false)), (8, .obj 8 0), (9, .t (.bool false)), (91, .t (.bool (p1 == 4)))], [(6, [.t (.int .i64 0), .t (.int .i64 0), .t (.int .i64 0), .t (.int .i64 0), .t (.int .i64 0), .nil, .t (.int .i64 0), .t (.int .i64 0), .t (.int .i64 0), .nil]), (8, [.t (.int .i64 p1), .t (.int .i64 0), .t (.int .i64 0), .t (.int .i64 0), .t (.int .i64 0), .nil, .t (.int .i64 0), .t (.int .i64 0), .t (.int .i64 0), .nil])], []⟩ ?_
    refine Wp.cond2 (b := p1 == 4) kr (fun hc => ?_) (fun hc => ?_)
    · have h := cond_t h hc
      refine Wp.rg [] [] ?_
      refine Runs.batch 2 kr ?_
      obtain ⟨r12, e_r12, h⟩ := bind_some h
      refine Runs.callK false 96 83 [] [.t (.sl 1 (p0.map (eInt .u8))), .t (.int .i64 p2)] _ _ _ rfl rfl kr kr kr kr kr (impl_GetVar_ok u p0 p2 r12 e_r12) kr ?_
      refine Runs.all kr ?_
      refine blkN ?_
      refine thenN ?_
      exact ⟨(r12.2.2, p1, r12.1, 0, 0, 0, [], 0, 0, 0, []), h, Le.trans (Le.emptyO 8 5 524805 220 2 [.t (.int .i64 p1), .t (.int .i64 r12.1), .t (.int .i64 0), .t (.int .i64 0), .t (.int .i64 0), .nil, .t (.int .i64 0), .t (.int .i64 0), .t (.int .i64 0), .nil] kr kr kr) (Le.trans (Le.emptyO 8 9 524809 5 1 [.t (.int .i64 p1), .t (.int .i64 r12.1), .t (.int .i64 0), .t (.int .i64 0), .t (.int .i64 0), .own 524805, .t (.int .i64 0), .t (.int .i64 0), .t (.int .i64 0), .nil] kr kr kr) (Le.of (mo := []) (mr := []) kr kr kr kr))⟩
    have h := cond_f h hc
    refine Wp.skip ?_
    refine blkN ?_
    refine thenN ?_
    exact ⟨(false, p1, 0, 0, 0, 0, [], 0, 0, 0, []), h, Le.trans (Le.emptyO 8 5 524805 220 2 [.t (.int .i64 p1), .t (.int .i64 0), .t (.int .i64 0), .t (.int .i64 0), .t (.int .i64 0), .nil, .t (.int .i64 0), .t (.int .i64 0), .t (.int .i64 0), .nil] kr kr kr) (Le.trans (Le.emptyO 8 9 524809 5 1 [.t (.int .i64 p1), .t (.int .i64 0), .t (.int .i64 0), .t (.int .i64 0), .t (.int .i64 0), .own 524805, .t (.int .i64 0), .t (.int .i64 0), .t (.int .i64 0), .nil] kr kr kr) (Le.of (mo := []) (mr := []) kr kr kr kr))⟩
theorem impl_Msg__isBare_ok (u : Nat) (p0 : Msg) (p1 : Bool) (p2 : Bool) (p3 : Bool) (r : Bool) (h : impl_Msg__isBare u p0 p1 p2 p3 = some r) : CallOK Tryz.prog 141 [.agg [.t (.int .i64 p0.fKind), .t (.int .i64 p0.fGen), .t (.int .i64 p0.fMan.fGen), .t (.int .i64 p0.fMan.fSize), .t (.int .i64 p0.fMan.fLen), .t (.sl 2 (p0.fMan.fSums.map Sum.enc)), .t (.int .i64 p0.fWant), .t (.int .i64 p0.fDone), .t (.int .i64 p0.fI), .t (.sl 1 (p0.fB.map (eInt .u8)))], .one (.t (.bool p1)), .one (.t (.bool p2)), .one (.t (.bool p3))] (.one (.t (.bool r))) [] := by
  unfold impl_Msg__isBare at h
  refine CallOK.of_bodyK (fn := Tryz.f141) (m := false) [.agg ((Msg.enc p0).map .t), .t (.bool p1), .t (.bool p2), .t (.bool p3)] kr rfl kr kr kr kr kr ?_
  refine Wp.srg [] [] ?_
  refine Runs.alln ?_
  refine Wp.fg ⟨[(1, .t (.bool p1)), (2, .t (.bool p2)), (3, .t (.bool p3)), (4, .obj 4 0), (8, .t (.bool false))], [(4, ((Msg.enc p0).map .t))], []⟩ ?_
  refine Wp.srg [] [] ?_
  refine Runs.batch 2 kr ?_
  rcases tf (p1) with hc | hc
  · have h := cond_t h hc
    refine Runs.known 10 (v := true) kr hc ?_
    refine Runs.batch 7 kr ?_
    rcases tf (p2) with hc | hc
    · have h := cond_t h hc
      refine Runs.known 17 (v := true) kr hc ?_
      refine Runs.batch 13 kr ?_
      rcases tf (p3) with hc | hc
      · have h := cond_t h hc
        refine Runs.known 30 (v := true) kr hc ?_
        refine Runs.alln ?_
        refine Wp.fg ⟨[(8, .t (.bool true))], [], []⟩ ?_
        refine Wp.ret ?_
        obtain rfl := Option.some.inj h
        exact RetK [.t (.bool true)] _ [] kr kr (.refl _) .nil
      have h := cond_f h hc
      refine Runs.known 30 (v := false) kr hc ?_
      refine Runs.batch 4 kr ?_
      rcases tf (p0.fI == 0) with hc | hc
      · have h := cond_t h hc
        refine Runs.known 34 (v := true) kr hc ?_
        refine Runs.batch 2 kr ?_
        refine Runs.lenT (y := .t (.sl 1 (p0.fB.map (eInt .u8)))) (e := 5) (eInt .u8) p0.fB 1 rfl rfl rfl kr kr kr kr kr ?_
        refine Runs.alln ?_
        refine Wp.fg ⟨[(8, .t (.bool (((p0.fB.length : Int)) == 0)))], [], []⟩ ?_
        refine Wp.ret ?_
        obtain rfl := Option.some.inj h
        exact RetK [.t (.bool (((p0.fB.length : Int)) == 0))] _ [] kr kr (.refl _) .nil
      have h := cond_f h hc
      refine Runs.known 34 (v := false) kr hc ?_
      refine Runs.alln ?_
      refine Wp.fg ⟨[(8, .t (.bool false))], [], []⟩ ?_
      refine Wp.ret ?_
      obtain rfl := Option.some.inj h
      exact RetK [.t (.bool false)] _ [] kr kr (.refl _) .nil
    have h := cond_f h hc
    refine Runs.known 17 (v := false) kr hc ?_
    refine Runs.batch 4 kr ?_
    rcases tf (p0.fWant == 0) with hc | hc
    · have h := cond_t h hc
      refine Runs.known 21 (v := true) kr hc ?_
      refine Runs.batch 7 kr ?_
      rcases tf (p0.fDone == 0) with hc | hc
      · have h := cond_t h hc
        refine Runs.known 28 (v := true) kr hc ?_
        refine Runs.batch 2 kr ?_
        rcases tf (p3) with hc | hc
        · have h := cond_t h hc
          refine Runs.known 30 (v := true) kr hc ?_
          refine Runs.alln ?_
          refine Wp.fg ⟨[(8, .t (.bool true))], [], []⟩ ?_
          refine Wp.ret ?_
          obtain rfl := Option.some.inj h
          exact RetK [.t (.bool true)] _ [] kr kr (.refl _) .nil
        have h := cond_f h hc
        refine Runs.known 30 (v := false) kr hc ?_
        refine Runs.batch 4 kr ?_
        rcases tf (p0.fI == 0) with hc | hc
        · have h := cond_t h hc
          refine Runs.known 34 (v := true) kr hc ?_
          refine Runs.batch 2 kr ?_
          refine Runs.lenT (y := .t (.sl 1 (p0.fB.map (eInt .u8)))) (e := 5) (eInt .u8) p0.fB 1 rfl rfl rfl kr kr kr kr kr ?_
          refine Runs.alln ?_
          refine Wp.fg ⟨[(8, .t (.bool (((p0.fB.length : Int)) == 0)))], [], []⟩ ?_
          refine Wp.ret ?_
          obtain rfl := Option.some.inj h
          exact RetK [.t (.bool (((p0.fB.length : Int)) == 0))] _ [] kr kr (.refl _) .nil
        have h := cond_f h hc
        refine Runs.known 34 (v := false) kr hc ?_
        refine Runs.alln ?_
        refine Wp.fg ⟨[(8, .t (.bool false))], [], []⟩ ?_
        refine Wp.ret ?_
        obtain rfl := Option.some.inj h
        exact RetK [.t (.bool false)] _ [] kr kr (.refl _) .nil
      have h := cond_f h hc
      refine Runs.known 28 (v := false) kr hc ?_
      refine Runs.alln ?_
      refine Wp.fg ⟨[(8, .t (.bool false))], [], []⟩ ?_
      refine Wp.ret ?_
      obtain rfl := Option.some.inj h
      exact RetK [.t (.bool false)] _ [] kr kr (.refl _) .nil
    have h := cond_f h hc
    refine Runs.known 21 (v := false) kr hc ?_
    refine Runs.alln ?_
    refine Wp.fg ⟨[(8, .t (.bool false))], [], []⟩ ?_
    refine Wp.ret ?_
    obtain rfl := Option.some.inj h
    exact RetK [.t (.bool false)] _ [] kr kr (.refl _) .nil
  have h := cond_f h hc
  refine Runs.known 10 (v := false) kr hc ?_
  refine Runs.batch 2 kr ?_
  obtain ⟨r1, e_r1, h⟩ := bind_some h
  refine Runs.callK false 13 207 [] [.agg ((Manifest.enc p0.fMan).map .t)] _ _ _ rfl rfl kr kr kr kr kr (impl_isZeroMan_ok u p0.fMan r1 e_r1) kr ?_
  refine Runs.batch 2 kr ?_
  rcases tf (r1) with hc | hc
  · have h := cond_t h hc
    refine Runs.known 15 (v := true) kr hc ?_
    refine Runs.batch 2 kr ?_
    rcases tf (p2) with hc | hc
    · have h := cond_t h hc
      refine Runs.known 17 (v := true) kr hc ?_
      refine Runs.batch 13 kr ?_
      rcases tf (p3) with hc | hc
      · have h := cond_t h hc
        refine Runs.known 30 (v := true) kr hc ?_
        refine Runs.alln ?_
        refine Wp.fg ⟨[(8, .t (.bool true))], [], []⟩ ?_
        refine Wp.ret ?_
        obtain rfl := Option.some.inj h
        exact RetK [.t (.bool true)] _ [] kr kr (.refl _) .nil
      have h := cond_f h hc
      refine Runs.known 30 (v := false) kr hc ?_
      refine Runs.batch 4 kr ?_
      rcases tf (p0.fI == 0) with hc | hc
      · have h := cond_t h hc
        refine Runs.known 34 (v := true) kr hc ?_
        refine Runs.batch 2 kr ?_
        refine Runs.lenT (y := .t (.sl 1 (p0.fB.map (eInt .u8)))) (e := 5) (eInt .u8) p0.fB 1 rfl rfl rfl kr kr kr kr kr ?_
        refine Runs.alln ?_
        refine Wp.fg ⟨[(8, .t (.bool (((p0.fB.length : Int)) == 0)))], [], []⟩ ?_
        refine Wp.ret ?_
        obtain rfl := Option.some.inj h
        exact RetK [.t (.bool (((p0.fB.length : Int)) == 0))] _ [] kr kr (.refl _) .nil
      have h := cond_f h hc
      refine Runs.known 34 (v := false) kr hc ?_
      refine Runs.alln ?_
      refine Wp.fg ⟨[(8, .t (.bool false))], [], []⟩ ?_
      refine Wp.ret ?_
      obtain rfl := Option.some.inj h
      exact RetK [.t (.bool false)] _ [] kr kr (.refl _) .nil
    have h := cond_f h hc
    refine Runs.known 17 (v := false) kr hc ?_
    refine Runs.batch 4 kr ?_
    rcases tf (p0.fWant == 0) with hc | hc
    · have h := cond_t h hc
      refine Runs.known 21 (v := true) kr hc ?_
      refine Runs.batch 7 kr ?_
      rcases tf (p0.fDone == 0) with hc | hc
      · have h := cond_t h hc
        refine Runs.known 28 (v := true) kr hc ?_
        refine Runs.batch 2 kr ?_
        rcases tf (p3) with hc | hc
        · have h := cond_t h hc
          refine Runs.known 30 (v := true) kr hc ?_
          refine Runs.alln ?_
          refine Wp.fg ⟨[(8, .t (.bool true))], [], []⟩ ?_
          refine Wp.ret ?_
          obtain rfl := Option.some.inj h
          exact RetK [.t (.bool true)] _ [] kr kr (.refl _) .nil
        have h := cond_f h hc
        refine Runs.known 30 (v := false) kr hc ?_
        refine Runs.batch 4 kr ?_
        rcases tf (p0.fI == 0) with hc | hc
        · have h := cond_t h hc
          refine Runs.known 34 (v := true) kr hc ?_
          refine Runs.batch 2 kr ?_
          refine Runs.lenT (y := .t (.sl 1 (p0.fB.map (eInt .u8)))) (e := 5) (eInt .u8) p0.fB 1 rfl rfl rfl kr kr kr kr kr ?_
          refine Runs.alln ?_
          refine Wp.fg ⟨[(8, .t (.bool (((p0.fB.length : Int)) == 0)))], [], []⟩ ?_
          refine Wp.ret ?_
          obtain rfl := Option.some.inj h
          exact RetK [.t (.bool (((p0.fB.length : Int)) == 0))] _ [] kr kr (.refl _) .nil
        have h := cond_f h hc
        refine Runs.known 34 (v := false) kr hc ?_
        refine Runs.alln ?_
        refine Wp.fg ⟨[(8, .t (.bool false))], [], []⟩ ?_
        refine Wp.ret ?_
        obtain rfl := Option.some.inj h
        exact RetK [.t (.bool false)] _ [] kr kr (.refl _) .nil
      have h := cond_f h hc
      refine Runs.known 28 (v := false) kr hc ?_
      refine Runs.alln ?_
      refine Wp.fg ⟨[(8, .t (.bool false))], [], []⟩ ?_
      refine Wp.ret ?_
      obtain rfl := Option.some.inj h
      exact RetK [.t (.bool false)] _ [] kr kr (.refl _) .nil
    have h := cond_f h hc
    refine Runs.known 21 (v := false) kr hc ?_
    refine Runs.alln ?_
    refine Wp.fg ⟨[(8, .t (.bool false))], [], []⟩ ?_
    refine Wp.ret ?_
    obtain rfl := Option.some.inj h
    exact RetK [.t (.bool false)] _ [] kr kr (.refl _) .nil
  have h := cond_f h hc
  refine Runs.known 15 (v := false) kr hc ?_
  refine Runs.alln ?_
  refine Wp.fg ⟨[(8, .t (.bool false))], [], []⟩ ?_
  refine Wp.ret ?_
  obtain rfl := Option.some.inj h
  exact RetK [.t (.bool false)] _ [] kr kr (.refl _) .nil
theorem impl_isGen_ok (u : Nat) (p0 : Int) (r : Bool) (h : impl_isGen u p0 = some r) : CallOK Tryz.prog 142 [.one (.t (.int .i64 p0))] (.one (.t (.bool r))) [] := by
  unfold impl_isGen at h
  refine CallOK.of_bodyK (fn := Tryz.f142) (m := false) [.t (.int .i64 p0)] kr rfl kr kr kr kr kr ?_
  refine Wp.srg [] [] ?_
  refine Runs.alln ?_
  refine Wp.fg ⟨[(0, .t (.int .i64 p0)), (2, .t (.bool false))], [], []⟩ ?_
  refine Wp.srg [] [] ?_
  refine Runs.batch 1 kr ?_
  obtain ⟨r1, e_r1, h⟩ := bind_some h
  refine Runs.callK false 4 58 [] [.t (.int .i64 p0), .t (.int .i64 0), .t (.int .i64 1000000)] _ _ _ rfl rfl kr kr kr kr kr (impl_within_ok u p0 0 1000000 r1 e_r1) kr ?_
  refine Runs.alln ?_
  refine Wp.fg ⟨[(2, .t (.bool r1))], [], []⟩ ?_
  refine Wp.ret ?_
  obtain rfl := Option.some.inj h
  exact RetK [.t (.bool r1)] _ [] kr kr (.refl _) .nil
theorem impl_SetOk_ok (u : Nat) (p0 : Int) (r : Bool) (h : impl_SetOk u p0 = some r) : CallOK Tryz.prog 143 [.one (.t (.int .i64 p0))] (.one (.t (.bool r))) [] := by
  unfold impl_SetOk at h
  refine CallOK.of_bodyK (fn := Tryz.f143) (m := false) [.t (.int .i64 p0)] kr rfl kr kr kr kr kr ?_
  refine Wp.srg [] [] ?_
  refine Runs.alln ?_
  refine Wp.fg ⟨[(0, .t (.int .i64 p0)), (2, .t (.bool false))], [], []⟩ ?_
  refine Wp.srg [] [] ?_
  refine Runs.batch 1 kr ?_
  obtain ⟨r1, e_r1, h⟩ := bind_some h
  refine Runs.callK false 4 58 [] [.t (.int .i64 p0), .t (.int .i64 0), .t (.int .i64 1099511627775)] _ _ _ rfl rfl kr kr kr kr kr (impl_within_ok u p0 0 1099511627775 r1 e_r1) kr ?_
  refine Runs.alln ?_
  refine Wp.fg ⟨[(2, .t (.bool r1))], [], []⟩ ?_
  refine Wp.ret ?_
  obtain rfl := Option.some.inj h
  exact RetK [.t (.bool r1)] _ [] kr kr (.refl _) .nil
theorem impl_isPlace_ok (u : Nat) (p0 : Int) (r : Bool) (h : impl_isPlace u p0 = some r) : CallOK Tryz.prog 144 [.one (.t (.int .i64 p0))] (.one (.t (.bool r))) [] := by
  unfold impl_isPlace at h
  refine CallOK.of_bodyK (fn := Tryz.f144) (m := false) [.t (.int .i64 p0)] kr rfl kr kr kr kr kr ?_
  refine Wp.srg [] [] ?_
  refine Runs.alln ?_
  refine Wp.fg ⟨[(0, .t (.int .i64 p0)), (2, .t (.bool false))], [], []⟩ ?_
  refine Wp.srg [] [] ?_
  refine Runs.batch 1 kr ?_
  obtain ⟨r1, e_r1, h⟩ := bind_some h
  refine Runs.callK false 4 58 [] [.t (.int .i64 p0), .t (.int .i64 0), .t (.int .i64 39)] _ _ _ rfl rfl kr kr kr kr kr (impl_within_ok u p0 0 39 r1 e_r1) kr ?_
  refine Runs.alln ?_
  refine Wp.fg ⟨[(2, .t (.bool r1))], [], []⟩ ?_
  refine Wp.ret ?_
  obtain rfl := Option.some.inj h
  exact RetK [.t (.bool r1)] _ [] kr kr (.refl _) .nil
theorem impl_MsgOk_ok (u : Nat) (p0 : Msg) (r : Bool) (h : impl_MsgOk u p0 = some r) : CallOK Tryz.prog 85 [.agg [.t (.int .i64 p0.fKind), .t (.int .i64 p0.fGen), .t (.int .i64 p0.fMan.fGen), .t (.int .i64 p0.fMan.fSize), .t (.int .i64 p0.fMan.fLen), .t (.sl 2 (p0.fMan.fSums.map Sum.enc)), .t (.int .i64 p0.fWant), .t (.int .i64 p0.fDone), .t (.int .i64 p0.fI), .t (.sl 1 (p0.fB.map (eInt .u8)))]] (.one (.t (.bool r))) [] := by
  unfold impl_MsgOk at h
  refine CallOK.of_bodyK (fn := Tryz.f85) (m := false) [.agg ((Msg.enc p0).map .t)] kr rfl kr kr kr kr kr ?_
  refine Wp.srg [] [] ?_
  refine Runs.alln ?_
  refine Wp.fg ⟨[(1, .obj 1 0), (2, .t (.bool false))], [(1, ((Msg.enc p0).map .t))], []⟩ ?_
  refine Wp.seq ?_
  refine Wp.srg [] [] ?_
  refine Runs.alln ?_
  refine Wp.fg ⟨[(1, .obj 1 0), (2, .t (.bool false)), (4, .t (.int .i64 p0.fKind))], [(1, ((Msg.enc p0).map .t))], []⟩ ?_
  refine Wp.block ?_
  refine Wp.srg [] [] ?_
  refine Runs.alln ?_
  refine Wp.fg ⟨[(1, .obj 1 0), (2, .t (.bool false)), (4, .t (.int .i64 p0.fKind)), (5, .t (.bool (p0.fKind == 1)))], [(1, ((Msg.enc p0).map .t))], []⟩ ?_
  refine Wp.cond2 (b := p0.fKind == 1) kr (fun hc => ?_) (fun hc => ?_)
  · have h := cond_t h hc
    refine Wp.srg [] [] ?_
    refine Runs.batch 2 kr ?_
    obtain ⟨r1, e_r1, h⟩ := bind_some h
    refine Runs.callK false 9 140 [] [.agg ((Manifest.enc p0.fMan).map .t)] _ _ _ rfl rfl kr kr kr kr kr (impl_ManOk_ok u p0.fMan r1 e_r1) kr ?_
    refine Runs.batch 1 kr ?_
    rcases tf (r1) with hc | hc
    · have h := cond_t h hc
      refine Runs.known 10 (v := true) kr hc ?_
      refine Runs.batch 6 kr ?_
      rcases tf (p0.fMan.fGen != 0) with hc | hc
      · have h := cond_t h hc
        refine Runs.known 16 (v := true) kr hc ?_
        refine Runs.batch 5 kr ?_
        rcases tf (p0.fGen == 0) with hc | hc
        · have h := cond_t h hc
          refine Runs.known 21 (v := true) kr hc ?_
          refine Runs.batch 1 kr ?_
          obtain ⟨r2, e_r2, h⟩ := bind_some h
          refine Runs.callK false 23 141 [] [.agg ((Msg.enc p0).map .t), .t (.bool true), .t (.bool false), .t (.bool false)] _ _ _ rfl rfl kr kr kr kr kr (impl_Msg__isBare_ok u p0 true false false r2 e_r2) kr ?_
          refine Runs.alln ?_
          refine Wp.fg ⟨[(2, .t (.bool r2))], [], []⟩ ?_
          refine Wp.ret ?_
          refine blkR ?_
          refine thenR ?_
          obtain rfl := Option.some.inj h
          exact RetK [.t (.bool r2)] _ [] kr kr (.refl _) .nil
        have h := cond_f h hc
        refine Runs.known 21 (v := false) kr hc ?_
        refine Runs.alln ?_
        refine Wp.fg ⟨[(2, .t (.bool false))], [], []⟩ ?_
        refine Wp.ret ?_
        refine blkR ?_
        refine thenR ?_
        obtain rfl := Option.some.inj h
        exact RetK [.t (.bool false)] _ [] kr kr (.refl _) .nil
      have h := cond_f h hc
      refine Runs.known 16 (v := false) kr hc ?_
      refine Runs.alln ?_
      refine Wp.fg ⟨[(2, .t (.bool false))], [], []⟩ ?_
      refine Wp.ret ?_
      refine blkR ?_
      refine thenR ?_
      obtain rfl := Option.some.inj h
      exact RetK [.t (.bool false)] _ [] kr kr (.refl _) .nil
    have h := cond_f h hc
    refine Runs.known 10 (v := false) kr hc ?_
    refine Runs.alln ?_
    refine Wp.fg ⟨[(2, .t (.bool false))], [], []⟩ ?_
    refine Wp.ret ?_
    refine blkR ?_
    refine thenR ?_
    obtain rfl := Option.some.inj h
    exact RetK [.t (.bool false)] _ [] kr kr (.refl _) .nil
  have h := cond_f h hc
  refine Wp.srg [] [] ?_
  refine Runs.alln ?_
  refine Wp.fg ⟨[(1, .obj 1 0), (2, .t (.bool false)), (4, .t (.int .i64 p0.fKind)), (25, .t (.bool (p0.fKind == 2)))], [(1, ((Msg.enc p0).map .t))], []⟩ ?_
  refine Wp.cond2 (b := p0.fKind == 2) kr (fun hc => ?_) (fun hc => ?_)
  · have h := cond_t h hc
    refine Wp.srg [] [] ?_
    refine Runs.batch 2 kr ?_
    obtain ⟨r3, e_r3, h⟩ := bind_some h
    refine Runs.callK false 29 142 [] [.t (.int .i64 p0.fGen)] _ _ _ rfl rfl kr kr kr kr kr (impl_isGen_ok u p0.fGen r3 e_r3) kr ?_
    refine Runs.batch 1 kr ?_
    rcases tf (r3) with hc | hc
    · have h := cond_t h hc
      refine Runs.known 30 (v := true) kr hc ?_
      refine Runs.batch 2 kr ?_
      obtain ⟨r4, e_r4, h⟩ := bind_some h
      refine Runs.callK false 33 143 [] [.t (.int .i64 p0.fWant)] _ _ _ rfl rfl kr kr kr kr kr (impl_SetOk_ok u p0.fWant r4 e_r4) kr ?_
      refine Runs.batch 2 kr ?_
      rcases tf (r4) with hc | hc
      · have h := cond_t h hc
        refine Runs.known 35 (v := true) kr hc ?_
        refine Runs.batch 2 kr ?_
        obtain ⟨r5, e_r5, h⟩ := bind_some h
        refine Runs.callK false 38 143 [] [.t (.int .i64 p0.fDone)] _ _ _ rfl rfl kr kr kr kr kr (impl_SetOk_ok u p0.fDone r5 e_r5) kr ?_
        refine Runs.batch 2 kr ?_
        rcases tf (r5) with hc | hc
        · have h := cond_t h hc
          refine Runs.known 40 (v := true) kr hc ?_
          refine Runs.batch 1 kr ?_
          obtain ⟨r6, e_r6, h⟩ := bind_some h
          refine Runs.callK false 42 141 [] [.agg ((Msg.enc p0).map .t), .t (.bool false), .t (.bool true), .t (.bool false)] _ _ _ rfl rfl kr kr kr kr kr (impl_Msg__isBare_ok u p0 false true false r6 e_r6) kr ?_
          refine Runs.alln ?_
          refine Wp.fg ⟨[(2, .t (.bool r6))], [], []⟩ ?_
          refine Wp.ret ?_
          refine blkR ?_
          refine thenR ?_
          obtain rfl := Option.some.inj h
          exact RetK [.t (.bool r6)] _ [] kr kr (.refl _) .nil
        have h := cond_f h hc
        refine Runs.known 40 (v := false) kr hc ?_
        refine Runs.alln ?_
        refine Wp.fg ⟨[(2, .t (.bool false))], [], []⟩ ?_
        refine Wp.ret ?_
        refine blkR ?_
        refine thenR ?_
        obtain rfl := Option.some.inj h
        exact RetK [.t (.bool false)] _ [] kr kr (.refl _) .nil
      have h := cond_f h hc
      refine Runs.known 35 (v := false) kr hc ?_
      refine Runs.alln ?_
      refine Wp.fg ⟨[(2, .t (.bool false))], [], []⟩ ?_
      refine Wp.ret ?_
      refine blkR ?_
      refine thenR ?_
      obtain rfl := Option.some.inj h
      exact RetK [.t (.bool false)] _ [] kr kr (.refl _) .nil
    have h := cond_f h hc
    refine Runs.known 30 (v := false) kr hc ?_
    refine Runs.alln ?_
    refine Wp.fg ⟨[(2, .t (.bool false))], [], []⟩ ?_
    refine Wp.ret ?_
    refine blkR ?_
    refine thenR ?_
    obtain rfl := Option.some.inj h
    exact RetK [.t (.bool false)] _ [] kr kr (.refl _) .nil
  have h := cond_f h hc
  refine Wp.srg [] [] ?_
  refine Runs.alln ?_
  refine Wp.fg ⟨[(1, .obj 1 0), (2, .t (.bool false)), (4, .t (.int .i64 p0.fKind)), (44, .t (.bool (p0.fKind == 3)))], [(1, ((Msg.enc p0).map .t))], []⟩ ?_
  refine Wp.cond2 (b := p0.fKind == 3) kr (fun hc => ?_) (fun hc => ?_)
  · have h := cond_t h hc
    refine Wp.srg [] [] ?_
    refine Runs.batch 2 kr ?_
    obtain ⟨r7, e_r7, h⟩ := bind_some h
    refine Runs.callK false 48 58 [] [.t (.int .i64 p0.fGen), .t (.int .i64 1), .t (.int .i64 1000000)] _ _ _ rfl rfl kr kr kr kr kr (impl_within_ok u p0.fGen 1 1000000 r7 e_r7) kr ?_
    refine Runs.batch 1 kr ?_
    rcases tf (r7) with hc | hc
    · have h := cond_t h hc
      refine Runs.known 49 (v := true) kr hc ?_
      refine Runs.batch 2 kr ?_
      obtain ⟨r8, e_r8, h⟩ := bind_some h
      refine Runs.callK false 52 144 [] [.t (.int .i64 p0.fI)] _ _ _ rfl rfl kr kr kr kr kr (impl_isPlace_ok u p0.fI r8 e_r8) kr ?_
      refine Runs.batch 2 kr ?_
      rcases tf (r8) with hc | hc
      · have h := cond_t h hc
        refine Runs.known 54 (v := true) kr hc ?_
        refine Runs.batch 2 kr ?_
        refine Runs.lenT (y := .t (.sl 1 (p0.fB.map (eInt .u8)))) (e := 5) (eInt .u8) p0.fB 1 rfl rfl rfl kr kr kr kr kr ?_
        obtain ⟨r9, e_r9, h⟩ := bind_some h
        refine Runs.callK false 58 58 [] [.t (.int .i64 ((p0.fB.length : Int))), .t (.int .i64 1), .t (.int .i64 6)] _ _ _ rfl rfl kr kr kr kr kr (impl_within_ok u ((p0.fB.length : Int)) 1 6 r9 e_r9) kr ?_
        refine Runs.batch 2 kr ?_
        rcases tf (r9) with hc | hc
        · have h := cond_t h hc
          refine Runs.known 60 (v := true) kr hc ?_
          refine Runs.batch 1 kr ?_
          obtain ⟨r10, e_r10, h⟩ := bind_some h
          refine Runs.callK false 62 141 [] [.agg ((Msg.enc p0).map .t), .t (.bool false), .t (.bool false), .t (.bool true)] _ _ _ rfl rfl kr kr kr kr kr (impl_Msg__isBare_ok u p0 false false true r10 e_r10) kr ?_
          refine Runs.alln ?_
          refine Wp.fg ⟨[(2, .t (.bool r10))], [], []⟩ ?_
          refine Wp.ret ?_
          refine blkR ?_
          refine thenR ?_
          obtain rfl := Option.some.inj h
          exact RetK [.t (.bool r10)] _ [] kr kr (.refl _) .nil
        have h := cond_f h hc
        refine Runs.known 60 (v := false) kr hc ?_
        refine Runs.alln ?_
        refine Wp.fg ⟨[(2, .t (.bool false))], [], []⟩ ?_
        refine Wp.ret ?_
        refine blkR ?_
        refine thenR ?_
        obtain rfl := Option.some.inj h
        exact RetK [.t (.bool false)] _ [] kr kr (.refl _) .nil
      have h := cond_f h hc
      refine Runs.known 54 (v := false) kr hc ?_
      refine Runs.alln ?_
      refine Wp.fg ⟨[(2, .t (.bool false))], [], []⟩ ?_
      refine Wp.ret ?_
      refine blkR ?_
      refine thenR ?_
      obtain rfl := Option.some.inj h
      exact RetK [.t (.bool false)] _ [] kr kr (.refl _) .nil
    have h := cond_f h hc
    refine Runs.known 49 (v := false) kr hc ?_
    refine Runs.alln ?_
    refine Wp.fg ⟨[(2, .t (.bool false))], [], []⟩ ?_
    refine Wp.ret ?_
    refine blkR ?_
    refine thenR ?_
    obtain rfl := Option.some.inj h
    exact RetK [.t (.bool false)] _ [] kr kr (.refl _) .nil
  have h := cond_f h hc
  refine Wp.srg [] [] ?_
  refine Runs.alln ?_
  refine Wp.fg ⟨[(1, .obj 1 0), (2, .t (.bool false)), (64, .t (.bool (p0.fKind == 4)))], [(1, ((Msg.enc p0).map .t))], []⟩ ?_
  refine Wp.cond2 (b := p0.fKind == 4) kr (fun hc => ?_) (fun hc => ?_)
  · have h := cond_t h hc
    refine Wp.srg [] [] ?_
    refine Runs.batch 2 kr ?_
    obtain ⟨r11, e_r11, h⟩ := bind_some h
    refine Runs.callK false 68 142 [] [.t (.int .i64 p0.fGen)] _ _ _ rfl rfl kr kr kr kr kr (impl_isGen_ok u p0.fGen r11 e_r11) kr ?_
    refine Runs.batch 1 kr ?_
    rcases tf (r11) with hc | hc
    · have h := cond_t h hc
      refine Runs.known 69 (v := true) kr hc ?_
      refine Runs.batch 1 kr ?_
      obtain ⟨r12, e_r12, h⟩ := bind_some h
      refine Runs.callK false 71 141 [] [.agg ((Msg.enc p0).map .t), .t (.bool false), .t (.bool false), .t (.bool false)] _ _ _ rfl rfl kr kr kr kr kr (impl_Msg__isBare_ok u p0 false false false r12 e_r12) kr ?_
      refine Runs.alln ?_
      refine Wp.fg ⟨[(2, .t (.bool r12))], [], []⟩ ?_
      refine Wp.ret ?_
      refine blkR ?_
      refine thenR ?_
      obtain rfl := Option.some.inj h
      exact RetK [.t (.bool r12)] _ [] kr kr (.refl _) .nil
    have h := cond_f h hc
    refine Runs.known 69 (v := false) kr hc ?_
    refine Runs.alln ?_
    refine Wp.fg ⟨[(2, .t (.bool false))], [], []⟩ ?_
    refine Wp.ret ?_
    refine blkR ?_
    refine thenR ?_
    obtain rfl := Option.some.inj h
    exact RetK [.t (.bool false)] _ [] kr kr (.refl _) .nil
  have h := cond_f h hc
  refine Wp.skip ?_
  refine blkN ?_
  refine thenN ?_
  refine Wp.srg [] [] ?_
  refine Runs.alln ?_
  refine Wp.fg ⟨[(2, .t (.bool false))], [], []⟩ ?_
  refine Wp.ret ?_
  obtain rfl := Option.some.inj h
  exact RetK [.t (.bool false)] _ [] kr kr (.refl _) .nil
theorem impl_appendVar_ok (u : Nat) (p0 : List Int) (p1 : Int) (r : (List Int)) (h : impl_appendVar u p0 p1 = some r) : CallOK Tryz.prog 209 [.one (.ow 5 1 (p0.map (eInt .u8))), .one (.t (.int .i64 p1))] (.one (.ow 5 1 (r.map (eInt .u8)))) [] := by
  unfold impl_appendVar at h
  refine CallOK.of_bodyK (fn := Tryz.f209) (m := true) [.own 58982400, .t (.int .i64 p1)] kr rfl kr kr kr kr kr ?_
  refine Wp.srg [] [] ?_
  refine Runs.alln ?_
  refine Wp.fg ⟨[(0, .own 58982400), (1, .t (.int .i64 p1)), (4, .nil)], [], [(58982400, .live 5 1 (p0.map (eInt .u8)))]⟩ ?_
  refine Wp.seqJ (α := (List Int) × Int) (fun a => ⟨[(0, .own 1), (1, .t (.int .i64 a.2)), (4, .nil)], [], [(1, .live 5 1 (a.1.map (eInt .u8)))]⟩) (fun a => impl_appendVar_j1 u a.1 a.2 = some r) ?_ ?_
  · rintro ⟨x7, x8⟩ h
    change impl_appendVar_j1 u x7 x8 = some r at h
    unfold impl_appendVar_j1 at h
    refine Wp.srg [] [] ?_
    refine Runs.batch 4 kr ?_
    obtain ⟨_, e_9, h⟩ := bind_some h
    refine Runs.appT (y := .own 1179648) (eInt .u8) 19 1 5 1 1 1 x7 ([IntKind.wrap .u8 x8]) rfl rfl rfl rfl kr kr kr kr kr kr (.inl rfl) kr (of_decide_eq_true (chk_some e_9)) kr kr ?_
    refine Runs.alln ?_
    refine Wp.fg ⟨[(4, .own 1245184)], [], [(1245184, .live 5 1 ((x7 ++ ([IntKind.wrap .u8 x8])).map (eInt .u8)))]⟩ ?_
    refine Wp.ret ?_
    obtain rfl := Option.some.inj h
    exact RetK [.own 1245184] _ [] kr kr (.refl _) .nil
  · refine Wp.block ?_
    refine Wp.loopF (α := (List Int) × Int) (fun a => ⟨[(0, .own 1), (1, .t (.int .i64 a.2)), (4, .nil)], [], [(1, .live 5 1 (a.1.map (eInt .u8)))]⟩) (fun k_impl_appendVar_l2 a => impl_appendVar_l2 u k_impl_appendVar_l2 a.1 a.2 = some r) ?_ ?_ u (p0, p1) h (Le.of (mo := []) (mr := [(1, 58982400)]) kr kr kr kr)
    · intro a h; unfold impl_appendVar_l2 at h; cases h
    · rintro k_impl_appendVar_l2 ⟨x3, x4⟩ h
      change impl_appendVar_l2 u (k_impl_appendVar_l2 + 1) x3 x4 = some r at h
      rw [impl_appendVar_l2] at h
      refine Wp.seq ?_
      refine Wp.srg [] [] ?_
      refine Runs.alln ?_
      refine Wp.fg ⟨[(0, .own 1), (1, .t (.int .i64 x4)), (4, .nil), (6, .t (.bool (decide (x4 ≥ 128))))], [], [(1, .live 5 1 (x3.map (eInt .u8)))]⟩ ?_
      refine Wp.cond2 (b := decide (x4 ≥ 128)) kr (fun hc => ?_) (fun hc => ?_)
      · have h := cond_t h hc
        refine Wp.skip (thenN ?_)
        refine Wp.block ?_
        refine Wp.srg [] [] ?_
        refine Runs.batch 5 kr ?_
        obtain ⟨_, e_7, h⟩ := bind_some h
        refine Runs.appT (y := .own 720896) (eInt .u8) 12 1 5 1 1 1 x3 ([bOr .u8 (IntKind.wrap .u8 x4) 128]) rfl rfl rfl rfl kr kr kr kr kr kr (.inl rfl) kr (of_decide_eq_true (chk_some e_7)) kr kr ?_
        refine Runs.alln ?_
        refine Wp.fg ⟨[(0, .own 786432), (1, .t (.int .i64 x4)), (4, .nil)], [], [(786432, .live 5 1 ((x3 ++ ([bOr .u8 (IntKind.wrap .u8 x4) 128])).map (eInt .u8)))]⟩ ?_
        refine Wp.rg [] [] ?_
        refine Runs.all kr ?_
        refine blkN ?_
        refine thenN ?_
        exact ⟨(x3 ++ ([bOr .u8 (IntKind.wrap .u8 x4) 128]), bShr .i64 x4 7), h, Le.of (mo := []) (mr := [(1, 786432)]) kr kr kr kr⟩
      have h := cond_f h hc
      refine Wp.exit ?_
      refine thenE ?_
      refine thenE ?_
      refine blkE ?_
      refine thenN ?_
      exact ⟨(x3, x4), h, Le.of (mo := []) (mr := []) kr kr kr kr⟩
theorem impl_PutVar_ok (u : Nat) (p0 : List Int) (p1 : Int) (r : (List Int)) (h : impl_PutVar u p0 p1 = some r) : CallOK Tryz.prog 145 [.one (.t (.sl 1 (p0.map (eInt .u8)))), .one (.t (.int .i64 p1))] (.one (.ow 5 1 (r.map (eInt .u8)))) [] := by
  unfold impl_PutVar at h
  refine CallOK.of_bodyK (fn := Tryz.f145) (m := true) [.t (.sl 1 (p0.map (eInt .u8))), .t (.int .i64 p1)] kr rfl kr kr kr kr kr ?_
  refine Wp.srg [] [] ?_
  refine Runs.alln ?_
  refine Wp.fg ⟨[(0, .t (.sl 1 (p0.map (eInt .u8)))), (1, .t (.int .i64 p1)), (4, .nil)], [], []⟩ ?_
  refine Wp.srg [] [] ?_
  refine Runs.batch 1 kr ?_
  obtain ⟨r1, e_r1, h⟩ := bind_some h
  refine Runs.callK false 7 208 [] [.t (.sl 1 (p0.map (eInt .u8)))] _ _ _ rfl rfl kr kr kr kr kr (impl_cloned_ok u p0 r1 e_r1) kr ?_
  refine Runs.alln ?_
  refine Wp.fg ⟨[(1, .t (.int .i64 p1)), (4, .nil), (5, .own 458752)], [], [(458752, .live 5 1 (r1.map (eInt .u8)))]⟩ ?_
  refine Wp.seq ?_
  refine Wp.srg [] [] ?_
  refine Runs.batch 1 kr ?_
  obtain ⟨r2, e_r2, h⟩ := bind_some h
  refine Runs.callK false 9 58 [] [.t (.int .i64 p1), .t (.int .i64 0), .t (.int .i64 1000000000000)] _ _ _ rfl rfl kr kr kr kr kr (impl_within_ok u p1 0 1000000000000 r2 e_r2) kr ?_
  refine Runs.alln ?_
  refine Wp.fg ⟨[(1, .t (.int .i64 p1)), (4, .nil), (5, .own 458752), (10, .t (.bool (!r2)))], [], [(458752, .live 5 1 (r1.map (eInt .u8)))]⟩ ?_
  refine Wp.cond2 (b := !r2) kr (fun hc => ?_) (fun hc => ?_)
  · have h := cond_t h hc
    refine Wp.srg [] [] ?_
    refine Runs.alln ?_
    refine Wp.fg ⟨[(1, .t (.int .i64 p1)), (4, .own 458752), (5, .own 458752)], [], [(458752, .live 5 1 (r1.map (eInt .u8)))]⟩ ?_
    refine Wp.ret ?_
    refine thenR ?_
    obtain rfl := Option.some.inj h
    exact RetK [.own 458752] _ [] kr kr (.refl _) .nil
  have h := cond_f h hc
  refine Wp.skip (thenN ?_)
  refine Wp.srg [] [] ?_
  refine Runs.batch 2 kr ?_
  obtain ⟨r3, e_r3, h⟩ := bind_some h
  refine Runs.callK true 14 209 [] [.own 458752, .t (.int .i64 p1)] _ _ _ rfl rfl kr kr kr kr kr (impl_appendVar_ok u r1 p1 r3 e_r3) kr ?_
  refine Runs.alln ?_
  refine Wp.fg ⟨[(4, .own 917504)], [], [(917504, .live 5 1 (r3.map (eInt .u8)))]⟩ ?_
  refine Wp.ret ?_
  obtain rfl := Option.some.inj h
  exact RetK [.own 917504] _ [] kr kr (.refl _) .nil
theorem impl_PutMan_ok (u : Nat) (p0 : List Int) (p1 : Manifest) (r : (List Int)) (h : impl_PutMan u p0 p1 = some r) : CallOK Tryz.prog 146 [.one (.t (.sl 1 (p0.map (eInt .u8)))), .agg [.t (.int .i64 p1.fGen), .t (.int .i64 p1.fSize), .t (.int .i64 p1.fLen), .t (.sl 2 (p1.fSums.map Sum.enc))]] (.one (.ow 5 1 (r.map (eInt .u8)))) [] := by
  unfold impl_PutMan at h
  refine CallOK.of_bodyK (fn := Tryz.f146) (m := true) [.t (.sl 1 (p0.map (eInt .u8))), .agg ((Manifest.enc p1).map .t)] kr rfl kr kr kr kr kr ?_
  refine Wp.srg [] [] ?_
  refine Runs.alln ?_
  refine Wp.fg ⟨[(0, .t (.sl 1 (p0.map (eInt .u8)))), (3, .obj 3 0), (4, .nil)], [(3, ((Manifest.enc p1).map .t))], []⟩ ?_
  refine Wp.seq ?_
  refine Wp.srg [] [] ?_
  refine Runs.batch 1 kr ?_
  obtain ⟨r1, e_r1, h⟩ := bind_some h
  refine Runs.callK false 9 140 [] [.agg ((Manifest.enc p1).map .t)] _ _ _ rfl rfl kr kr kr kr kr (impl_ManOk_ok u p1 r1 e_r1) kr ?_
  refine Runs.alln ?_
  refine Wp.fg ⟨[(0, .t (.sl 1 (p0.map (eInt .u8)))), (3, .obj 3 0), (4, .nil), (10, .t (.bool (!r1)))], [(3, ((Manifest.enc p1).map .t))], []⟩ ?_
  refine Wp.cond2 (b := !r1) kr (fun hc => ?_) (fun hc => ?_)
  · have h := cond_t h hc
    refine Wp.srg [] [] ?_
    refine Runs.batch 1 kr ?_
    obtain ⟨r2, e_r2, h⟩ := bind_some h
    refine Runs.callK false 12 208 [] [.t (.sl 1 (p0.map (eInt .u8)))] _ _ _ rfl rfl kr kr kr kr kr (impl_cloned_ok u p0 r2 e_r2) kr ?_
    refine Runs.alln ?_
    refine Wp.fg ⟨[(0, .t (.sl 1 (p0.map (eInt .u8)))), (3, .obj 3 0), (4, .own 786432)], [(3, ((Manifest.enc p1).map .t))], [(786432, .live 5 1 (r2.map (eInt .u8)))]⟩ ?_
    refine Wp.ret ?_
    refine thenR ?_
    obtain rfl := Option.some.inj h
    exact RetK [.own 786432] _ [] kr kr (.refl _) .nil
  have h := cond_f h hc
  refine Wp.skip (thenN ?_)
  refine Wp.seq ?_
  refine Wp.regionA (pOf []) (rhoOf [(0, .frz), (3, .obj 3), (13, .frz), (14, .obj 3), (15, .frz), (16, .own 16), (17, .obj 3), (18, .frz), (19, .own 19), (20, .obj 3), (21, .frz), (22, .own 22)]) kr kr ?_
  refine Runs.batch 3 kr ?_
  obtain ⟨r3, e_r3, h⟩ := bind_some h
  refine Runs.callK false 16 145 [] [.t (.sl 1 (p0.map (eInt .u8))), .t (.int .i64 p1.fGen)] _ _ _ rfl rfl kr kr kr kr kr (impl_PutVar_ok u p0 p1.fGen r3 e_r3) kr ?_
  refine Runs.batch 2 kr ?_
  obtain ⟨r4, e_r4, h⟩ := bind_some h
  refine Runs.callK false 19 145 [] [.own 1048576, .t (.int .i64 p1.fSize)] _ _ _ rfl rfl kr kr kr kr kr (impl_PutVar_ok u r3 p1.fSize r4 e_r4) kr ?_
  refine Runs.batch 2 kr ?_
  obtain ⟨r5, e_r5, h⟩ := bind_some h
  refine Runs.callK false 22 145 [] [.own 1245184, .t (.int .i64 p1.fLen)] _ _ _ rfl rfl kr kr kr kr kr (impl_PutVar_ok u r4 p1.fLen r5 e_r5) kr ?_
  refine Runs.alln ?_
  refine Wp.fg ⟨[(3, .obj 3 0), (4, .nil), (5, .own 1441792)], [(3, ((Manifest.enc p1).map .t))], [(1441792, .live 5 1 (r5.map (eInt .u8)))]⟩ ?_
  refine Wp.seqJ (α := (List Int)) (fun a => ⟨[(4, .nil), (5, .own 327681)], [], [(327681, .live 5 1 (a.map (eInt .u8)))]⟩) (fun a => impl_PutMan_j1 u a = some r) ?_ ?_
  · rintro x14 h
    change impl_PutMan_j1 u x14 = some r at h
    unfold impl_PutMan_j1 at h
    refine Wp.srg [] [] ?_
    refine Runs.alln ?_
    refine Wp.fg ⟨[(4, .own 327681)], [], [(327681, .live 5 1 (x14.map (eInt .u8)))]⟩ ?_
    refine Wp.ret ?_
    obtain rfl := Option.some.inj h
    exact RetK [.own 327681] _ [] kr kr (.refl _) .nil
  · refine Wp.srg [] [] ?_
    refine Runs.batch 2 kr ?_
    refine Runs.lenT (y := .t (.sl 2 (p1.fSums.map Sum.enc))) (e := 220) Sum.enc p1.fSums 2 rfl rfl rfl kr kr kr kr kr ?_
    refine Runs.alln ?_
    refine Wp.fg ⟨[(4, .nil), (5, .own 1441792), (24, .t (.sl 2 (p1.fSums.map Sum.enc))), (25, .t (.int .i64 ((p1.fSums.length : Int)))), (26, .t (.int .i64 0))], [], [(1441792, .live 5 1 (r5.map (eInt .u8)))]⟩ ?_
    refine Wp.block ?_
    refine Wp.loopF (α := (List Int) × Manifest × Int) (fun a => ⟨[(4, .nil), (5, .own 327681), (24, .t (.sl 2 (a.2.1.fSums.map Sum.enc))), (25, .t (.int .i64 ((a.2.1.fSums.length : Int)))), (26, .t (.int .i64 a.2.2))], [], [(327681, .live 5 1 (a.1.map (eInt .u8)))]⟩) (fun k_impl_PutMan_l2 a => impl_PutMan_l2 u k_impl_PutMan_l2 a.1 a.2.1 a.2.2 = some r) ?_ ?_ u (r5, p1, 0) h (Le.of (mo := []) (mr := [(327681, 1441792)]) kr kr kr kr)
    · intro a h; unfold impl_PutMan_l2 at h; cases h
    · rintro k_impl_PutMan_l2 ⟨x8, p1, x9⟩ h
      change impl_PutMan_l2 u (k_impl_PutMan_l2 + 1) x8 p1 x9 = some r at h
      rw [impl_PutMan_l2] at h
      refine Wp.srg [] [] ?_
      refine Runs.alln ?_
      refine Wp.fg ⟨[(4, .nil), (5, .own 327681), (24, .t (.sl 2 (p1.fSums.map Sum.enc))), (25, .t (.int .i64 ((p1.fSums.length : Int)))), (26, .t (.int .i64 x9)), (27, .t (.bool (decide (x9 < ((p1.fSums.length : Int))))))], [], [(327681, .live 5 1 (x8.map (eInt .u8)))]⟩ ?_
      refine Wp.seq ?_
      refine Wp.cond2 (b := decide (x9 < ((p1.fSums.length : Int)))) kr (fun hc => ?_) (fun hc => ?_)
      · have h := cond_t h hc
        refine Wp.skip (thenN ?_)
        refine Wp.seq ?_
        refine Wp.block ?_
        refine Wp.srg [] [] ?_
        obtain ⟨y12, e_y12, h⟩ := bind_some h
        refine Runs.idxT (e := 220) (kk := .i64) (sz := 2) Sum.enc p1.fSums x9 rfl kr kr kr kr kr kr e_y12 ?_
        refine Runs.alln ?_
        refine Wp.fg ⟨[(4, .nil), (5, .own 327681), (7, .obj 7 0), (24, .t (.sl 2 (p1.fSums.map Sum.enc))), (25, .t (.int .i64 ((p1.fSums.length : Int)))), (26, .t (.int .i64 x9))], [(7, [.t (.int .i64 y12.fW), .t (.int .i64 y12.fS)])], [(327681, .live 5 1 (x8.map (eInt .u8)))]⟩ ?_
        refine Wp.rg [] [] ?_
        refine Runs.batch 3 kr ?_
        obtain ⟨r13, e_r13, h⟩ := bind_some h
        refine Runs.callK true 33 209 [] [.own 327681, .t (.int .i64 y12.fS)] _ _ _ rfl rfl kr kr kr kr kr (impl_appendVar_ok u x8 y12.fS r13 e_r13) kr ?_
        refine Runs.all kr ?_
        refine blkN ?_
        refine thenN ?_
        refine Wp.rg [] [] ?_
        refine Runs.alln ?_
        exact ⟨(r13, p1, bAdd .i64 x9 1), h, Le.of (mo := []) (mr := [(327681, 2162688)]) kr kr kr kr⟩
      have h := cond_f h hc
      refine Wp.exit ?_
      refine thenE ?_
      refine thenE ?_
      refine blkE ?_
      refine thenN ?_
      exact ⟨x8, h, Le.of (mo := []) (mr := []) kr kr kr kr⟩
theorem impl_putSet_ok (u : Nat) (p0 : List Int) (p1 : Int) (r : (List Int)) (h : impl_putSet u p0 p1 = some r) : CallOK Tryz.prog 147 [.one (.t (.sl 1 (p0.map (eInt .u8)))), .one (.t (.int .i64 p1))] (.one (.ow 5 1 (r.map (eInt .u8)))) [] := by
  unfold impl_putSet at h
  refine CallOK.of_bodyK (fn := Tryz.f147) (m := true) [.t (.sl 1 (p0.map (eInt .u8))), .t (.int .i64 p1)] kr rfl kr kr kr kr kr ?_
  refine Wp.srg [] [] ?_
  refine Runs.alln ?_
  refine Wp.fg ⟨[(0, .t (.sl 1 (p0.map (eInt .u8)))), (1, .t (.int .i64 p1)), (4, .nil)], [], []⟩ ?_
  refine Wp.srg [] [] ?_
  refine Runs.batch 3 kr ?_
  obtain ⟨r1, e_r1, h⟩ := bind_some h
  refine Runs.callK false 8 145 [] [.t (.sl 1 (p0.map (eInt .u8))), .t (.int .i64 (bAnd .i64 p1 1048575))] _ _ _ rfl rfl kr kr kr kr kr (impl_PutVar_ok u p0 (bAnd .i64 p1 1048575) r1 e_r1) kr ?_
  refine Runs.batch 2 kr ?_
  obtain ⟨r2, e_r2, h⟩ := bind_some h
  refine Runs.callK false 11 145 [] [.own 524288, .t (.int .i64 (bShr .i64 p1 20))] _ _ _ rfl rfl kr kr kr kr kr (impl_PutVar_ok u r1 (bShr .i64 p1 20) r2 e_r2) kr ?_
  refine Runs.alln ?_
  refine Wp.fg ⟨[(4, .own 720896)], [], [(720896, .live 5 1 (r2.map (eInt .u8)))]⟩ ?_
  refine Wp.ret ?_
  obtain rfl := Option.some.inj h
  exact RetK [.own 720896] _ [] kr kr (.refl _) .nil
theorem impl_PutPart_ok (u : Nat) (p0 : List Int) (p1 : List Int) (r : (List Int)) (h : impl_PutPart u p0 p1 = some r) : CallOK Tryz.prog 148 [.one (.t (.sl 1 (p0.map (eInt .u8)))), .one (.t (.sl 1 (p1.map (eInt .u8))))] (.one (.ow 5 1 (r.map (eInt .u8)))) [] := by
  unfold impl_PutPart at h
  refine CallOK.of_bodyK (fn := Tryz.f148) (m := true) [.t (.sl 1 (p0.map (eInt .u8))), .t (.sl 1 (p1.map (eInt .u8)))] kr rfl kr kr kr kr kr ?_
  refine Wp.srg [] [] ?_
  refine Runs.alln ?_
  refine Wp.fg ⟨[(0, .t (.sl 1 (p0.map (eInt .u8)))), (1, .t (.sl 1 (p1.map (eInt .u8)))), (4, .nil)], [], []⟩ ?_
  refine Wp.srg [] [] ?_
  refine Runs.batch 2 kr ?_
  refine Runs.lenT (y := .t (.sl 1 (p1.map (eInt .u8)))) (e := 5) (eInt .u8) p1 1 rfl rfl rfl kr kr kr kr kr ?_
  obtain ⟨r1, e_r1, h⟩ := bind_some h
  refine Runs.callK false 8 145 [] [.t (.sl 1 (p0.map (eInt .u8))), .t (.int .i64 ((p1.length : Int)))] _ _ _ rfl rfl kr kr kr kr kr (impl_PutVar_ok u p0 ((p1.length : Int)) r1 e_r1) kr ?_
  refine Runs.batch 1 kr ?_
  obtain ⟨_, e_2, h⟩ := bind_some h
  refine Runs.appT (y := .t (.sl 1 (p1.map (eInt .u8)))) (eInt .u8) 10 1 5 1 1 524288 r1 p1 rfl rfl rfl rfl kr kr kr kr kr kr (.inl rfl) kr (of_decide_eq_true (chk_some e_2)) kr kr ?_
  refine Runs.alln ?_
  refine Wp.fg ⟨[(4, .own 655360)], [], [(655360, .live 5 1 ((r1 ++ p1).map (eInt .u8)))]⟩ ?_
  refine Wp.ret ?_
  obtain rfl := Option.some.inj h
  exact RetK [.own 655360] _ [] kr kr (.refl _) .nil
theorem impl_PutMsg_ok (u : Nat) (p0 : Msg) (r : (List Int)) (h : impl_PutMsg u p0 = some r) : CallOK Tryz.prog 86 [.agg [.t (.int .i64 p0.fKind), .t (.int .i64 p0.fGen), .t (.int .i64 p0.fMan.fGen), .t (.int .i64 p0.fMan.fSize), .t (.int .i64 p0.fMan.fLen), .t (.sl 2 (p0.fMan.fSums.map Sum.enc)), .t (.int .i64 p0.fWant), .t (.int .i64 p0.fDone), .t (.int .i64 p0.fI), .t (.sl 1 (p0.fB.map (eInt .u8)))]] (.one (.ow 5 1 (r.map (eInt .u8)))) [] := by
  unfold impl_PutMsg at h
  refine CallOK.of_bodyK (fn := Tryz.f86) (m := true) [.agg ((Msg.enc p0).map .t)] kr rfl kr kr kr kr kr ?_
  refine Wp.srg [] [] ?_
  refine Runs.alln ?_
  refine Wp.fg ⟨[(1, .obj 1 0), (2, .nil)], [(1, ((Msg.enc p0).map .t))], []⟩ ?_
  refine Wp.seq ?_
  refine Wp.srg [] [] ?_
  refine Runs.batch 1 kr ?_
  obtain ⟨r1, e_r1, h⟩ := bind_some h
  refine Runs.callK false 5 85 [] [.agg ((Msg.enc p0).map .t)] _ _ _ rfl rfl kr kr kr kr kr (impl_MsgOk_ok u p0 r1 e_r1) kr ?_
  refine Runs.alln ?_
  refine Wp.fg ⟨[(1, .obj 1 0), (2, .nil), (6, .t (.bool (!r1)))], [(1, ((Msg.enc p0).map .t))], []⟩ ?_
  refine Wp.cond2 (b := !r1) kr (fun hc => ?_) (fun hc => ?_)
  · have h := cond_t h hc
    refine Wp.srg [] [] ?_
    refine Runs.alln ?_
    refine Wp.fg ⟨[(1, .obj 1 0), (2, .nil)], [(1, ((Msg.enc p0).map .t))], []⟩ ?_
    refine Wp.ret ?_
    refine thenR ?_
    obtain rfl := Option.some.inj h
    exact RetK [.nil] (.one (.nil)) [] kr kr (.one (.nilO _ _)) .nil
  have h := cond_f h hc
  refine Wp.skip (thenN ?_)
  refine Wp.srg [] [] ?_
  refine Runs.batch 2 kr ?_
  obtain ⟨r2, e_r2, h⟩ := bind_some h
  refine Runs.callK false 9 145 [] [.nil, .t (.int .i64 p0.fKind)] [.one (.t (.sl 0 [])), .one (.t (.int .i64 p0.fKind))] (.one (.ow 5 1 (r2.map (eInt .u8)))) [] rfl rfl kr kr kr kr kr ((impl_PutVar_ok u ([]) p0.fKind r2 e_r2).le (.cons (.one (.sz _ _)) (.cons (.refl _) .nil))) kr ?_
  refine Runs.alln ?_
  refine Wp.fg ⟨[(1, .obj 1 0), (2, .nil), (3, .own 589824)], [(1, ((Msg.enc p0).map .t))], [(589824, .live 5 1 (r2.map (eInt .u8)))]⟩ ?_
  refine Wp.seqJ (α := (List Int)) (fun a => ⟨[(2, .nil), (3, .own 196609)], [], [(196609, .live 5 1 (a.map (eInt .u8)))]⟩) (fun a => impl_PutMsg_j1 u a = some r) ?_ ?_
  · rintro x11 h
    change impl_PutMsg_j1 u x11 = some r at h
    unfold impl_PutMsg_j1 at h
    refine Wp.srg [] [] ?_
    refine Runs.batch 2 kr ?_
    obtain ⟨r12, e_r12, h⟩ := bind_some h
    refine Runs.callBK 50 149 [] [.own 196609] [.one (.t (.sl 1 (x11.map (eInt .u8))))] (.one (.t (.int .i64 r12))) rfl rfl kr kr kr kr kr (impl_WeakOf_ok u x11 r12 e_r12) (by simp [V.plain, V.plains, C.plain, T.sc]) kr ?_
    obtain ⟨r13, e_r13, h⟩ := bind_some h
    refine Runs.callK false 51 145 [] [.own 196609, .t (.int .i64 r12)] _ _ _ rfl rfl kr kr kr kr kr (impl_PutVar_ok u x11 r12 r13 e_r13) kr ?_
    refine Runs.alln ?_
    refine Wp.fg ⟨[(2, .own 3342336)], [], [(3342336, .live 5 1 (r13.map (eInt .u8)))]⟩ ?_
    refine Wp.ret ?_
    obtain rfl := Option.some.inj h
    exact RetK [.own 3342336] _ [] kr kr (.refl _) .nil
  · refine Wp.srg [] [] ?_
    refine Runs.alln ?_
    refine Wp.fg ⟨[(1, .obj 1 0), (2, .nil), (3, .own 589824), (11, .t (.int .i64 p0.fKind))], [(1, ((Msg.enc p0).map .t))], [(589824, .live 5 1 (r2.map (eInt .u8)))]⟩ ?_
    refine Wp.block ?_
    refine Wp.srg [] [] ?_
    refine Runs.alln ?_
    refine Wp.fg ⟨[(1, .obj 1 0), (2, .nil), (3, .own 589824), (11, .t (.int .i64 p0.fKind)), (12, .t (.bool (p0.fKind == 1)))], [(1, ((Msg.enc p0).map .t))], [(589824, .live 5 1 (r2.map (eInt .u8)))]⟩ ?_
    refine Wp.cond2 (b := p0.fKind == 1) kr (fun hc => ?_) (fun hc => ?_)
    · have h := cond_t h hc
      refine Wp.rg [] [] ?_
      refine Runs.batch 3 kr ?_
      obtain ⟨r3, e_r3, h⟩ := bind_some h
      refine Runs.callK false 17 146 [] [.own 589824, .agg ((Manifest.enc p0.fMan).map .t)] _ _ _ rfl rfl kr kr kr kr kr (impl_PutMan_ok u r2 p0.fMan r3 e_r3) kr ?_
      refine Runs.all kr ?_
      refine blkN ?_
      refine thenN ?_
      exact ⟨r3, h, Le.of (mo := []) (mr := [(196609, 1114112)]) kr kr kr kr⟩
    have h := cond_f h hc
    refine Wp.srg [] [] ?_
    refine Runs.alln ?_
    refine Wp.fg ⟨[(1, .obj 1 0), (2, .nil), (3, .own 589824), (11, .t (.int .i64 p0.fKind)), (18, .t (.bool (p0.fKind == 2)))], [(1, ((Msg.enc p0).map .t))], [(589824, .live 5 1 (r2.map (eInt .u8)))]⟩ ?_
    refine Wp.cond2 (b := p0.fKind == 2) kr (fun hc => ?_) (fun hc => ?_)
    · have h := cond_t h hc
      refine Wp.regionA (pOf []) (rhoOf [(1, .obj 1), (3, .own 9), (20, .own 9), (21, .obj 1), (22, .frz), (23, .own 23), (24, .obj 1), (25, .frz), (26, .own 26), (27, .obj 1), (28, .frz), (29, .own 29)]) kr kr ?_
      refine Runs.batch 3 kr ?_
      obtain ⟨r4, e_r4, h⟩ := bind_some h
      refine Runs.callK false 23 145 [] [.own 589824, .t (.int .i64 p0.fGen)] _ _ _ rfl rfl kr kr kr kr kr (impl_PutVar_ok u r2 p0.fGen r4 e_r4) kr ?_
      refine Runs.batch 2 kr ?_
      obtain ⟨r5, e_r5, h⟩ := bind_some h
      refine Runs.callK false 26 147 [] [.own 1507328, .t (.int .i64 p0.fWant)] _ _ _ rfl rfl kr kr kr kr kr (impl_putSet_ok u r4 p0.fWant r5 e_r5) kr ?_
      refine Runs.batch 2 kr ?_
      obtain ⟨r6, e_r6, h⟩ := bind_some h
      refine Runs.callK false 29 147 [] [.own 1703936, .t (.int .i64 p0.fDone)] _ _ _ rfl rfl kr kr kr kr kr (impl_putSet_ok u r5 p0.fDone r6 e_r6) kr ?_
      refine Runs.all kr ?_
      refine blkN ?_
      refine thenN ?_
      exact ⟨r6, h, Le.of (mo := []) (mr := [(196609, 1900544)]) kr kr kr kr⟩
    have h := cond_f h hc
    refine Wp.srg [] [] ?_
    refine Runs.alln ?_
    refine Wp.fg ⟨[(1, .obj 1 0), (2, .nil), (3, .own 589824), (11, .t (.int .i64 p0.fKind)), (30, .t (.bool (p0.fKind == 3)))], [(1, ((Msg.enc p0).map .t))], [(589824, .live 5 1 (r2.map (eInt .u8)))]⟩ ?_
    refine Wp.cond2 (b := p0.fKind == 3) kr (fun hc => ?_) (fun hc => ?_)
    · have h := cond_t h hc
      refine Wp.regionA (pOf []) (rhoOf [(1, .obj 1), (3, .own 9), (32, .own 9), (33, .obj 1), (34, .frz), (35, .own 35), (36, .obj 1), (37, .frz), (38, .own 38), (39, .obj 1), (40, .frz), (41, .own 41)]) kr kr ?_
      refine Runs.batch 3 kr ?_
      obtain ⟨r7, e_r7, h⟩ := bind_some h
      refine Runs.callK false 35 145 [] [.own 589824, .t (.int .i64 p0.fGen)] _ _ _ rfl rfl kr kr kr kr kr (impl_PutVar_ok u r2 p0.fGen r7 e_r7) kr ?_
      refine Runs.batch 2 kr ?_
      obtain ⟨r8, e_r8, h⟩ := bind_some h
      refine Runs.callK false 38 145 [] [.own 2293760, .t (.int .i64 p0.fI)] _ _ _ rfl rfl kr kr kr kr kr (impl_PutVar_ok u r7 p0.fI r8 e_r8) kr ?_
      refine Runs.batch 2 kr ?_
      obtain ⟨r9, e_r9, h⟩ := bind_some h
      refine Runs.callK false 41 148 [] [.own 2490368, .t (.sl 1 (p0.fB.map (eInt .u8)))] _ _ _ rfl rfl kr kr kr kr kr (impl_PutPart_ok u r8 p0.fB r9 e_r9) kr ?_
      refine Runs.all kr ?_
      refine blkN ?_
      refine thenN ?_
      exact ⟨r9, h, Le.of (mo := []) (mr := [(196609, 2686976)]) kr kr kr kr⟩
    have h := cond_f h hc
    refine Wp.srg [] [] ?_
    refine Runs.alln ?_
    refine Wp.fg ⟨[(1, .obj 1 0), (2, .nil), (3, .own 589824), (42, .t (.bool (p0.fKind == 4)))], [(1, ((Msg.enc p0).map .t))], [(589824, .live 5 1 (r2.map (eInt .u8)))]⟩ ?_
    refine Wp.cond2 (b := p0.fKind == 4) kr (fun hc => ?_) (fun hc => ?_)
    · have h := cond_t h hc
      refine Wp.rg [] [] ?_
      refine Runs.batch 3 kr ?_
      obtain ⟨r10, e_r10, h⟩ := bind_some h
      refine Runs.callK false 47 145 [] [.own 589824, .t (.int .i64 p0.fGen)] _ _ _ rfl rfl kr kr kr kr kr (impl_PutVar_ok u r2 p0.fGen r10 e_r10) kr ?_
      refine Runs.all kr ?_
      refine blkN ?_
      refine thenN ?_
      exact ⟨r10, h, Le.of (mo := []) (mr := [(196609, 3080192)]) kr kr kr kr⟩
    have h := cond_f h hc
    refine Wp.skip ?_
    refine blkN ?_
    refine thenN ?_
    exact ⟨r2, h, Le.of (mo := []) (mr := [(196609, 589824)]) kr kr kr kr⟩
theorem bytes_Equal_ok (u : Nat) (p0 : List Int) (p1 : List Int) (r : Bool) (h : bytes_Equal u p0 p1 = some r) : CallOK Tryz.prog 88 [.one (.t (.sl 1 (p0.map (eInt .u8)))), .one (.t (.sl 1 (p1.map (eInt .u8))))] (.one (.t (.bool r))) [] := by
  unfold bytes_Equal at h
  refine CallOK.of_bodyK (fn := Tryz.f88) (m := false) [.t (.sl 1 (p0.map (eInt .u8))), .t (.sl 1 (p1.map (eInt .u8)))] kr rfl kr kr kr kr kr ?_
  refine Wp.srg [] [] ?_
  refine Runs.alln ?_
  refine Wp.fg ⟨[(0, .t (.sl 1 (p0.map (eInt .u8)))), (1, .t (.sl 1 (p1.map (eInt .u8)))), (4, .t (.bool false))], [], []⟩ ?_
  refine Wp.srg [] [] ?_
  refine Runs.batch 1 kr ?_
  refine Runs.bytesStr (y := .t (.sl 1 (p0.map (eInt .u8)))) (e := 5) p0 1 rfl kr kr kr kr kr kr kr ?_
  refine Runs.batch 1 kr ?_
  refine Runs.bytesStr (y := .t (.sl 1 (p1.map (eInt .u8)))) (e := 5) p1 1 rfl kr kr kr kr kr kr kr ?_
  refine Runs.alln ?_
  refine Wp.fg ⟨[(4, .t (.bool ((strOfNums p0).toList == (strOfNums p1).toList)))], [], []⟩ ?_
  refine Wp.ret ?_
  obtain rfl := Option.some.inj h
  exact RetK [.t (.bool ((strOfNums p0).toList == (strOfNums p1).toList))] _ [] kr kr (.refl _) .nil
theorem impl_SameBytes_ok (u : Nat) (p0 : List Int) (p1 : List Int) (r : Bool) (h : impl_SameBytes u p0 p1 = some r) : CallOK Tryz.prog 53 [.one (.t (.sl 1 (p0.map (eInt .u8)))), .one (.t (.sl 1 (p1.map (eInt .u8))))] (.one (.t (.bool r))) [] := by
  unfold impl_SameBytes at h
  refine CallOK.of_bodyK (fn := Tryz.f53) (m := false) [.t (.sl 1 (p0.map (eInt .u8))), .t (.sl 1 (p1.map (eInt .u8)))] kr rfl kr kr kr kr kr ?_
  refine Wp.srg [] [] ?_
  refine Runs.alln ?_
  refine Wp.fg ⟨[(0, .t (.sl 1 (p0.map (eInt .u8)))), (1, .t (.sl 1 (p1.map (eInt .u8)))), (4, .t (.bool false))], [], []⟩ ?_
  refine Wp.srg [] [] ?_
  refine Runs.batch 2 kr ?_
  obtain ⟨r1, e_r1, h⟩ := bind_some h
  refine Runs.callK false 7 88 [] [.t (.sl 1 (p0.map (eInt .u8))), .t (.sl 1 (p1.map (eInt .u8)))] _ _ _ rfl rfl kr kr kr kr kr (bytes_Equal_ok u p0 p1 r1 e_r1) kr ?_
  refine Runs.alln ?_
  refine Wp.fg ⟨[(4, .t (.bool r1))], [], []⟩ ?_
  refine Wp.ret ?_
  obtain rfl := Option.some.inj h
  exact RetK [.t (.bool r1)] _ [] kr kr (.refl _) .nil
theorem impl_GetMsg_ok (u : Nat) (p0 : List Int) (r : Msg × Bool) (h : impl_GetMsg u p0 = some r) : CallOK Tryz.prog 50 [.one (.t (.sl 1 (p0.map (eInt .u8))))] (.tup [.agg [.t (.int .i64 r.1.fKind), .t (.int .i64 r.1.fGen), .t (.int .i64 r.1.fMan.fGen), .t (.int .i64 r.1.fMan.fSize), .t (.int .i64 r.1.fMan.fLen), .t (.sl 2 (r.1.fMan.fSums.map Sum.enc)), .t (.int .i64 r.1.fWant), .t (.int .i64 r.1.fDone), .t (.int .i64 r.1.fI), .t (.sl 1 (r.1.fB.map (eInt .u8)))], .one (.t (.bool r.2))]) [] := by
  unfold impl_GetMsg at h
  refine CallOK.of_bodyK (fn := Tryz.f50) (m := false) [.t (.sl 1 (p0.map (eInt .u8)))] kr rfl kr kr kr kr kr ?_
  refine Wp.srg [] [] ?_
  refine Runs.alln ?_
  refine Wp.fg ⟨[(0, .t (.sl 1 (p0.map (eInt .u8)))), (2, .obj 2 0), (3, .t (.bool false))], [(2, [.t (.int .i64 0), .t (.int .i64 0), .t (.int .i64 0), .t (.int .i64 0), .t (.int .i64 0), .nil, .t (.int .i64 0), .t (.int .i64 0), .t (.int .i64 0), .nil])], []⟩ ?_
  refine Wp.srg [] [] ?_
  refine Runs.batch 1 kr ?_
  obtain ⟨r1, e_r1, h⟩ := bind_some h
  refine Runs.callK false 10 83 [] [.t (.sl 1 (p0.map (eInt .u8))), .t (.int .i64 0)] _ _ _ rfl rfl kr kr kr kr kr (impl_GetVar_ok u p0 0 r1 e_r1) kr ?_
  refine Runs.alln ?_
  refine Wp.fg ⟨[(0, .t (.sl 1 (p0.map (eInt .u8)))), (2, .obj 2 0), (3, .t (.bool false)), (4, .t (.int .i64 r1.1)), (5, .t (.int .i64 r1.2.1)), (6, .t (.bool r1.2.2))], [(2, [.t (.int .i64 0), .t (.int .i64 0), .t (.int .i64 0), .t (.int .i64 0), .t (.int .i64 0), .nil, .t (.int .i64 0), .t (.int .i64 0), .t (.int .i64 0), .nil])], []⟩ ?_
  refine Wp.seq ?_
  refine Wp.seqJ (α := (List Int) × (Int × Int × Bool) × Bool) (fun a => ⟨[(0, .t (.sl 1 (a.1.map (eInt .u8)))), (2, .obj 2 0), (3, .t (.bool false)), (4, .t (.int .i64 a.2.1.1)), (5, .t (.int .i64 a.2.1.2.1)), (20, .t (.bool a.2.2))], [(2, [.t (.int .i64 0), .t (.int .i64 0), .t (.int .i64 0), .t (.int .i64 0), .t (.int .i64 0), .nil, .t (.int .i64 0), .t (.int .i64 0), .t (.int .i64 0), .nil])], []⟩) (fun a => impl_GetMsg_j1 u a.1 a.2.1 a.2.2 = some r) ?_ ?_
  · rintro ⟨p0, r1, x2⟩ h
    change impl_GetMsg_j1 u p0 r1 x2 = some r at h
    unfold impl_GetMsg_j1 at h
    refine Wp.cond2 (b := x2) kr (fun hc => ?_) (fun hc => ?_)
    · have h := cond_t h hc
      refine Wp.srg [] [] ?_
      refine Runs.alln ?_
      refine Wp.fg ⟨[(0, .t (.sl 1 (p0.map (eInt .u8)))), (2, .obj 2 0), (3, .t (.bool false)), (4, .t (.int .i64 r1.1)), (5, .t (.int .i64 r1.2.1))], [(2, [.t (.int .i64 0), .t (.int .i64 0), .t (.int .i64 0), .t (.int .i64 0), .t (.int .i64 0), .nil, .t (.int .i64 0), .t (.int .i64 0), .t (.int .i64 0), .nil])], []⟩ ?_
      refine Wp.ret ?_
      refine thenR ?_
      obtain rfl := Option.some.inj h
      exact RetK [.agg [.t (.int .i64 0), .t (.int .i64 0), .t (.int .i64 0), .t (.int .i64 0), .t (.int .i64 0), .nil, .t (.int .i64 0), .t (.int .i64 0), .t (.int .i64 0), .nil], .t (.bool false)] (.tup [.agg [.t (.int .i64 0), .t (.int .i64 0), .t (.int .i64 0), .t (.int .i64 0), .t (.int .i64 0), .t (.sl 0 []), .t (.int .i64 0), .t (.int .i64 0), .t (.int .i64 0), .t (.sl 0 [])], .one (.t (.bool false))]) [] kr kr (.tup (.cons (.agg (.cons (.refl _) (.cons (.refl _) (.cons (.refl _) (.cons (.refl _) (.cons (.refl _) (.cons (.sz _ _) (.cons (.refl _) (.cons (.refl _) (.cons (.refl _) (.cons (.sz _ _) .nil))))))))))) (.cons (.refl _) .nil))) .nil
    have h := cond_f h hc
    refine Wp.skip (thenN ?_)
    refine Wp.srg [] [] ?_
    refine Runs.batch 3 kr ?_
    obtain ⟨r3, e_r3, h⟩ := bind_some h
    refine Runs.callK false 26 84 [] [.t (.sl 1 (p0.map (eInt .u8))), .t (.int .i64 r1.1), .t (.int .i64 r1.2.1)] _ _ _ rfl rfl kr kr kr kr kr (impl_readMsg_ok u p0 r1.1 r1.2.1 r3 e_r3) kr ?_
    refine Runs.alln ?_
    refine Wp.fg ⟨[(0, .t (.sl 1 (p0.map (eInt .u8)))), (2, .obj 2 0), (3, .t (.bool false)), (6, .t (.bool r3.2)), (7, .obj 7 0)], [(2, [.t (.int .i64 0), .t (.int .i64 0), .t (.int .i64 0), .t (.int .i64 0), .t (.int .i64 0), .nil, .t (.int .i64 0), .t (.int .i64 0), .t (.int .i64 0), .nil]), (7, [.t (.int .i64 r3.1.fKind), .t (.int .i64 r3.1.fGen), .t (.int .i64 r3.1.fMan.fGen), .t (.int .i64 r3.1.fMan.fSize), .t (.int .i64 r3.1.fMan.fLen), .own 1703941, .t (.int .i64 r3.1.fWant), .t (.int .i64 r3.1.fDone), .t (.int .i64 r3.1.fI), .own 1703945])], [(1703941, .live 220 2 (r3.1.fMan.fSums.map Sum.enc)), (1703945, .live 5 1 (r3.1.fB.map (eInt .u8)))]⟩ ?_
    refine Wp.seq ?_
    refine Wp.seqJ (α := Bool × (Msg × Bool)) (fun a => ⟨[(2, .obj 2 0), (3, .t (.bool false)), (7, .obj 7 0), (42, .t (.bool a.1))], [(2, [.t (.int .i64 0), .t (.int .i64 0), .t (.int .i64 0), .t (.int .i64 0), .t (.int .i64 0), .nil, .t (.int .i64 0), .t (.int .i64 0), .t (.int .i64 0), .nil]), (7, ((Msg.enc a.2.1).map .t))], []⟩) (fun a => impl_GetMsg_j2 u a.1 a.2 = some r) ?_ ?_
    · rintro ⟨x7, r3⟩ h
      change impl_GetMsg_j2 u x7 r3 = some r at h
      unfold impl_GetMsg_j2 at h
      refine Wp.cond2 (b := x7) kr (fun hc => ?_) (fun hc => ?_)
      · have h := cond_t h hc
        refine Wp.srg [] [] ?_
        refine Runs.alln ?_
        refine Wp.fg ⟨[(2, .obj 2 0), (3, .t (.bool false)), (7, .obj 7 0)], [(2, [.t (.int .i64 0), .t (.int .i64 0), .t (.int .i64 0), .t (.int .i64 0), .t (.int .i64 0), .nil, .t (.int .i64 0), .t (.int .i64 0), .t (.int .i64 0), .nil]), (7, ((Msg.enc r3.1).map .t))], []⟩ ?_
        refine Wp.ret ?_
        refine thenR ?_
        obtain rfl := Option.some.inj h
        exact RetK [.agg [.t (.int .i64 0), .t (.int .i64 0), .t (.int .i64 0), .t (.int .i64 0), .t (.int .i64 0), .nil, .t (.int .i64 0), .t (.int .i64 0), .t (.int .i64 0), .nil], .t (.bool false)] (.tup [.agg [.t (.int .i64 0), .t (.int .i64 0), .t (.int .i64 0), .t (.int .i64 0), .t (.int .i64 0), .t (.sl 0 []), .t (.int .i64 0), .t (.int .i64 0), .t (.int .i64 0), .t (.sl 0 [])], .one (.t (.bool false))]) [] kr kr (.tup (.cons (.agg (.cons (.refl _) (.cons (.refl _) (.cons (.refl _) (.cons (.refl _) (.cons (.refl _) (.cons (.sz _ _) (.cons (.refl _) (.cons (.refl _) (.cons (.refl _) (.cons (.sz _ _) .nil))))))))))) (.cons (.refl _) .nil))) .nil
      have h := cond_f h hc
      refine Wp.skip (thenN ?_)
      refine Wp.srg [] [] ?_
      refine Runs.alln ?_
      refine Wp.fg ⟨[(2, .obj 2 0), (3, .t (.bool true))], [(2, ((Msg.enc r3.1).map .t))], []⟩ ?_
      refine Wp.ret ?_
      obtain rfl := Option.some.inj h
      exact RetK [.agg ((Msg.enc r3.1).map .t), .t (.bool true)] _ [] kr kr (.refl _) .nil
    · refine Wp.rg [] [] ?_
      refine Runs.batch 3 kr ?_
      rcases tf (!r3.2) with hc | hc
      · have h := cond_t h hc
        refine Runs.known 31 (v := true) kr hc ?_
        refine Runs.alln ?_
        exact ⟨(true, r3), h, Le.trans (Le.frzO 7 5 1703941 220 2 [.t (.int .i64 r3.1.fKind), .t (.int .i64 r3.1.fGen), .t (.int .i64 r3.1.fMan.fGen), .t (.int .i64 r3.1.fMan.fSize), .t (.int .i64 r3.1.fMan.fLen), .own 1703941, .t (.int .i64 r3.1.fWant), .t (.int .i64 r3.1.fDone), .t (.int .i64 r3.1.fI), .own 1703945] (r3.1.fMan.fSums.map Sum.enc) kr kr kr) (Le.trans (Le.frzO 7 9 1703945 5 1 [.t (.int .i64 r3.1.fKind), .t (.int .i64 r3.1.fGen), .t (.int .i64 r3.1.fMan.fGen), .t (.int .i64 r3.1.fMan.fSize), .t (.int .i64 r3.1.fMan.fLen), .t (.sl 2 (r3.1.fMan.fSums.map Sum.enc)), .t (.int .i64 r3.1.fWant), .t (.int .i64 r3.1.fDone), .t (.int .i64 r3.1.fI), .own 1703945] (r3.1.fB.map (eInt .u8)) kr kr kr) (Le.of (mo := []) (mr := []) kr kr kr kr))⟩
      have h := cond_f h hc
      refine Runs.known 31 (v := false) kr hc ?_
      refine Runs.batch 1 kr ?_
      obtain ⟨r4, e_r4, h⟩ := bind_some h
      refine Runs.callBK 33 85 [] [.agg [.t (.int .i64 r3.1.fKind), .t (.int .i64 r3.1.fGen), .t (.int .i64 r3.1.fMan.fGen), .t (.int .i64 r3.1.fMan.fSize), .t (.int .i64 r3.1.fMan.fLen), .own 1703941, .t (.int .i64 r3.1.fWant), .t (.int .i64 r3.1.fDone), .t (.int .i64 r3.1.fI), .own 1703945]] [.agg ((Msg.enc r3.1).map .t)] (.one (.t (.bool r4))) rfl rfl kr kr kr kr kr (impl_MsgOk_ok u r3.1 r4 e_r4) (by simp [V.plain, V.plains, C.plain, T.sc]) kr ?_
      refine Runs.batch 3 kr ?_
      rcases tf (!r4) with hc | hc
      · have h := cond_t h hc
        refine Runs.known 36 (v := true) kr hc ?_
        refine Runs.alln ?_
        exact ⟨(true, r3), h, Le.trans (Le.frzO 7 5 1703941 220 2 [.t (.int .i64 r3.1.fKind), .t (.int .i64 r3.1.fGen), .t (.int .i64 r3.1.fMan.fGen), .t (.int .i64 r3.1.fMan.fSize), .t (.int .i64 r3.1.fMan.fLen), .own 1703941, .t (.int .i64 r3.1.fWant), .t (.int .i64 r3.1.fDone), .t (.int .i64 r3.1.fI), .own 1703945] (r3.1.fMan.fSums.map Sum.enc) kr kr kr) (Le.trans (Le.frzO 7 9 1703945 5 1 [.t (.int .i64 r3.1.fKind), .t (.int .i64 r3.1.fGen), .t (.int .i64 r3.1.fMan.fGen), .t (.int .i64 r3.1.fMan.fSize), .t (.int .i64 r3.1.fMan.fLen), .t (.sl 2 (r3.1.fMan.fSums.map Sum.enc)), .t (.int .i64 r3.1.fWant), .t (.int .i64 r3.1.fDone), .t (.int .i64 r3.1.fI), .own 1703945] (r3.1.fB.map (eInt .u8)) kr kr kr) (Le.of (mo := []) (mr := []) kr kr kr kr))⟩
      have h := cond_f h hc
      refine Runs.known 36 (v := false) kr hc ?_
      refine Runs.batch 1 kr ?_
      obtain ⟨r5, e_r5, h⟩ := bind_some h
      refine Runs.callK false 38 86 [] [.agg [.t (.int .i64 r3.1.fKind), .t (.int .i64 r3.1.fGen), .t (.int .i64 r3.1.fMan.fGen), .t (.int .i64 r3.1.fMan.fSize), .t (.int .i64 r3.1.fMan.fLen), .own 1703941, .t (.int .i64 r3.1.fWant), .t (.int .i64 r3.1.fDone), .t (.int .i64 r3.1.fI), .own 1703945]] _ _ _ rfl rfl kr kr kr kr kr (impl_PutMsg_ok u r3.1 r5 e_r5) kr ?_
      refine Runs.batch 1 kr ?_
      obtain ⟨r6, e_r6, h⟩ := bind_some h
      refine Runs.callBK 40 53 [] [.own 2490368, .t (.sl 1 (p0.map (eInt .u8)))] [.one (.t (.sl 1 (r5.map (eInt .u8)))), .one (.t (.sl 1 (p0.map (eInt .u8))))] (.one (.t (.bool r6))) rfl rfl kr kr kr kr kr (impl_SameBytes_ok u r5 p0 r6 e_r6) (by simp [V.plain, V.plains, C.plain, T.sc]) kr ?_
      refine Runs.alln ?_
      exact ⟨(!r6, r3), h, Le.trans (Le.seeO 7 5 1703941 2 [.t (.int .i64 r3.1.fKind), .t (.int .i64 r3.1.fGen), .t (.int .i64 r3.1.fMan.fGen), .t (.int .i64 r3.1.fMan.fSize), .t (.int .i64 r3.1.fMan.fLen), .own 1703941, .t (.int .i64 r3.1.fWant), .t (.int .i64 r3.1.fDone), .t (.int .i64 r3.1.fI), .own 1703945] (r3.1.fMan.fSums.map Sum.enc) kr kr kr) (Le.trans (Le.seeO 7 9 1703945 1 [.t (.int .i64 r3.1.fKind), .t (.int .i64 r3.1.fGen), .t (.int .i64 r3.1.fMan.fGen), .t (.int .i64 r3.1.fMan.fSize), .t (.int .i64 r3.1.fMan.fLen), .t (.sl 2 (r3.1.fMan.fSums.map Sum.enc)), .t (.int .i64 r3.1.fWant), .t (.int .i64 r3.1.fDone), .t (.int .i64 r3.1.fI), .own 1703945] (r3.1.fB.map (eInt .u8)) kr kr kr) (Le.of (mo := []) (mr := []) kr kr kr kr))⟩
  · refine Wp.rg [] [] ?_
    refine Runs.batch 3 kr ?_
    rcases tf (!r1.2.2) with hc | hc
    · have h := cond_t h hc
      refine Runs.known 16 (v := true) kr hc ?_
      refine Runs.alln ?_
      exact ⟨(p0, r1, true), h, Le.of (mo := []) (mr := []) kr kr kr kr⟩
    have h := cond_f h hc
    refine Runs.known 16 (v := false) kr hc ?_
    refine Runs.batch 1 kr ?_
    refine Runs.lenT (y := .t (.sl 1 (p0.map (eInt .u8)))) (e := 5) (eInt .u8) p0 1 rfl rfl rfl kr kr kr kr kr ?_
    refine Runs.alln ?_
    exact ⟨(p0, r1, decide (((p0.length : Int)) > 400)), h, Le.of (mo := []) (mr := []) kr kr kr kr⟩
theorem impl_Harmless_1_ok (u : Nat) (p0 : Packet) (q0 : Event) (r : Bool) (h : impl_Harmless_1 u p0 q0 = some r) : CallOK Tryz.prog 52 [.agg [.t (.int .i64 p0.fFrom), .t (.int .i64 p0.fTo), .t (.sl 1 (p0.fB.map (eInt .u8)))], .fptr [.int .i64 q0.fKind, .int .i64 q0.fN, .int .i64 q0.fS, .int .i64 q0.fP.fFrom, .int .i64 q0.fP.fTo, .sl 1 (q0.fP.fB.map (eInt .u8))]] (.one (.t (.bool r))) [] := by
  unfold impl_Harmless_1 at h
  refine CallOK.of_bodyK (fn := Tryz.f52) (m := false) [.agg ((Packet.enc p0).map .t), .fadr (Event.enc q0)] kr rfl kr kr kr kr kr ?_
  refine Wp.srg [] [] ?_
  refine Runs.alln ?_
  refine Wp.fg ⟨[(1, .fadr (Event.enc q0)), (2, .obj 2 0), (3, .t (.bool false))], [(2, ((Packet.enc p0).map .t))], []⟩ ?_
  refine Wp.srg [] [] ?_
  refine Runs.batch 5 kr ?_
  obtain ⟨r1, e_r1, h⟩ := bind_some h
  refine Runs.callK false 9 53 [] [.t (.sl 1 (p0.fB.map (eInt .u8))), .t (.sl 1 (q0.fP.fB.map (eInt .u8)))] _ _ _ rfl rfl kr kr kr kr kr (impl_SameBytes_ok u p0.fB q0.fP.fB r1 e_r1) kr ?_
  refine Runs.alln ?_
  refine Wp.fg ⟨[(3, .t (.bool r1))], [], []⟩ ?_
  refine Wp.ret ?_
  obtain rfl := Option.some.inj h
  exact RetK [.t (.bool r1)] _ [] kr kr (.refl _) .nil
theorem slices_IndexFunc___impl_Packet_impl_Packet__impl_Harmless_1_ok (u : Nat) (p0 : List Packet) (p1_0 : Event) (r : Int) (h : slices_IndexFunc___impl_Packet_impl_Packet__impl_Harmless_1 u p0 p1_0 = some r) : CallOK Tryz.prog 87 [.one (.t (.sl 3 (p0.map Packet.enc))), .clo 52 [.fptr [.int .i64 p1_0.fKind, .int .i64 p1_0.fN, .int .i64 p1_0.fS, .int .i64 p1_0.fP.fFrom, .int .i64 p1_0.fP.fTo, .sl 1 (p1_0.fP.fB.map (eInt .u8))]]] (.one (.t (.int .i64 r))) [] := by
  unfold slices_IndexFunc___impl_Packet_impl_Packet__impl_Harmless_1 at h
  refine CallOK.of_bodyK (fn := Tryz.f87) (m := false) [.t (.sl 3 (p0.map Packet.enc)), .clo 52 [.fadr (Event.enc p1_0)]] kr rfl kr kr kr kr kr ?_
  refine Wp.srg [] [] ?_
  refine Runs.alln ?_
  refine Wp.fg ⟨[(0, .t (.sl 3 (p0.map Packet.enc))), (1, .clo 52 [.fadr (Event.enc p1_0)]), (4, .t (.int .i64 0))], [], []⟩ ?_
  refine Wp.seqJ (α := Unit) (fun a => ⟨[(4, .t (.int .i64 0))], [], []⟩) (fun a => slices_IndexFunc___impl_Packet_impl_Packet__impl_Harmless_1_j1 u = some r) ?_ ?_
  · rintro ⟨⟩ h
    change slices_IndexFunc___impl_Packet_impl_Packet__impl_Harmless_1_j1 u = some r at h
    unfold slices_IndexFunc___impl_Packet_impl_Packet__impl_Harmless_1_j1 at h
    refine Wp.srg [] [] ?_
    refine Runs.alln ?_
    refine Wp.fg ⟨[(4, .t (.int .i64 (-1)))], [], []⟩ ?_
    refine Wp.ret ?_
    obtain rfl := Option.some.inj h
    exact RetK [.t (.int .i64 (-1))] _ [] kr kr (.refl _) .nil
  · refine Wp.srg [] [] ?_
    refine Runs.batch 1 kr ?_
    refine Runs.lenT (y := .t (.sl 3 (p0.map Packet.enc))) (e := 55) Packet.enc p0 3 rfl rfl rfl kr kr kr kr kr ?_
    refine Runs.alln ?_
    refine Wp.fg ⟨[(0, .t (.sl 3 (p0.map Packet.enc))), (1, .clo 52 [.fadr (Event.enc p1_0)]), (4, .t (.int .i64 0)), (7, .t (.int .i64 ((p0.length : Int)))), (8, .t (.int .i64 0))], [], []⟩ ?_
    refine Wp.block ?_
    refine Wp.loopF (α := (List Packet) × Event × Int) (fun a => ⟨[(0, .t (.sl 3 (a.1.map Packet.enc))), (1, .clo 52 [.fadr (Event.enc a.2.1)]), (4, .t (.int .i64 0)), (7, .t (.int .i64 ((a.1.length : Int)))), (8, .t (.int .i64 a.2.2))], [], []⟩) (fun k_slices_IndexFunc___impl_Packet_impl_Packet__impl_Harmless_1_l2 a => slices_IndexFunc___impl_Packet_impl_Packet__impl_Harmless_1_l2 u k_slices_IndexFunc___impl_Packet_impl_Packet__impl_Harmless_1_l2 a.1 a.2.1 a.2.2 = some r) ?_ ?_ u (p0, p1_0, 0) h (Le.of (mo := []) (mr := []) kr kr kr kr)
    · intro a h; unfold slices_IndexFunc___impl_Packet_impl_Packet__impl_Harmless_1_l2 at h; cases h
    · rintro k_slices_IndexFunc___impl_Packet_impl_Packet__impl_Harmless_1_l2 ⟨p0, p1_0, x2⟩ h
      change slices_IndexFunc___impl_Packet_impl_Packet__impl_Harmless_1_l2 u (k_slices_IndexFunc___impl_Packet_impl_Packet__impl_Harmless_1_l2 + 1) p0 p1_0 x2 = some r at h
      rw [slices_IndexFunc___impl_Packet_impl_Packet__impl_Harmless_1_l2] at h
      refine Wp.srg [] [] ?_
      refine Runs.alln ?_
      refine Wp.fg ⟨[(0, .t (.sl 3 (p0.map Packet.enc))), (1, .clo 52 [.fadr (Event.enc p1_0)]), (4, .t (.int .i64 0)), (7, .t (.int .i64 ((p0.length : Int)))), (8, .t (.int .i64 x2)), (9, .t (.bool (decide (x2 < ((p0.length : Int))))))], [], []⟩ ?_
      refine Wp.seq ?_
      refine Wp.cond2 (b := decide (x2 < ((p0.length : Int)))) kr (fun hc => ?_) (fun hc => ?_)
      · have h := cond_t h hc
        refine Wp.skip (thenN ?_)
        refine Wp.seq ?_
        refine Wp.block ?_
        refine Wp.srg [] [] ?_
        refine Runs.alln ?_
        refine Wp.fg ⟨[(0, .t (.sl 3 (p0.map Packet.enc))), (1, .clo 52 [.fadr (Event.enc p1_0)]), (4, .t (.int .i64 0)), (5, .t (.int .i64 x2)), (7, .t (.int .i64 ((p0.length : Int)))), (8, .t (.int .i64 x2))], [], []⟩ ?_
        refine Wp.srg [] [] ?_
        refine Runs.batch 3 kr ?_
        obtain ⟨y4, e_y4, h⟩ := bind_some h
        refine Runs.idxT (e := 55) (kk := .i64) (sz := 3) Packet.enc p0 x2 rfl kr kr kr kr kr kr e_y4 ?_
        refine Runs.batch 1 kr ?_
        obtain ⟨r5, e_r5, h⟩ := bind_some h
        refine Runs.callK false 16 52 [.fadr (Event.enc p1_0)] [.agg ((Packet.enc y4).map .t)] _ _ _ rfl rfl kr kr kr kr kr (impl_Harmless_1_ok u y4 p1_0 r5 e_r5) kr ?_
        refine Runs.done ?_
        refine thenN ?_
        refine Wp.fg ⟨[(0, .t (.sl 3 (p0.map Packet.enc))), (1, .clo 52 [.fadr (Event.enc p1_0)]), (4, .t (.int .i64 0)), (5, .t (.int .i64 x2)), (7, .t (.int .i64 ((p0.length : Int)))), (8, .t (.int .i64 x2)), (16, .t (.bool r5))], [], []⟩ ?_
        refine Wp.cond2 (b := r5) kr (fun hc => ?_) (fun hc => ?_)
        · have h := cond_t h hc
          refine Wp.srg [] [] ?_
          refine Runs.alln ?_
          refine Wp.fg ⟨[(0, .t (.sl 3 (p0.map Packet.enc))), (1, .clo 52 [.fadr (Event.enc p1_0)]), (4, .t (.int .i64 x2)), (7, .t (.int .i64 ((p0.length : Int)))), (8, .t (.int .i64 x2))], [], []⟩ ?_
          refine Wp.ret ?_
          refine blkR ?_
          refine thenR ?_
          refine thenR ?_
          refine blkR ?_
          refine thenR ?_
          obtain rfl := Option.some.inj h
          exact RetK [.t (.int .i64 x2)] _ [] kr kr (.refl _) .nil
        have h := cond_f h hc
        refine Wp.skip ?_
        refine blkN ?_
        refine thenN ?_
        refine Wp.rg [] [] ?_
        refine Runs.alln ?_
        exact ⟨(p0, p1_0, bAdd .i64 x2 1), h, Le.of (mo := []) (mr := []) kr kr kr kr⟩
      have h := cond_f h hc
      refine Wp.exit ?_
      refine thenE ?_
      refine thenE ?_
      refine blkE ?_
      refine thenN ?_
      exact ⟨(), h, Le.of (mo := []) (mr := []) kr kr kr kr⟩
theorem slices_ContainsFunc___impl_Packet_impl_Packet__impl_Harmless_1_ok (u : Nat) (p0 : List Packet) (p1_0 : Event) (r : Bool) (h : slices_ContainsFunc___impl_Packet_impl_Packet__impl_Harmless_1 u p0 p1_0 = some r) : CallOK Tryz.prog 51 [.one (.t (.sl 3 (p0.map Packet.enc))), .clo 52 [.fptr [.int .i64 p1_0.fKind, .int .i64 p1_0.fN, .int .i64 p1_0.fS, .int .i64 p1_0.fP.fFrom, .int .i64 p1_0.fP.fTo, .sl 1 (p1_0.fP.fB.map (eInt .u8))]]] (.one (.t (.bool r))) [] := by
  unfold slices_ContainsFunc___impl_Packet_impl_Packet__impl_Harmless_1 at h
  refine CallOK.of_bodyK (fn := Tryz.f51) (m := false) [.t (.sl 3 (p0.map Packet.enc)), .clo 52 [.fadr (Event.enc p1_0)]] kr rfl kr kr kr kr kr ?_
  refine Wp.srg [] [] ?_
  refine Runs.alln ?_
  refine Wp.fg ⟨[(0, .t (.sl 3 (p0.map Packet.enc))), (1, .clo 52 [.fadr (Event.enc p1_0)]), (4, .t (.bool false))], [], []⟩ ?_
  refine Wp.srg [] [] ?_
  refine Runs.batch 2 kr ?_
  obtain ⟨r1, e_r1, h⟩ := bind_some h
  refine Runs.callK false 7 87 [] [.t (.sl 3 (p0.map Packet.enc)), .clo 52 [.fadr (Event.enc p1_0)]] _ _ _ rfl rfl kr kr kr kr kr (slices_IndexFunc___impl_Packet_impl_Packet__impl_Harmless_1_ok u p0 p1_0 r1 e_r1) kr ?_
  refine Runs.alln ?_
  refine Wp.fg ⟨[(4, .t (.bool (decide (r1 ≥ 0))))], [], []⟩ ?_
  refine Wp.ret ?_
  obtain rfl := Option.some.inj h
  exact RetK [.t (.bool (decide (r1 ≥ 0)))] _ [] kr kr (.refl _) .nil
end Go.Tm
