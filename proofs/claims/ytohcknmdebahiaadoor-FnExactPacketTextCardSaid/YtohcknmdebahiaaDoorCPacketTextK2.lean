/- The functions as they are translated do what the pure functions say (printed). -/
import Derived.Test.YtohcknmdebahiaaDoorCPacketTextK1
import Derived.Test.YtohcknmdebahiaaDoorTm44
import Derived.Test.YtohcknmdebahiaaDoorProg
set_option maxRecDepth 100000
set_option maxHeartbeats 20000000
set_option linter.unusedVariables false
set_option linter.unusedSimpArgs false
namespace Go.Tm
open Go.Proofs
theorem impl_GetMan_ok (u : Nat) (p0 : List Int) (p1 : Int) (r : Manifest × Int × Bool) (h : impl_GetMan u p0 p1 = some r) : CallOK Tryd.prog 38 [.one (.t (.sl 1 (p0.map (eInt .u8)))), .one (.t (.int .i64 p1))] (.tup [.agg [.t (.int .i64 r.1.fGen), .t (.int .i64 r.1.fSize), .t (.int .i64 r.1.fLen), .ow 76 2 (r.1.fSums.map Sum.enc)], .one (.t (.int .i64 r.2.1)), .one (.t (.bool r.2.2))]) [] := by
  unfold impl_GetMan at h
  refine CallOK.of_bodyK (fn := Tryd.f38) (m := true) [.t (.sl 1 (p0.map (eInt .u8))), .t (.int .i64 p1)] kr rfl kr kr kr kr kr ?_
  refine Wp.srg [] [] ?_
  refine Runs.alln ?_
  refine Wp.fg ⟨[(0, .t (.sl 1 (p0.map (eInt .u8)))), (1, .t (.int .i64 p1)), (4, .obj 4 0), (5, .t (.int .i64 0)), (6, .t (.bool false))], [(4, [.t (.int .i64 0), .t (.int .i64 0), .t (.int .i64 0), .nil])], []⟩ ?_
  refine Wp.srg [] [] ?_
  refine Runs.batch 2 kr ?_
  obtain ⟨r1, e_r1, h⟩ := bind_some h
  refine Runs.callK false 18 39 [] [.t (.sl 1 (p0.map (eInt .u8))), .t (.int .i64 p1), .t (.int .i64 3)] _ _ _ rfl rfl kr kr kr kr kr (impl_readVars_ok u p0 p1 3 r1 e_r1) kr ?_
  refine Runs.alln ?_
  refine Wp.fg ⟨[(0, .t (.sl 1 (p0.map (eInt .u8)))), (1, .t (.int .i64 r1.2.1)), (4, .obj 4 0), (5, .t (.int .i64 0)), (6, .t (.bool false)), (7, .own 1179648), (8, .t (.bool r1.2.2))], [(4, [.t (.int .i64 0), .t (.int .i64 0), .t (.int .i64 0), .nil])], [(1179648, .live 3 1 (r1.1.map (eInt .i64)))]⟩ ?_
  refine Wp.seq ?_
  refine Wp.srg [] [] ?_
  refine Runs.alln ?_
  refine Wp.fg ⟨[(0, .t (.sl 1 (p0.map (eInt .u8)))), (1, .t (.int .i64 r1.2.1)), (4, .obj 4 0), (5, .t (.int .i64 0)), (6, .t (.bool false)), (7, .own 1179648), (23, .t (.bool (!r1.2.2)))], [(4, [.t (.int .i64 0), .t (.int .i64 0), .t (.int .i64 0), .nil])], [(1179648, .live 3 1 (r1.1.map (eInt .i64)))]⟩ ?_
  refine Wp.cond2 (b := !r1.2.2) kr (fun hc => ?_) (fun hc => ?_)
  · have h := cond_t h hc
    refine Wp.srg [] [] ?_
    refine Runs.alln ?_
    refine Wp.fg ⟨[(0, .t (.sl 1 (p0.map (eInt .u8)))), (1, .t (.int .i64 r1.2.1)), (4, .obj 4 0), (5, .t (.int .i64 0)), (6, .t (.bool false)), (7, .own 1179648)], [(4, [.t (.int .i64 0), .t (.int .i64 0), .t (.int .i64 0), .nil])], [(1179648, .live 3 1 (r1.1.map (eInt .i64)))]⟩ ?_
    refine Wp.ret ?_
    refine thenR ?_
    obtain rfl := Option.some.inj h
    exact RetK [.agg [.t (.int .i64 0), .t (.int .i64 0), .t (.int .i64 0), .nil], .t (.int .i64 0), .t (.bool false)] (.tup [.agg [.t (.int .i64 0), .t (.int .i64 0), .t (.int .i64 0), .nil], .one (.t (.int .i64 0)), .one (.t (.bool false))]) [] kr kr (.tup (.cons (.agg (.cons (.refl _) (.cons (.refl _) (.cons (.refl _) (.cons (.nilO _ _) .nil))))) (.cons (.refl _) (.cons (.refl _) .nil)))) .nil
  have h := cond_f h hc
  refine Wp.skip (thenN ?_)
  refine Wp.seq ?_
  refine Wp.regionA (pOf []) (rhoOf [(7, .own 18), (9, .obj 9), (25, .own 18), (26, .el 18), (27, .frz), (28, .own 18), (29, .el 18), (30, .frz), (31, .own 18), (32, .el 18), (33, .frz), (34, .frz)]) kr kr ?_
  refine Runs.batch 1 kr ?_
  obtain ⟨y2, e_y2, h⟩ := bind_some h
  refine Runs.idxO (e := 3) (e' := 3) (kk := .i64) (sz := 1) (eInt .i64) r1.1 0 1179648 rfl kr kr kr kr kr kr kr e_y2 ?_
  refine Runs.loadE (e' := 3) (sz := 1) (m := 1) (gg := false) (eInt .i64) r1.1 1179648 (Int.toNat 0) 0 (.t (.int .i64 y2)) rfl kr kr kr kr kr kr (idx_some e_y2).2 kr ?_
  refine Runs.batch 1 kr ?_
  obtain ⟨y3, e_y3, h⟩ := bind_some h
  refine Runs.idxO (e := 3) (e' := 3) (kk := .i64) (sz := 1) (eInt .i64) r1.1 1 1179648 rfl kr kr kr kr kr kr kr e_y3 ?_
  refine Runs.loadE (e' := 3) (sz := 1) (m := 1) (gg := false) (eInt .i64) r1.1 1179648 (Int.toNat 1) 0 (.t (.int .i64 y3)) rfl kr kr kr kr kr kr (idx_some e_y3).2 kr ?_
  refine Runs.batch 1 kr ?_
  obtain ⟨y4, e_y4, h⟩ := bind_some h
  refine Runs.idxO (e := 3) (e' := 3) (kk := .i64) (sz := 1) (eInt .i64) r1.1 2 1179648 rfl kr kr kr kr kr kr kr e_y4 ?_
  refine Runs.loadE (e' := 3) (sz := 1) (m := 1) (gg := false) (eInt .i64) r1.1 1179648 (Int.toNat 2) 0 (.t (.int .i64 y4)) rfl kr kr kr kr kr kr (idx_some e_y4).2 kr ?_
  refine Runs.alln ?_
  refine Wp.fg ⟨[(0, .t (.sl 1 (p0.map (eInt .u8)))), (1, .t (.int .i64 r1.2.1)), (4, .obj 4 0), (5, .t (.int .i64 0)), (6, .t (.bool false)), (9, .obj 9 0)], [(4, [.t (.int .i64 0), .t (.int .i64 0), .t (.int .i64 0), .nil]), (9, [.t (.int .i64 y2), .t (.int .i64 y3), .t (.int .i64 y4), .nil])], []⟩ ?_
  refine Wp.seqJ (α := Int × Int × Int × Int × (List Sum)) (fun a => ⟨[(1, .t (.int .i64 a.1)), (4, .obj 4 0), (5, .t (.int .i64 0)), (6, .t (.bool false)), (9, .obj 9 0)], [(4, [.t (.int .i64 0), .t (.int .i64 0), .t (.int .i64 0), .nil]), (9, [.t (.int .i64 a.2.1), .t (.int .i64 a.2.2.1), .t (.int .i64 a.2.2.2.1), .own 590339])], [(590339, .live 76 2 (a.2.2.2.2.map Sum.enc))]⟩) (fun a => impl_GetMan_j1 u a.1 a.2.1 a.2.2.1 a.2.2.2.1 a.2.2.2.2 = some r) ?_ ?_
  · rintro ⟨x19, y2, y3, y4, x20⟩ h
    change impl_GetMan_j1 u x19 y2 y3 y4 x20 = some r at h
    unfold impl_GetMan_j1 at h
    refine Wp.seq ?_
    refine Wp.srg [] [] ?_
    refine Runs.batch 1 kr ?_
    obtain ⟨r21, e_r21, h⟩ := bind_some h
    refine Runs.callBK 71 41 [] [.agg [.t (.int .i64 y2), .t (.int .i64 y3), .t (.int .i64 y4), .own 590339]] [.agg [.t (.int .i64 y2), .t (.int .i64 y3), .t (.int .i64 y4), .t (.sl 2 (x20.map Sum.enc))]] (.one (.t (.bool r21))) rfl rfl kr kr kr kr kr (impl_ManOk_ok u ((Manifest.mk y2 y3 y4 x20)) r21 e_r21) (by simp [V.plain, V.plains, C.plain, T.sc]) kr ?_
    refine Runs.alln ?_
    refine Wp.fg ⟨[(1, .t (.int .i64 x19)), (4, .obj 4 0), (5, .t (.int .i64 0)), (6, .t (.bool false)), (9, .obj 9 0), (72, .t (.bool (!r21)))], [(4, [.t (.int .i64 0), .t (.int .i64 0), .t (.int .i64 0), .nil]), (9, [.t (.int .i64 y2), .t (.int .i64 y3), .t (.int .i64 y4), .own 590339])], [(590339, .live 76 2 (x20.map Sum.enc))]⟩ ?_
    refine Wp.cond2 (b := !r21) kr (fun hc => ?_) (fun hc => ?_)
    · have h := cond_t h hc
      refine Wp.srg [] [] ?_
      refine Runs.alln ?_
      refine Wp.fg ⟨[(1, .t (.int .i64 x19)), (4, .obj 4 0), (5, .t (.int .i64 0)), (6, .t (.bool false)), (9, .obj 9 0)], [(4, [.t (.int .i64 0), .t (.int .i64 0), .t (.int .i64 0), .nil]), (9, [.t (.int .i64 y2), .t (.int .i64 y3), .t (.int .i64 y4), .own 590339])], [(590339, .live 76 2 (x20.map Sum.enc))]⟩ ?_
      refine Wp.ret ?_
      refine thenR ?_
      obtain rfl := Option.some.inj h
      exact RetK [.agg [.t (.int .i64 0), .t (.int .i64 0), .t (.int .i64 0), .nil], .t (.int .i64 0), .t (.bool false)] (.tup [.agg [.t (.int .i64 0), .t (.int .i64 0), .t (.int .i64 0), .nil], .one (.t (.int .i64 0)), .one (.t (.bool false))]) [] kr kr (.tup (.cons (.agg (.cons (.refl _) (.cons (.refl _) (.cons (.refl _) (.cons (.nilO _ _) .nil))))) (.cons (.refl _) (.cons (.refl _) .nil)))) .nil
    have h := cond_f h hc
    refine Wp.skip (thenN ?_)
    refine Wp.srg [] [] ?_
    refine Runs.alln ?_
    refine Wp.fg ⟨[(4, .obj 4 0), (5, .t (.int .i64 x19)), (6, .t (.bool true))], [(4, [.t (.int .i64 y2), .t (.int .i64 y3), .t (.int .i64 y4), .own 590339])], [(590339, .live 76 2 (x20.map Sum.enc))]⟩ ?_
    refine Wp.ret ?_
    obtain rfl := Option.some.inj h
    exact RetK [.agg [.t (.int .i64 y2), .t (.int .i64 y3), .t (.int .i64 y4), .own 590339], .t (.int .i64 x19), .t (.bool true)] _ [] kr kr (.refl _) .nil
  · refine Wp.srg [] [] ?_
    refine Runs.batch 4 kr ?_
    obtain ⟨r5, e_r5, h⟩ := bind_some h
    refine Runs.callK false 39 62 [] [.t (.int .i64 y3), .t (.int .i64 y4)] _ _ _ rfl rfl kr kr kr kr kr (impl_Blocks_ok u y3 y4 r5 e_r5) kr ?_
    refine Runs.alln ?_
    refine Wp.fg ⟨[(0, .t (.sl 1 (p0.map (eInt .u8)))), (1, .t (.int .i64 r1.2.1)), (4, .obj 4 0), (5, .t (.int .i64 0)), (6, .t (.bool false)), (9, .obj 9 0), (39, .t (.int .i64 r5)), (40, .t (.int .i64 0))], [(4, [.t (.int .i64 0), .t (.int .i64 0), .t (.int .i64 0), .nil]), (9, [.t (.int .i64 y2), .t (.int .i64 y3), .t (.int .i64 y4), .nil])], []⟩ ?_
    refine Wp.block ?_
    refine Wp.loopF (α := (List Int) × Int × Int × Int × Int × Int × Int × (List Sum)) (fun a => ⟨[(0, .t (.sl 1 (a.1.map (eInt .u8)))), (1, .t (.int .i64 a.2.1)), (4, .obj 4 0), (5, .t (.int .i64 0)), (6, .t (.bool false)), (9, .obj 9 0), (39, .t (.int .i64 a.2.2.1)), (40, .t (.int .i64 a.2.2.2.1))], [(4, [.t (.int .i64 0), .t (.int .i64 0), .t (.int .i64 0), .nil]), (9, [.t (.int .i64 a.2.2.2.2.1), .t (.int .i64 a.2.2.2.2.2.1), .t (.int .i64 a.2.2.2.2.2.2.1), .own 590339])], [(590339, .live 76 2 (a.2.2.2.2.2.2.2.map Sum.enc))]⟩) (fun k_impl_GetMan_l2 a => impl_GetMan_l2 u k_impl_GetMan_l2 a.1 a.2.1 a.2.2.1 a.2.2.2.1 a.2.2.2.2.1 a.2.2.2.2.2.1 a.2.2.2.2.2.2.1 a.2.2.2.2.2.2.2 = some r) ?_ ?_ u (p0, r1.2.1, r5, 0, y2, y3, y4, []) h (Le.trans (Le.emptyO 9 3 590339 76 2 [.t (.int .i64 y2), .t (.int .i64 y3), .t (.int .i64 y4), .nil] kr kr kr) (Le.of (mo := []) (mr := []) kr kr kr kr))
    · intro a h; unfold impl_GetMan_l2 at h; cases h
    · rintro k_impl_GetMan_l2 ⟨p0, x9, r5, x10, y2, y3, y4, x11⟩ h
      change impl_GetMan_l2 u (k_impl_GetMan_l2 + 1) p0 x9 r5 x10 y2 y3 y4 x11 = some r at h
      rw [impl_GetMan_l2] at h
      refine Wp.srg [] [] ?_
      refine Runs.alln ?_
      refine Wp.fg ⟨[(0, .t (.sl 1 (p0.map (eInt .u8)))), (1, .t (.int .i64 x9)), (4, .obj 4 0), (5, .t (.int .i64 0)), (6, .t (.bool false)), (9, .obj 9 0), (39, .t (.int .i64 r5)), (40, .t (.int .i64 x10)), (41, .t (.bool (decide (x10 < r5))))], [(4, [.t (.int .i64 0), .t (.int .i64 0), .t (.int .i64 0), .nil]), (9, [.t (.int .i64 y2), .t (.int .i64 y3), .t (.int .i64 y4), .own 590339])], [(590339, .live 76 2 (x11.map Sum.enc))]⟩ ?_
      refine Wp.seq ?_
      refine Wp.cond2 (b := decide (x10 < r5)) kr (fun hc => ?_) (fun hc => ?_)
      · have h := cond_t h hc
        refine Wp.skip (thenN ?_)
        refine Wp.seq ?_
        refine Wp.block ?_
        refine Wp.srg [] [] ?_
        refine Runs.batch 2 kr ?_
        obtain ⟨r15, e_r15, h⟩ := bind_some h
        refine Runs.callK false 45 37 [] [.t (.sl 1 (p0.map (eInt .u8))), .t (.int .i64 x9), .t (.int .i64 8)] _ _ _ rfl rfl kr kr kr kr kr (impl_readVar_ok u p0 x9 8 r15 e_r15) kr ?_
        refine Runs.alln ?_
        refine Wp.fg ⟨[(0, .t (.sl 1 (p0.map (eInt .u8)))), (1, .t (.int .i64 x9)), (4, .obj 4 0), (5, .t (.int .i64 0)), (6, .t (.bool false)), (9, .obj 9 0), (10, .t (.int .i64 r15.1)), (11, .t (.int .i64 r15.2.1)), (12, .t (.bool r15.2.2)), (39, .t (.int .i64 r5)), (40, .t (.int .i64 x10))], [(4, [.t (.int .i64 0), .t (.int .i64 0), .t (.int .i64 0), .nil]), (9, [.t (.int .i64 y2), .t (.int .i64 y3), .t (.int .i64 y4), .own 590339])], [(590339, .live 76 2 (x11.map Sum.enc))]⟩ ?_
        refine Wp.srg [] [] ?_
        refine Runs.batch 1 kr ?_
        obtain ⟨r16, e_r16, h⟩ := bind_some h
        refine Runs.callK false 51 63 [] [.t (.int .i64 r15.1)] _ _ _ rfl rfl kr kr kr kr kr (impl_BytesOf_ok u r15.1 r16 e_r16) kr ?_
        refine Runs.alln ?_
        refine Wp.fg ⟨[(0, .t (.sl 1 (p0.map (eInt .u8)))), (1, .t (.int .i64 x9)), (4, .obj 4 0), (5, .t (.int .i64 0)), (6, .t (.bool false)), (9, .obj 9 0), (11, .t (.int .i64 r15.2.1)), (12, .t (.bool r15.2.2)), (13, .own 3342336), (14, .t (.bool r16.2)), (39, .t (.int .i64 r5)), (40, .t (.int .i64 x10))], [(4, [.t (.int .i64 0), .t (.int .i64 0), .t (.int .i64 0), .nil]), (9, [.t (.int .i64 y2), .t (.int .i64 y3), .t (.int .i64 y4), .own 590339])], [(590339, .live 76 2 (x11.map Sum.enc)), (3342336, .live 5 1 (r16.1.map (eInt .u8)))]⟩ ?_
        refine Wp.seq ?_
        refine Wp.seqJ (α := (List Int) × Int × (Int × Int × Bool) × ((List Int) × Bool) × Int × Int × Bool × Int × Int × Int × (List Sum)) (fun a => ⟨[(0, .t (.sl 1 (a.1.map (eInt .u8)))), (1, .t (.int .i64 a.2.1)), (4, .obj 4 0), (5, .t (.int .i64 0)), (6, .t (.bool false)), (9, .obj 9 0), (11, .t (.int .i64 a.2.2.1.2.1)), (13, .own 851969), (39, .t (.int .i64 a.2.2.2.2.1)), (40, .t (.int .i64 a.2.2.2.2.2.1)), (59, .t (.bool a.2.2.2.2.2.2.1))], [(4, [.t (.int .i64 0), .t (.int .i64 0), .t (.int .i64 0), .nil]), (9, [.t (.int .i64 a.2.2.2.2.2.2.2.1), .t (.int .i64 a.2.2.2.2.2.2.2.2.1), .t (.int .i64 a.2.2.2.2.2.2.2.2.2.1), .own 590339])], [(590339, .live 76 2 (a.2.2.2.2.2.2.2.2.2.2.map Sum.enc)), (851969, .live 5 1 (a.2.2.2.1.1.map (eInt .u8)))]⟩) (fun a => impl_GetMan_j3 u (fun z0 z1 z2 z3 z4 z5 z6 z7 => impl_GetMan_l2 u k_impl_GetMan_l2 z0 z1 z2 z3 z4 z5 z6 z7) a.1 a.2.1 a.2.2.1 a.2.2.2.1 a.2.2.2.2.1 a.2.2.2.2.2.1 a.2.2.2.2.2.2.1 a.2.2.2.2.2.2.2.1 a.2.2.2.2.2.2.2.2.1 a.2.2.2.2.2.2.2.2.2.1 a.2.2.2.2.2.2.2.2.2.2 = some r) ?_ ?_
        · rintro ⟨p0, x9, r15, r16, r5, x10, x17, y2, y3, y4, x11⟩ h
          change impl_GetMan_j3 u (fun z0 z1 z2 z3 z4 z5 z6 z7 => impl_GetMan_l2 u k_impl_GetMan_l2 z0 z1 z2 z3 z4 z5 z6 z7) p0 x9 r15 r16 r5 x10 x17 y2 y3 y4 x11 = some r at h
          unfold impl_GetMan_j3 at h
          refine Wp.cond2 (b := x17) kr (fun hc => ?_) (fun hc => ?_)
          · have h := cond_t h hc
            refine Wp.srg [] [] ?_
            refine Runs.alln ?_
            refine Wp.fg ⟨[(0, .t (.sl 1 (p0.map (eInt .u8)))), (1, .t (.int .i64 x9)), (4, .obj 4 0), (5, .t (.int .i64 0)), (6, .t (.bool false)), (9, .obj 9 0), (11, .t (.int .i64 r15.2.1)), (13, .own 851969), (39, .t (.int .i64 r5)), (40, .t (.int .i64 x10))], [(4, [.t (.int .i64 0), .t (.int .i64 0), .t (.int .i64 0), .nil]), (9, [.t (.int .i64 y2), .t (.int .i64 y3), .t (.int .i64 y4), .own 590339])], [(590339, .live 76 2 (x11.map Sum.enc)), (851969, .live 5 1 (r16.1.map (eInt .u8)))]⟩ ?_
            refine Wp.ret ?_
            refine thenR ?_
            refine blkR ?_
            refine thenR ?_
            refine thenR ?_
            refine blkR ?_
            refine thenR ?_
            obtain rfl := Option.some.inj h
            exact RetK [.agg [.t (.int .i64 0), .t (.int .i64 0), .t (.int .i64 0), .nil], .t (.int .i64 0), .t (.bool false)] (.tup [.agg [.t (.int .i64 0), .t (.int .i64 0), .t (.int .i64 0), .nil], .one (.t (.int .i64 0)), .one (.t (.bool false))]) [] kr kr (.tup (.cons (.agg (.cons (.refl _) (.cons (.refl _) (.cons (.refl _) (.cons (.nilO _ _) .nil))))) (.cons (.refl _) (.cons (.refl _) .nil)))) .nil
          have h := cond_f h hc
          refine Wp.skip (thenN ?_)
          refine Wp.seq ?_
          refine Wp.regionA (pOf []) (rhoOf [(9, .obj 9), (13, .own 13), (61, .obj 9), (62, .own 9), (63, .own 13), (64, .frz), (65, .own 65), (66, .own 66), (67, .obj 9)]) kr kr ?_
          refine Runs.batch 3 kr ?_
          obtain ⟨r18, e_r18, h⟩ := bind_some h
          refine Runs.callBK 64 64 [] [.own 851969] [.one (.t (.sl 1 (r16.1.map (eInt .u8))))] (.agg [.t (.int .i64 r18.fW), .t (.int .i64 r18.fS)]) rfl rfl kr kr kr kr kr (impl_SumOf_ok u r16.1 r18 e_r18) (by simp [V.plain, V.plains, C.plain, T.sc]) kr ?_
          refine Runs.batch 1 kr ?_
          obtain ⟨_, e_19, h⟩ := bind_some h
          refine Runs.appT (y := .own 4259840) Sum.enc 66 2 76 2 16 590339 x11 ([r18]) rfl rfl rfl rfl kr kr kr kr kr kr (.inl rfl) kr (of_decide_eq_true (chk_some e_19)) kr kr ?_
          refine Runs.alln ?_
          refine Wp.fg ⟨[(0, .t (.sl 1 (p0.map (eInt .u8)))), (1, .t (.int .i64 x9)), (4, .obj 4 0), (5, .t (.int .i64 0)), (6, .t (.bool false)), (9, .obj 9 0), (11, .t (.int .i64 r15.2.1)), (39, .t (.int .i64 r5)), (40, .t (.int .i64 x10))], [(4, [.t (.int .i64 0), .t (.int .i64 0), .t (.int .i64 0), .nil]), (9, [.t (.int .i64 y2), .t (.int .i64 y3), .t (.int .i64 y4), .own 4325376])], [(4325376, .live 76 2 ((x11 ++ ([r18])).map Sum.enc))]⟩ ?_
          refine Wp.rg [] [] ?_
          refine Runs.all kr ?_
          refine blkN ?_
          refine thenN ?_
          refine Wp.rg [] [] ?_
          refine Runs.alln ?_
          exact ⟨(p0, r15.2.1, r5, bAdd .i64 x10 1, y2, y3, y4, x11 ++ ([r18])), h, Le.of (mo := []) (mr := [(590339, 4325376)]) kr kr kr kr⟩
        · refine Wp.rg [] [] ?_
          refine Runs.batch 3 kr ?_
          rcases tf (!r15.2.2) with hc | hc
          · have h := cond_t h hc
            refine Runs.known 56 (v := true) kr hc ?_
            refine Runs.alln ?_
            exact ⟨(p0, x9, r15, r16, r5, x10, true, y2, y3, y4, x11), h, Le.of (mo := []) (mr := [(851969, 3342336)]) kr kr kr kr⟩
          have h := cond_f h hc
          refine Runs.known 56 (v := false) kr hc ?_
          refine Runs.alln ?_
          exact ⟨(p0, x9, r15, r16, r5, x10, !r16.2, y2, y3, y4, x11), h, Le.of (mo := []) (mr := [(851969, 3342336)]) kr kr kr kr⟩
      have h := cond_f h hc
      refine Wp.exit ?_
      refine thenE ?_
      refine thenE ?_
      refine blkE ?_
      refine thenN ?_
      exact ⟨(x9, y2, y3, y4, x11), h, Le.of (mo := []) (mr := []) kr kr kr kr⟩
theorem impl_cloned_ok (u : Nat) (p0 : List Int) (r : (List Int)) (h : impl_cloned u p0 = some r) : CallOK Tryd.prog 69 [.one (.t (.sl 1 (p0.map (eInt .u8))))] (.one (.ow 5 1 (r.map (eInt .u8)))) [] := by
  unfold impl_cloned at h
  refine CallOK.of_bodyK (fn := Tryd.f69) (m := true) [.t (.sl 1 (p0.map (eInt .u8)))] kr rfl kr kr kr kr kr ?_
  refine Wp.srg [] [] ?_
  refine Runs.alln ?_
  refine Wp.fg ⟨[(0, .t (.sl 1 (p0.map (eInt .u8)))), (2, .nil)], [], []⟩ ?_
  refine Wp.srg [] [] ?_
  refine Runs.batch 1 kr ?_
  refine Runs.lenT (y := .t (.sl 1 (p0.map (eInt .u8)))) (e := 5) (eInt .u8) p0 1 rfl rfl rfl kr kr kr kr kr ?_
  obtain ⟨_, e_1, h⟩ := bind_some h
  obtain ⟨_, e_2, h⟩ := bind_some h
  refine Runs.mkS (eInt .u8) (0 : Int) 5 5 1 1 0 ((p0.length : Int)) rfl rfl kr kr kr kr kr kr (chk_some e_1) (of_decide_eq_true (chk_some e_2)) kr ?_
  refine Runs.batch 1 kr ?_
  obtain ⟨_, e_3, h⟩ := bind_some h
  refine Runs.appT (y := .t (.sl 1 (p0.map (eInt .u8)))) (eInt .u8) 7 1 5 1 1 327680 (List.replicate (Int.toNat 0) (0 : Int)) p0 rfl rfl rfl rfl kr kr kr kr kr kr (.inl rfl) kr (of_decide_eq_true (chk_some e_3)) kr kr ?_
  refine Runs.alln ?_
  refine Wp.fg ⟨[(2, .own 458752)], [], [(458752, .live 5 1 (((List.replicate (Int.toNat 0) (0 : Int)) ++ p0).map (eInt .u8)))]⟩ ?_
  refine Wp.ret ?_
  obtain rfl := Option.some.inj h
  exact RetK [.own 458752] _ [] kr kr (.refl _) .nil
theorem impl_Slice_ok (u : Nat) (p0 : List Int) (p1 : Int) (p2 : Int) (r : (List Int) × Bool) (h : impl_Slice u p0 p1 p2 = some r) : CallOK Tryd.prog 65 [.one (.t (.sl 1 (p0.map (eInt .u8)))), .one (.t (.int .i64 p1)), .one (.t (.int .i64 p2))] (.tup [.one (.ow 5 1 (r.1.map (eInt .u8))), .one (.t (.bool r.2))]) [] := by
  unfold impl_Slice at h
  refine CallOK.of_bodyK (fn := Tryd.f65) (m := true) [.t (.sl 1 (p0.map (eInt .u8))), .t (.int .i64 p1), .t (.int .i64 p2)] kr rfl kr kr kr kr kr ?_
  refine Wp.srg [] [] ?_
  refine Runs.alln ?_
  refine Wp.fg ⟨[(0, .t (.sl 1 (p0.map (eInt .u8)))), (1, .t (.int .i64 p1)), (2, .t (.int .i64 p2)), (6, .nil), (7, .t (.bool false))], [], []⟩ ?_
  refine Wp.seq ?_
  refine Wp.seqJ (α := (List Int) × Int × Int × Bool) (fun a => ⟨[(0, .t (.sl 1 (a.1.map (eInt .u8)))), (1, .t (.int .i64 a.2.1)), (2, .t (.int .i64 a.2.2.1)), (6, .nil), (7, .t (.bool false)), (21, .t (.bool a.2.2.2))], [], []⟩) (fun a => impl_Slice_j1 u a.1 a.2.1 a.2.2.1 a.2.2.2 = some r) ?_ ?_
  · rintro ⟨p0, p1, p2, x3⟩ h
    change impl_Slice_j1 u p0 p1 p2 x3 = some r at h
    unfold impl_Slice_j1 at h
    refine Wp.cond2 (b := x3) kr (fun hc => ?_) (fun hc => ?_)
    · have h := cond_t h hc
      refine Wp.srg [] [] ?_
      refine Runs.alln ?_
      refine Wp.fg ⟨[(0, .t (.sl 1 (p0.map (eInt .u8)))), (1, .t (.int .i64 p1)), (2, .t (.int .i64 p2)), (6, .nil), (7, .t (.bool false))], [], []⟩ ?_
      refine Wp.ret ?_
      refine thenR ?_
      obtain rfl := Option.some.inj h
      exact RetK [.nil, .t (.bool false)] (.tup [.one (.nil), .one (.t (.bool false))]) [] kr kr (.tup (.cons (.one (.nilO _ _)) (.cons (.refl _) .nil))) .nil
    have h := cond_f h hc
    refine Wp.skip (thenN ?_)
    refine Wp.srg [] [] ?_
    refine Runs.batch 5 kr ?_
    obtain ⟨_, e_4, h⟩ := bind_some h
    refine Runs.subsl (e := 5) (ax := .t (.sl 1 (p0.map (eInt .u8)))) (alo := (some (.t (.int .i64 p1)))) (ahi := (some (.t (.int .i64 (bAdd .i64 p1 p2))))) (eInt .u8) p0 1 p1 (bAdd .i64 p1 p2) rfl kr kr kr kr kr kr kr kr kr kr kr (chk_some e_4) ?_
    obtain ⟨r5, e_r5, h⟩ := bind_some h
    refine Runs.callK false 28 69 [] [.t (.sl 1 (((p0.take (Int.toNat (bAdd .i64 p1 p2))).drop (Int.toNat p1)).map (eInt .u8)))] _ _ _ rfl rfl kr kr kr kr kr (impl_cloned_ok u ((p0.take (Int.toNat (bAdd .i64 p1 p2))).drop (Int.toNat p1)) r5 e_r5) kr ?_
    refine Runs.alln ?_
    refine Wp.fg ⟨[(6, .own 1835008), (7, .t (.bool true))], [], [(1835008, .live 5 1 (r5.map (eInt .u8)))]⟩ ?_
    refine Wp.ret ?_
    obtain rfl := Option.some.inj h
    exact RetK [.own 1835008, .t (.bool true)] _ [] kr kr (.refl _) .nil
  · refine Wp.rg [] [] ?_
    refine Runs.batch 2 kr ?_
    refine Runs.lenT (y := .t (.sl 1 (p0.map (eInt .u8)))) (e := 5) (eInt .u8) p0 1 rfl rfl rfl kr kr kr kr kr ?_
    obtain ⟨r1, e_r1, h⟩ := bind_some h
    refine Runs.callK false 11 45 [] [.t (.int .i64 p1), .t (.int .i64 0), .t (.int .i64 ((p0.length : Int)))] _ _ _ rfl rfl kr kr kr kr kr (impl_within_ok u p1 0 ((p0.length : Int)) r1 e_r1) kr ?_
    refine Runs.batch 2 kr ?_
    rcases tf (!r1) with hc | hc
    · have h := cond_t h hc
      refine Runs.known 13 (v := true) kr hc ?_
      refine Runs.alln ?_
      exact ⟨(p0, p1, p2, true), h, Le.of (mo := []) (mr := []) kr kr kr kr⟩
    have h := cond_f h hc
    refine Runs.known 13 (v := false) kr hc ?_
    refine Runs.batch 2 kr ?_
    refine Runs.lenT (y := .t (.sl 1 (p0.map (eInt .u8)))) (e := 5) (eInt .u8) p0 1 rfl rfl rfl kr kr kr kr kr ?_
    refine Runs.batch 2 kr ?_
    obtain ⟨r2, e_r2, h⟩ := bind_some h
    refine Runs.callK false 19 45 [] [.t (.int .i64 p2), .t (.int .i64 0), .t (.int .i64 (bSub .i64 ((p0.length : Int)) p1))] _ _ _ rfl rfl kr kr kr kr kr (impl_within_ok u p2 0 (bSub .i64 ((p0.length : Int)) p1) r2 e_r2) kr ?_
    refine Runs.alln ?_
    exact ⟨(p0, p1, p2, !r2), h, Le.of (mo := []) (mr := []) kr kr kr kr⟩
theorem impl_GetPart_ok (u : Nat) (p0 : List Int) (p1 : Int) (p2 : Int) (r : (List Int) × Int × Bool) (h : impl_GetPart u p0 p1 p2 = some r) : CallOK Tryd.prog 40 [.one (.t (.sl 1 (p0.map (eInt .u8)))), .one (.t (.int .i64 p1)), .one (.t (.int .i64 p2))] (.tup [.one (.ow 5 1 (r.1.map (eInt .u8))), .one (.t (.int .i64 r.2.1)), .one (.t (.bool r.2.2))]) [] := by
  unfold impl_GetPart at h
  refine CallOK.of_bodyK (fn := Tryd.f40) (m := true) [.t (.sl 1 (p0.map (eInt .u8))), .t (.int .i64 p1), .t (.int .i64 p2)] kr rfl kr kr kr kr kr ?_
  refine Wp.srg [] [] ?_
  refine Runs.alln ?_
  refine Wp.fg ⟨[(0, .t (.sl 1 (p0.map (eInt .u8)))), (1, .t (.int .i64 p1)), (2, .t (.int .i64 p2)), (6, .nil), (7, .t (.int .i64 0)), (8, .t (.bool false))], [], []⟩ ?_
  refine Wp.srg [] [] ?_
  refine Runs.batch 2 kr ?_
  obtain ⟨r1, e_r1, h⟩ := bind_some h
  refine Runs.callK false 16 23 [] [.t (.sl 1 (p0.map (eInt .u8))), .t (.int .i64 p1)] _ _ _ rfl rfl kr kr kr kr kr (impl_GetVar_ok u p0 p1 r1 e_r1) kr ?_
  refine Runs.alln ?_
  refine Wp.fg ⟨[(0, .t (.sl 1 (p0.map (eInt .u8)))), (2, .t (.int .i64 p2)), (6, .nil), (7, .t (.int .i64 0)), (8, .t (.bool false)), (9, .t (.int .i64 r1.1)), (10, .t (.int .i64 r1.2.1)), (11, .t (.bool r1.2.2))], [], []⟩ ?_
  refine Wp.seq ?_
  refine Wp.seqJ (α := (List Int) × (Int × Int × Bool) × Bool) (fun a => ⟨[(0, .t (.sl 1 (a.1.map (eInt .u8)))), (6, .nil), (7, .t (.int .i64 0)), (8, .t (.bool false)), (9, .t (.int .i64 a.2.1.1)), (10, .t (.int .i64 a.2.1.2.1)), (26, .t (.bool a.2.2))], [], []⟩) (fun a => impl_GetPart_j1 u a.1 a.2.1 a.2.2 = some r) ?_ ?_
  · rintro ⟨p0, r1, x2⟩ h
    change impl_GetPart_j1 u p0 r1 x2 = some r at h
    unfold impl_GetPart_j1 at h
    refine Wp.cond2 (b := x2) kr (fun hc => ?_) (fun hc => ?_)
    · have h := cond_t h hc
      refine Wp.srg [] [] ?_
      refine Runs.alln ?_
      refine Wp.fg ⟨[(0, .t (.sl 1 (p0.map (eInt .u8)))), (6, .nil), (7, .t (.int .i64 0)), (8, .t (.bool false)), (9, .t (.int .i64 r1.1)), (10, .t (.int .i64 r1.2.1))], [], []⟩ ?_
      refine Wp.ret ?_
      refine thenR ?_
      obtain rfl := Option.some.inj h
      exact RetK [.nil, .t (.int .i64 0), .t (.bool false)] (.tup [.one (.nil), .one (.t (.int .i64 0)), .one (.t (.bool false))]) [] kr kr (.tup (.cons (.one (.nilO _ _)) (.cons (.refl _) (.cons (.refl _) .nil)))) .nil
    have h := cond_f h hc
    refine Wp.skip (thenN ?_)
    refine Wp.srg [] [] ?_
    refine Runs.batch 3 kr ?_
    obtain ⟨r3, e_r3, h⟩ := bind_some h
    refine Runs.callK false 31 65 [] [.t (.sl 1 (p0.map (eInt .u8))), .t (.int .i64 r1.2.1), .t (.int .i64 r1.1)] _ _ _ rfl rfl kr kr kr kr kr (impl_Slice_ok u p0 r1.2.1 r1.1 r3 e_r3) kr ?_
    refine Runs.alln ?_
    refine Wp.fg ⟨[(6, .nil), (7, .t (.int .i64 0)), (8, .t (.bool false)), (9, .t (.int .i64 r1.1)), (10, .t (.int .i64 r1.2.1)), (11, .t (.bool r3.2)), (12, .own 2031616)], [], [(2031616, .live 5 1 (r3.1.map (eInt .u8)))]⟩ ?_
    refine Wp.seq ?_
    refine Wp.srg [] [] ?_
    refine Runs.alln ?_
    refine Wp.fg ⟨[(6, .nil), (7, .t (.int .i64 0)), (8, .t (.bool false)), (9, .t (.int .i64 r1.1)), (10, .t (.int .i64 r1.2.1)), (12, .own 2031616), (35, .t (.bool (!r3.2)))], [], [(2031616, .live 5 1 (r3.1.map (eInt .u8)))]⟩ ?_
    refine Wp.cond2 (b := !r3.2) kr (fun hc => ?_) (fun hc => ?_)
    · have h := cond_t h hc
      refine Wp.srg [] [] ?_
      refine Runs.alln ?_
      refine Wp.fg ⟨[(6, .nil), (7, .t (.int .i64 0)), (8, .t (.bool false)), (9, .t (.int .i64 r1.1)), (10, .t (.int .i64 r1.2.1)), (12, .own 2031616)], [], [(2031616, .live 5 1 (r3.1.map (eInt .u8)))]⟩ ?_
      refine Wp.ret ?_
      refine thenR ?_
      obtain rfl := Option.some.inj h
      exact RetK [.nil, .t (.int .i64 0), .t (.bool false)] (.tup [.one (.nil), .one (.t (.int .i64 0)), .one (.t (.bool false))]) [] kr kr (.tup (.cons (.one (.nilO _ _)) (.cons (.refl _) (.cons (.refl _) .nil)))) .nil
    have h := cond_f h hc
    refine Wp.skip (thenN ?_)
    refine Wp.srg [] [] ?_
    refine Runs.alln ?_
    refine Wp.fg ⟨[(6, .own 2031616), (7, .t (.int .i64 (bAdd .i64 r1.2.1 r1.1))), (8, .t (.bool true))], [], [(2031616, .live 5 1 (r3.1.map (eInt .u8)))]⟩ ?_
    refine Wp.ret ?_
    obtain rfl := Option.some.inj h
    exact RetK [.own 2031616, .t (.int .i64 (bAdd .i64 r1.2.1 r1.1)), .t (.bool true)] _ [] kr kr (.refl _) .nil
  · refine Wp.rg [] [] ?_
    refine Runs.batch 3 kr ?_
    rcases tf (!r1.2.2) with hc | hc
    · have h := cond_t h hc
      refine Runs.known 22 (v := true) kr hc ?_
      refine Runs.alln ?_
      exact ⟨(p0, r1, true), h, Le.of (mo := []) (mr := []) kr kr kr kr⟩
    have h := cond_f h hc
    refine Runs.known 22 (v := false) kr hc ?_
    refine Runs.alln ?_
    exact ⟨(p0, r1, decide (r1.1 > p2)), h, Le.of (mo := []) (mr := []) kr kr kr kr⟩
theorem impl_readMsg_ok (u : Nat) (p0 : List Int) (p1 : Int) (p2 : Int) (r : Msg × Bool) (h : impl_readMsg u p0 p1 p2 = some r) : CallOK Tryd.prog 24 [.one (.t (.sl 1 (p0.map (eInt .u8)))), .one (.t (.int .i64 p1)), .one (.t (.int .i64 p2))] (.tup [.agg [.t (.int .i64 r.1.fKind), .t (.int .i64 r.1.fGen), .t (.int .i64 r.1.fMan.fGen), .t (.int .i64 r.1.fMan.fSize), .t (.int .i64 r.1.fMan.fLen), .ow 76 2 (r.1.fMan.fSums.map Sum.enc), .t (.int .i64 r.1.fWant), .t (.int .i64 r.1.fDone), .t (.int .i64 r.1.fI), .ow 5 1 (r.1.fB.map (eInt .u8))], .one (.t (.bool r.2))]) [] := by
  unfold impl_readMsg at h
  refine CallOK.of_bodyK (fn := Tryd.f24) (m := true) [.t (.sl 1 (p0.map (eInt .u8))), .t (.int .i64 p1), .t (.int .i64 p2)] kr rfl kr kr kr kr kr ?_
  refine Wp.srg [] [] ?_
  refine Runs.alln ?_
  refine Wp.fg ⟨[(0, .t (.sl 1 (p0.map (eInt .u8)))), (1, .t (.int .i64 p1)), (2, .t (.int .i64 p2)), (6, .obj 6 0), (7, .t (.bool false))], [(6, [.t (.int .i64 0), .t (.int .i64 0), .t (.int .i64 0), .t (.int .i64 0), .t (.int .i64 0), .nil, .t (.int .i64 0), .t (.int .i64 0), .t (.int .i64 0), .nil])], []⟩ ?_
  refine Wp.srg [] [] ?_
  refine Runs.alln ?_
  refine Wp.fg ⟨[(0, .t (.sl 1 (p0.map (eInt .u8)))), (1, .t (.int .i64 p1)), (2, .t (.int .i64 p2)), (6, .obj 6 0), (7, .t (.bool false)), (8, .obj 8 0)], [(6, [.t (.int .i64 0), .t (.int .i64 0), .t (.int .i64 0), .t (.int .i64 0), .t (.int .i64 0), .nil, .t (.int .i64 0), .t (.int .i64 0), .t (.int .i64 0), .nil]), (8, [.t (.int .i64 p1), .t (.int .i64 0), .t (.int .i64 0), .t (.int .i64 0), .t (.int .i64 0), .nil, .t (.int .i64 0), .t (.int .i64 0), .t (.int .i64 0), .nil])], []⟩ ?_
  refine Wp.srg [] [] ?_
  refine Runs.alln ?_
  refine Wp.fg ⟨[(0, .t (.sl 1 (p0.map (eInt .u8)))), (1, .t (.int .i64 p1)), (2, .t (.int .i64 p2)), (6, .obj 6 0), (7, .t (.bool false)), (8, .obj 8 0), (9, .t (.bool false))], [(6, [.t (.int .i64 0), .t (.int .i64 0), .t (.int .i64 0), .t (.int .i64 0), .t (.int .i64 0), .nil, .t (.int .i64 0), .t (.int .i64 0), .t (.int .i64 0), .nil]), (8, [.t (.int .i64 p1), .t (.int .i64 0), .t (.int .i64 0), .t (.int .i64 0), .t (.int .i64 0), .nil, .t (.int .i64 0), .t (.int .i64 0), .t (.int .i64 0), .nil])], []⟩ ?_
  refine Wp.seqJ (α := Bool × Int × Int × Int × Int × Int × (List Sum) × Int × Int × Int × (List Int)) (fun a => ⟨[(6, .obj 6 0), (7, .t (.bool false)), (8, .obj 8 0), (9, .t (.bool a.1))], [(6, [.t (.int .i64 0), .t (.int .i64 0), .t (.int .i64 0), .t (.int .i64 0), .t (.int .i64 0), .nil, .t (.int .i64 0), .t (.int .i64 0), .t (.int .i64 0), .nil]), (8, [.t (.int .i64 a.2.1), .t (.int .i64 a.2.2.1), .t (.int .i64 a.2.2.2.1), .t (.int .i64 a.2.2.2.2.1), .t (.int .i64 a.2.2.2.2.2.1), .own 524805, .t (.int .i64 a.2.2.2.2.2.2.2.1), .t (.int .i64 a.2.2.2.2.2.2.2.2.1), .t (.int .i64 a.2.2.2.2.2.2.2.2.2.1), .own 524809])], [(524805, .live 76 2 (a.2.2.2.2.2.2.1.map Sum.enc)), (524809, .live 5 1 (a.2.2.2.2.2.2.2.2.2.2.map (eInt .u8)))]⟩) (fun a => impl_readMsg_j1 u a.1 a.2.1 a.2.2.1 a.2.2.2.1 a.2.2.2.2.1 a.2.2.2.2.2.1 a.2.2.2.2.2.2.1 a.2.2.2.2.2.2.2.1 a.2.2.2.2.2.2.2.2.1 a.2.2.2.2.2.2.2.2.2.1 a.2.2.2.2.2.2.2.2.2.2 = some r) ?_ ?_
  · rintro ⟨x13, p1, x14, x15, x16, x17, x18, x19, x20, x21, x22⟩ h
    change impl_readMsg_j1 u x13 p1 x14 x15 x16 x17 x18 x19 x20 x21 x22 = some r at h
    unfold impl_readMsg_j1 at h
    refine Wp.srg [] [] ?_
    refine Runs.alln ?_
    refine Wp.fg ⟨[(6, .obj 6 0), (7, .t (.bool x13))], [(6, [.t (.int .i64 p1), .t (.int .i64 x14), .t (.int .i64 x15), .t (.int .i64 x16), .t (.int .i64 x17), .own 524805, .t (.int .i64 x19), .t (.int .i64 x20), .t (.int .i64 x21), .own 524809])], [(524805, .live 76 2 (x18.map Sum.enc)), (524809, .live 5 1 (x22.map (eInt .u8)))]⟩ ?_
    refine Wp.ret ?_
    obtain rfl := Option.some.inj h
    exact RetK [.agg [.t (.int .i64 p1), .t (.int .i64 x14), .t (.int .i64 x15), .t (.int .i64 x16), .t (.int .i64 x17), .own 524805, .t (.int .i64 x19), .t (.int .i64 x20), .t (.int .i64 x21), .own 524809], .t (.bool x13)] _ [] kr kr (.refl _) .nil
  · refine Wp.srg [] [] ?_
    refine Runs.alln ?_
    refine Wp.fg ⟨[(0, .t (.sl 1 (p0.map (eInt .u8)))), (2, .t (.int .i64 p2)), (6, .obj 6 0), (7, .t (.bool false)), (8, .obj 8 0), (9, .t (.bool false)), (18, .t (.int .i64 p1))], [(6, [.t (.int .i64 0), .t (.int .i64 0), .t (.int .i64 0), .t (.int .i64 0), .t (.int .i64 0), .nil, .t (.int .i64 0), .t (.int .i64 0), .t (.int .i64 0), .nil]), (8, [.t (.int .i64 p1), .t (.int .i64 0), .t (.int .i64 0), .t (.int .i64 0), .t (.int .i64 0), .nil, .t (.int .i64 0), .t (.int .i64 0), .t (.int .i64 0), .nil])], []⟩ ?_
    refine Wp.block ?_
    refine Wp.srg [] [] ?_
    refine Runs.alln ?_
    refine Wp.fg ⟨[(0, .t (.sl 1 (p0.map (eInt .u8)))), (2, .t (.int .i64 p2)), (6, .obj 6 0), (7, .t (.bool false)), (8, .obj 8 0), (9, .t (.bool false)), (18, .t (.int .i64 p1)), (19, .t (.bool (p1 == 1)))], [(6, [.t (.int .i64 0), .t (.int .i64 0), .t (.int .i64 0), .t (.int .i64 0), .t (.int .i64 0), .nil, .t (.int .i64 0), .t (.int .i64 0), .t (.int .i64 0), .nil]), (8, [.t (.int .i64 p1), .t (.int .i64 0), .t (.int .i64 0), .t (.int .i64 0), .t (.int .i64 0), .nil, .t (.int .i64 0), .t (.int .i64 0), .t (.int .i64 0), .nil])], []⟩ ?_
    refine Wp.cond2 (b := p1 == 1) kr (fun hc => ?_) (fun hc => ?_)
    · have h := cond_t h hc
      refine Wp.rg [] [] ?_
      refine Runs.batch 2 kr ?_
      obtain ⟨r1, e_r1, h⟩ := bind_some h
      refine Runs.callK false 24 38 [] [.t (.sl 1 (p0.map (eInt .u8))), .t (.int .i64 p2)] _ _ _ rfl rfl kr kr kr kr kr (impl_GetMan_ok u p0 p2 r1 e_r1) kr ?_
      refine Runs.all kr ?_
      refine blkN ?_
      refine thenN ?_
      exact ⟨(r1.2.2, p1, 0, r1.1.fGen, r1.1.fSize, r1.1.fLen, r1.1.fSums, 0, 0, 0, []), h, Le.trans (Le.emptyO 8 9 524809 5 1 [.t (.int .i64 p1), .t (.int .i64 0), .t (.int .i64 r1.1.fGen), .t (.int .i64 r1.1.fSize), .t (.int .i64 r1.1.fLen), .own 1572867, .t (.int .i64 0), .t (.int .i64 0), .t (.int .i64 0), .nil] kr kr kr) (Le.of (mo := []) (mr := [(524805, 1572867)]) kr kr kr kr)⟩
    have h := cond_f h hc
    refine Wp.srg [] [] ?_
    refine Runs.alln ?_
    refine Wp.fg ⟨[(0, .t (.sl 1 (p0.map (eInt .u8)))), (2, .t (.int .i64 p2)), (6, .obj 6 0), (7, .t (.bool false)), (8, .obj 8 0), (9, .t (.bool false)), (18, .t (.int .i64 p1)), (29, .t (.bool (p1 == 2)))], [(6, [.t (.int .i64 0), .t (.int .i64 0), .t (.int .i64 0), .t (.int .i64 0), .t (.int .i64 0), .nil, .t (.int .i64 0), .t (.int .i64 0), .t (.int .i64 0), .nil]), (8, [.t (.int .i64 p1), .t (.int .i64 0), .t (.int .i64 0), .t (.int .i64 0), .t (.int .i64 0), .nil, .t (.int .i64 0), .t (.int .i64 0), .t (.int .i64 0), .nil])], []⟩ ?_
    refine Wp.cond2 (b := p1 == 2) kr (fun hc => ?_) (fun hc => ?_)
    · have h := cond_t h hc
      refine Wp.srg [] [] ?_
      refine Runs.batch 2 kr ?_
      obtain ⟨r2, e_r2, h⟩ := bind_some h
      refine Runs.callK false 34 39 [] [.t (.sl 1 (p0.map (eInt .u8))), .t (.int .i64 p2), .t (.int .i64 5)] _ _ _ rfl rfl kr kr kr kr kr (impl_readVars_ok u p0 p2 5 r2 e_r2) kr ?_
      refine Runs.alln ?_
      refine Wp.fg ⟨[(6, .obj 6 0), (7, .t (.bool false)), (8, .obj 8 0), (9, .t (.bool false)), (10, .own 2228224), (12, .t (.bool r2.2.2))], [(6, [.t (.int .i64 0), .t (.int .i64 0), .t (.int .i64 0), .t (.int .i64 0), .t (.int .i64 0), .nil, .t (.int .i64 0), .t (.int .i64 0), .t (.int .i64 0), .nil]), (8, [.t (.int .i64 p1), .t (.int .i64 0), .t (.int .i64 0), .t (.int .i64 0), .t (.int .i64 0), .nil, .t (.int .i64 0), .t (.int .i64 0), .t (.int .i64 0), .nil])], [(2228224, .live 3 1 (r2.1.map (eInt .i64)))]⟩ ?_
      refine Wp.seq ?_
      refine Wp.srg [] [] ?_
      refine Runs.alln ?_
      refine Wp.fg ⟨[(6, .obj 6 0), (7, .t (.bool false)), (8, .obj 8 0), (9, .t (.bool false)), (10, .own 2228224), (39, .t (.bool (!r2.2.2)))], [(6, [.t (.int .i64 0), .t (.int .i64 0), .t (.int .i64 0), .t (.int .i64 0), .t (.int .i64 0), .nil, .t (.int .i64 0), .t (.int .i64 0), .t (.int .i64 0), .nil]), (8, [.t (.int .i64 p1), .t (.int .i64 0), .t (.int .i64 0), .t (.int .i64 0), .t (.int .i64 0), .nil, .t (.int .i64 0), .t (.int .i64 0), .t (.int .i64 0), .nil])], [(2228224, .live 3 1 (r2.1.map (eInt .i64)))]⟩ ?_
      refine Wp.cond2 (b := !r2.2.2) kr (fun hc => ?_) (fun hc => ?_)
      · have h := cond_t h hc
        refine Wp.srg [] [] ?_
        refine Runs.alln ?_
        refine Wp.fg ⟨[(6, .obj 6 0), (7, .t (.bool false)), (8, .obj 8 0), (9, .t (.bool false)), (10, .own 2228224)], [(6, [.t (.int .i64 0), .t (.int .i64 0), .t (.int .i64 0), .t (.int .i64 0), .t (.int .i64 0), .nil, .t (.int .i64 0), .t (.int .i64 0), .t (.int .i64 0), .nil]), (8, [.t (.int .i64 p1), .t (.int .i64 0), .t (.int .i64 0), .t (.int .i64 0), .t (.int .i64 0), .nil, .t (.int .i64 0), .t (.int .i64 0), .t (.int .i64 0), .nil])], [(2228224, .live 3 1 (r2.1.map (eInt .i64)))]⟩ ?_
        refine Wp.ret ?_
        refine thenR ?_
        refine blkR ?_
        refine thenR ?_
        obtain rfl := Option.some.inj h
        exact RetK [.agg [.t (.int .i64 0), .t (.int .i64 0), .t (.int .i64 0), .t (.int .i64 0), .t (.int .i64 0), .nil, .t (.int .i64 0), .t (.int .i64 0), .t (.int .i64 0), .nil], .t (.bool false)] (.tup [.agg [.t (.int .i64 0), .t (.int .i64 0), .t (.int .i64 0), .t (.int .i64 0), .t (.int .i64 0), .nil, .t (.int .i64 0), .t (.int .i64 0), .t (.int .i64 0), .nil], .one (.t (.bool false))]) [] kr kr (.tup (.cons (.agg (.cons (.refl _) (.cons (.refl _) (.cons (.refl _) (.cons (.refl _) (.cons (.refl _) (.cons (.nilO _ _) (.cons (.refl _) (.cons (.refl _) (.cons (.refl _) (.cons (.nilO _ _) .nil))))))))))) (.cons (.refl _) .nil))) .nil
      have h := cond_f h hc
      refine Wp.skip (thenN ?_)
      refine Wp.regionA (pOf []) (rhoOf [(8, .obj 8), (10, .own 34), (41, .own 34), (42, .el 34), (43, .frz), (44, .own 34), (45, .el 34), (46, .frz), (47, .own 34), (48, .el 34), (49, .frz), (50, .frz), (51, .frz), (52, .own 34), (53, .el 34), (54, .frz), (55, .own 34), (56, .el 34), (57, .frz), (58, .frz), (59, .frz), (60, .obj 8), (61, .obj 8), (62, .obj 8)]) kr kr ?_
      refine Runs.batch 1 kr ?_
      obtain ⟨y3, e_y3, h⟩ := bind_some h
      refine Runs.idxO (e := 3) (e' := 3) (kk := .i64) (sz := 1) (eInt .i64) r2.1 0 2228224 rfl kr kr kr kr kr kr kr e_y3 ?_
      refine Runs.loadE (e' := 3) (sz := 1) (m := 1) (gg := false) (eInt .i64) r2.1 2228224 (Int.toNat 0) 0 (.t (.int .i64 y3)) rfl kr kr kr kr kr kr (idx_some e_y3).2 kr ?_
      refine Runs.batch 1 kr ?_
      obtain ⟨y4, e_y4, h⟩ := bind_some h
      refine Runs.idxO (e := 3) (e' := 3) (kk := .i64) (sz := 1) (eInt .i64) r2.1 1 2228224 rfl kr kr kr kr kr kr kr e_y4 ?_
      refine Runs.loadE (e' := 3) (sz := 1) (m := 1) (gg := false) (eInt .i64) r2.1 2228224 (Int.toNat 1) 0 (.t (.int .i64 y4)) rfl kr kr kr kr kr kr (idx_some e_y4).2 kr ?_
      refine Runs.batch 1 kr ?_
      obtain ⟨y5, e_y5, h⟩ := bind_some h
      refine Runs.idxO (e := 3) (e' := 3) (kk := .i64) (sz := 1) (eInt .i64) r2.1 2 2228224 rfl kr kr kr kr kr kr kr e_y5 ?_
      refine Runs.loadE (e' := 3) (sz := 1) (m := 1) (gg := false) (eInt .i64) r2.1 2228224 (Int.toNat 2) 0 (.t (.int .i64 y5)) rfl kr kr kr kr kr kr (idx_some e_y5).2 kr ?_
      refine Runs.batch 3 kr ?_
      obtain ⟨y6, e_y6, h⟩ := bind_some h
      refine Runs.idxO (e := 3) (e' := 3) (kk := .i64) (sz := 1) (eInt .i64) r2.1 3 2228224 rfl kr kr kr kr kr kr kr e_y6 ?_
      refine Runs.loadE (e' := 3) (sz := 1) (m := 1) (gg := false) (eInt .i64) r2.1 2228224 (Int.toNat 3) 0 (.t (.int .i64 y6)) rfl kr kr kr kr kr kr (idx_some e_y6).2 kr ?_
      refine Runs.batch 1 kr ?_
      obtain ⟨y7, e_y7, h⟩ := bind_some h
      refine Runs.idxO (e := 3) (e' := 3) (kk := .i64) (sz := 1) (eInt .i64) r2.1 4 2228224 rfl kr kr kr kr kr kr kr e_y7 ?_
      refine Runs.loadE (e' := 3) (sz := 1) (m := 1) (gg := false) (eInt .i64) r2.1 2228224 (Int.toNat 4) 0 (.t (.int .i64 y7)) rfl kr kr kr kr kr kr (idx_some e_y7).2 kr ?_
      refine Runs.all kr ?_
      refine blkN ?_
      refine thenN ?_
      exact ⟨(true, p1, y3, 0, 0, 0, [], bOr .i64 y4 (bShl .i64 y5 20), bOr .i64 y6 (bShl .i64 y7 20), 0, []), h, Le.trans (Le.emptyO 8 5 524805 76 2 [.t (.int .i64 p1), .t (.int .i64 y3), .t (.int .i64 0), .t (.int .i64 0), .t (.int .i64 0), .nil, .t (.int .i64 (bOr .i64 y4 (bShl .i64 y5 20))), .t (.int .i64 (bOr .i64 y6 (bShl .i64 y7 20))), .t (.int .i64 0), .nil] kr kr kr) (Le.trans (Le.emptyO 8 9 524809 5 1 [.t (.int .i64 p1), .t (.int .i64 y3), .t (.int .i64 0), .t (.int .i64 0), .t (.int .i64 0), .own 524805, .t (.int .i64 (bOr .i64 y4 (bShl .i64 y5 20))), .t (.int .i64 (bOr .i64 y6 (bShl .i64 y7 20))), .t (.int .i64 0), .nil] kr kr kr) (Le.of (mo := []) (mr := []) kr kr kr kr))⟩
    have h := cond_f h hc
    refine Wp.srg [] [] ?_
    refine Runs.alln ?_
    refine Wp.fg ⟨[(0, .t (.sl 1 (p0.map (eInt .u8)))), (2, .t (.int .i64 p2)), (6, .obj 6 0), (7, .t (.bool false)), (8, .obj 8 0), (9, .t (.bool false)), (18, .t (.int .i64 p1)), (63, .t (.bool (p1 == 3)))], [(6, [.t (.int .i64 0), .t (.int .i64 0), .t (.int .i64 0), .t (.int .i64 0), .t (.int .i64 0), .nil, .t (.int .i64 0), .t (.int .i64 0), .t (.int .i64 0), .nil]), (8, [.t (.int .i64 p1), .t (.int .i64 0), .t (.int .i64 0), .t (.int .i64 0), .t (.int .i64 0), .nil, .t (.int .i64 0), .t (.int .i64 0), .t (.int .i64 0), .nil])], []⟩ ?_
    refine Wp.cond2 (b := p1 == 3) kr (fun hc => ?_) (fun hc => ?_)
    · have h := cond_t h hc
      refine Wp.srg [] [] ?_
      refine Runs.batch 2 kr ?_
      obtain ⟨r8, e_r8, h⟩ := bind_some h
      refine Runs.callK false 68 39 [] [.t (.sl 1 (p0.map (eInt .u8))), .t (.int .i64 p2), .t (.int .i64 2)] _ _ _ rfl rfl kr kr kr kr kr (impl_readVars_ok u p0 p2 2 r8 e_r8) kr ?_
      refine Runs.alln ?_
      refine Wp.fg ⟨[(0, .t (.sl 1 (p0.map (eInt .u8)))), (6, .obj 6 0), (7, .t (.bool false)), (8, .obj 8 0), (9, .t (.bool false)), (13, .own 4456448), (14, .t (.int .i64 r8.2.1)), (15, .t (.bool r8.2.2))], [(6, [.t (.int .i64 0), .t (.int .i64 0), .t (.int .i64 0), .t (.int .i64 0), .t (.int .i64 0), .nil, .t (.int .i64 0), .t (.int .i64 0), .t (.int .i64 0), .nil]), (8, [.t (.int .i64 p1), .t (.int .i64 0), .t (.int .i64 0), .t (.int .i64 0), .t (.int .i64 0), .nil, .t (.int .i64 0), .t (.int .i64 0), .t (.int .i64 0), .nil])], [(4456448, .live 3 1 (r8.1.map (eInt .i64)))]⟩ ?_
      refine Wp.seq ?_
      refine Wp.srg [] [] ?_
      refine Runs.alln ?_
      refine Wp.fg ⟨[(0, .t (.sl 1 (p0.map (eInt .u8)))), (6, .obj 6 0), (7, .t (.bool false)), (8, .obj 8 0), (9, .t (.bool false)), (13, .own 4456448), (14, .t (.int .i64 r8.2.1)), (73, .t (.bool (!r8.2.2)))], [(6, [.t (.int .i64 0), .t (.int .i64 0), .t (.int .i64 0), .t (.int .i64 0), .t (.int .i64 0), .nil, .t (.int .i64 0), .t (.int .i64 0), .t (.int .i64 0), .nil]), (8, [.t (.int .i64 p1), .t (.int .i64 0), .t (.int .i64 0), .t (.int .i64 0), .t (.int .i64 0), .nil, .t (.int .i64 0), .t (.int .i64 0), .t (.int .i64 0), .nil])], [(4456448, .live 3 1 (r8.1.map (eInt .i64)))]⟩ ?_
      refine Wp.cond2 (b := !r8.2.2) kr (fun hc => ?_) (fun hc => ?_)
      · have h := cond_t h hc
        refine Wp.srg [] [] ?_
        refine Runs.alln ?_
        refine Wp.fg ⟨[(0, .t (.sl 1 (p0.map (eInt .u8)))), (6, .obj 6 0), (7, .t (.bool false)), (8, .obj 8 0), (9, .t (.bool false)), (13, .own 4456448), (14, .t (.int .i64 r8.2.1))], [(6, [.t (.int .i64 0), .t (.int .i64 0), .t (.int .i64 0), .t (.int .i64 0), .t (.int .i64 0), .nil, .t (.int .i64 0), .t (.int .i64 0), .t (.int .i64 0), .nil]), (8, [.t (.int .i64 p1), .t (.int .i64 0), .t (.int .i64 0), .t (.int .i64 0), .t (.int .i64 0), .nil, .t (.int .i64 0), .t (.int .i64 0), .t (.int .i64 0), .nil])], [(4456448, .live 3 1 (r8.1.map (eInt .i64)))]⟩ ?_
        refine Wp.ret ?_
        refine thenR ?_
        refine blkR ?_
        refine thenR ?_
        obtain rfl := Option.some.inj h
        exact RetK [.agg [.t (.int .i64 0), .t (.int .i64 0), .t (.int .i64 0), .t (.int .i64 0), .t (.int .i64 0), .nil, .t (.int .i64 0), .t (.int .i64 0), .t (.int .i64 0), .nil], .t (.bool false)] (.tup [.agg [.t (.int .i64 0), .t (.int .i64 0), .t (.int .i64 0), .t (.int .i64 0), .t (.int .i64 0), .nil, .t (.int .i64 0), .t (.int .i64 0), .t (.int .i64 0), .nil], .one (.t (.bool false))]) [] kr kr (.tup (.cons (.agg (.cons (.refl _) (.cons (.refl _) (.cons (.refl _) (.cons (.refl _) (.cons (.refl _) (.cons (.nilO _ _) (.cons (.refl _) (.cons (.refl _) (.cons (.refl _) (.cons (.nilO _ _) .nil))))))))))) (.cons (.refl _) .nil))) .nil
      have h := cond_f h hc
      refine Wp.skip (thenN ?_)
      refine Wp.seq ?_
      refine Wp.regionA (pOf []) (rhoOf [(8, .obj 8), (13, .own 68), (75, .own 68), (76, .el 68), (77, .frz), (78, .own 68), (79, .el 68), (80, .frz), (81, .obj 8), (82, .obj 8)]) kr kr ?_
      refine Runs.batch 1 kr ?_
      obtain ⟨y9, e_y9, h⟩ := bind_some h
      refine Runs.idxO (e := 3) (e' := 3) (kk := .i64) (sz := 1) (eInt .i64) r8.1 0 4456448 rfl kr kr kr kr kr kr kr e_y9 ?_
      refine Runs.loadE (e' := 3) (sz := 1) (m := 1) (gg := false) (eInt .i64) r8.1 4456448 (Int.toNat 0) 0 (.t (.int .i64 y9)) rfl kr kr kr kr kr kr (idx_some e_y9).2 kr ?_
      refine Runs.batch 1 kr ?_
      obtain ⟨y10, e_y10, h⟩ := bind_some h
      refine Runs.idxO (e := 3) (e' := 3) (kk := .i64) (sz := 1) (eInt .i64) r8.1 1 4456448 rfl kr kr kr kr kr kr kr e_y10 ?_
      refine Runs.loadE (e' := 3) (sz := 1) (m := 1) (gg := false) (eInt .i64) r8.1 4456448 (Int.toNat 1) 0 (.t (.int .i64 y10)) rfl kr kr kr kr kr kr (idx_some e_y10).2 kr ?_
      refine Runs.alln ?_
      refine Wp.fg ⟨[(0, .t (.sl 1 (p0.map (eInt .u8)))), (6, .obj 6 0), (7, .t (.bool false)), (8, .obj 8 0), (9, .t (.bool false)), (14, .t (.int .i64 r8.2.1))], [(6, [.t (.int .i64 0), .t (.int .i64 0), .t (.int .i64 0), .t (.int .i64 0), .t (.int .i64 0), .nil, .t (.int .i64 0), .t (.int .i64 0), .t (.int .i64 0), .nil]), (8, [.t (.int .i64 p1), .t (.int .i64 y9), .t (.int .i64 0), .t (.int .i64 0), .t (.int .i64 0), .nil, .t (.int .i64 0), .t (.int .i64 0), .t (.int .i64 y10), .nil])], []⟩ ?_
      refine Wp.rg [] [] ?_
      refine Runs.batch 2 kr ?_
      obtain ⟨r11, e_r11, h⟩ := bind_some h
      refine Runs.callK false 86 40 [] [.t (.sl 1 (p0.map (eInt .u8))), .t (.int .i64 r8.2.1), .t (.int .i64 6)] _ _ _ rfl rfl kr kr kr kr kr (impl_GetPart_ok u p0 r8.2.1 6 r11 e_r11) kr ?_
      refine Runs.all kr ?_
      refine blkN ?_
      refine thenN ?_
      exact ⟨(r11.2.2, p1, y9, 0, 0, 0, [], 0, 0, y10, r11.1), h, Le.trans (Le.emptyO 8 5 524805 76 2 [.t (.int .i64 p1), .t (.int .i64 y9), .t (.int .i64 0), .t (.int .i64 0), .t (.int .i64 0), .nil, .t (.int .i64 0), .t (.int .i64 0), .t (.int .i64 y10), .own 5636096] kr kr kr) (Le.of (mo := []) (mr := [(524809, 5636096)]) kr kr kr kr)⟩
    have h := cond_f h hc
    refine Wp.srg [] [] ?_
    refine Runs.alln ?_
    refine Wp.fg ⟨[(0, .t (.sl 1 (p0.map (eInt .u8)))), (2, .t (.int .i64 p2)), (6, .obj 6 0), (7, .t (.bool false)), (8, .obj 8 0), (9, .t (.bool false)), (91, .t (.bool (p1 == 4)))], [(6, [.t (.int .i64 0), .t (.int .i64 0), .t (.int .i64 0), .t (.int .i64 0), .t (.int .i64 0), .nil, .t (.int .i64 0), .t (.int .i64 0), .t (.int .i64 0), .nil]), (8, [.t (.int .i64 p1), .t (.int .i64 0), .t (.int .i64 0), .t (.int .i64 0), .t (.int .i64 0), .nil, .t (.int .i64 0), .t (.int .i64 0), .t (.int .i64 0), .nil])], []⟩ ?_
    refine Wp.cond2 (b := p1 == 4) kr (fun hc => ?_) (fun hc => ?_)
    · have h := cond_t h hc
      refine Wp.rg [] [] ?_
      refine Runs.batch 2 kr ?_
      obtain ⟨r12, e_r12, h⟩ := bind_some h
      refine Runs.callK false 96 23 [] [.t (.sl 1 (p0.map (eInt .u8))), .t (.int .i64 p2)] _ _ _ rfl rfl kr kr kr kr kr (impl_GetVar_ok u p0 p2 r12 e_r12) kr ?_
      refine Runs.all kr ?_
      refine blkN ?_
      refine thenN ?_
      exact ⟨(r12.2.2, p1, r12.1, 0, 0, 0, [], 0, 0, 0, []), h, Le.trans (Le.emptyO 8 5 524805 76 2 [.t (.int .i64 p1), .t (.int .i64 r12.1), .t (.int .i64 0), .t (.int .i64 0), .t (.int .i64 0), .nil, .t (.int .i64 0), .t (.int .i64 0), .t (.int .i64 0), .nil] kr kr kr) (Le.trans (Le.emptyO 8 9 524809 5 1 [.t (.int .i64 p1), .t (.int .i64 r12.1), .t (.int .i64 0), .t (.int .i64 0), .t (.int .i64 0), .own 524805, .t (.int .i64 0), .t (.int .i64 0), .t (.int .i64 0), .nil] kr kr kr) (Le.of (mo := []) (mr := []) kr kr kr kr))⟩
    have h := cond_f h hc
    refine Wp.skip ?_
    refine blkN ?_
    refine thenN ?_
    exact ⟨(false, p1, 0, 0, 0, 0, [], 0, 0, 0, []), h, Le.trans (Le.emptyO 8 5 524805 76 2 [.t (.int .i64 p1), .t (.int .i64 0), .t (.int .i64 0), .t (.int .i64 0), .t (.int .i64 0), .nil, .t (.int .i64 0), .t (.int .i64 0), .t (.int .i64 0), .nil] kr kr kr) (Le.trans (Le.emptyO 8 9 524809 5 1 [.t (.int .i64 p1), .t (.int .i64 0), .t (.int .i64 0), .t (.int .i64 0), .t (.int .i64 0), .own 524805, .t (.int .i64 0), .t (.int .i64 0), .t (.int .i64 0), .nil] kr kr kr) (Le.of (mo := []) (mr := []) kr kr kr kr))⟩
theorem impl_Msg__isBare_ok (u : Nat) (p0 : Msg) (p1 : Bool) (p2 : Bool) (p3 : Bool) (r : Bool) (h : impl_Msg__isBare u p0 p1 p2 p3 = some r) : CallOK Tryd.prog 42 [.agg [.t (.int .i64 p0.fKind), .t (.int .i64 p0.fGen), .t (.int .i64 p0.fMan.fGen), .t (.int .i64 p0.fMan.fSize), .t (.int .i64 p0.fMan.fLen), .t (.sl 2 (p0.fMan.fSums.map Sum.enc)), .t (.int .i64 p0.fWant), .t (.int .i64 p0.fDone), .t (.int .i64 p0.fI), .t (.sl 1 (p0.fB.map (eInt .u8)))], .one (.t (.bool p1)), .one (.t (.bool p2)), .one (.t (.bool p3))] (.one (.t (.bool r))) [] := by
  unfold impl_Msg__isBare at h
  refine CallOK.of_bodyK (fn := Tryd.f42) (m := false) [.agg ((Msg.enc p0).map .t), .t (.bool p1), .t (.bool p2), .t (.bool p3)] kr rfl kr kr kr kr kr ?_
  refine Wp.srg [] [] ?_
  refine Runs.alln ?_
  refine Wp.fg ⟨[(1, .t (.bool p1)), (2, .t (.bool p2)), (3, .t (.bool p3)), (4, .obj 4 0), (8, .t (.bool false))], [(4, ((Msg.enc p0).map .t))], []⟩ ?_
  refine Wp.srg [] [] ?_
  refine Runs.batch 2 kr ?_
  rcases tf (p1) with hc | hc
  · have h := cond_t h hc
    refine Runs.known 10 (v := true) kr hc ?_
    refine Runs.batch 7 kr ?_
    rcases tf (p2) with hc | hc
    · have h := cond_t h hc
      refine Runs.known 17 (v := true) kr hc ?_
      refine Runs.batch 13 kr ?_
      rcases tf (p3) with hc | hc
      · have h := cond_t h hc
        refine Runs.known 30 (v := true) kr hc ?_
        refine Runs.alln ?_
        refine Wp.fg ⟨[(8, .t (.bool true))], [], []⟩ ?_
        refine Wp.ret ?_
        obtain rfl := Option.some.inj h
        exact RetK [.t (.bool true)] _ [] kr kr (.refl _) .nil
      have h := cond_f h hc
      refine Runs.known 30 (v := false) kr hc ?_
      refine Runs.batch 4 kr ?_
      rcases tf (p0.fI == 0) with hc | hc
      · have h := cond_t h hc
        refine Runs.known 34 (v := true) kr hc ?_
        refine Runs.batch 2 kr ?_
        refine Runs.lenT (y := .t (.sl 1 (p0.fB.map (eInt .u8)))) (e := 5) (eInt .u8) p0.fB 1 rfl rfl rfl kr kr kr kr kr ?_
        refine Runs.alln ?_
        refine Wp.fg ⟨[(8, .t (.bool (((p0.fB.length : Int)) == 0)))], [], []⟩ ?_
        refine Wp.ret ?_
        obtain rfl := Option.some.inj h
        exact RetK [.t (.bool (((p0.fB.length : Int)) == 0))] _ [] kr kr (.refl _) .nil
      have h := cond_f h hc
      refine Runs.known 34 (v := false) kr hc ?_
      refine Runs.alln ?_
      refine Wp.fg ⟨[(8, .t (.bool false))], [], []⟩ ?_
      refine Wp.ret ?_
      obtain rfl := Option.some.inj h
      exact RetK [.t (.bool false)] _ [] kr kr (.refl _) .nil
    have h := cond_f h hc
    refine Runs.known 17 (v := false) kr hc ?_
    refine Runs.batch 4 kr ?_
    rcases tf (p0.fWant == 0) with hc | hc
    · have h := cond_t h hc
      refine Runs.known 21 (v := true) kr hc ?_
      refine Runs.batch 7 kr ?_
      rcases tf (p0.fDone == 0) with hc | hc
      · have h := cond_t h hc
        refine Runs.known 28 (v := true) kr hc ?_
        refine Runs.batch 2 kr ?_
        rcases tf (p3) with hc | hc
        · have h := cond_t h hc
          refine Runs.known 30 (v := true) kr hc ?_
          refine Runs.alln ?_
          refine Wp.fg ⟨[(8, .t (.bool true))], [], []⟩ ?_
          refine Wp.ret ?_
          obtain rfl := Option.some.inj h
          exact RetK [.t (.bool true)] _ [] kr kr (.refl _) .nil
        have h := cond_f h hc
        refine Runs.known 30 (v := false) kr hc ?_
        refine Runs.batch 4 kr ?_
        rcases tf (p0.fI == 0) with hc | hc
        · have h := cond_t h hc
          refine Runs.known 34 (v := true) kr hc ?_
          refine Runs.batch 2 kr ?_
          refine Runs.lenT (y := .t (.sl 1 (p0.fB.map (eInt .u8)))) (e := 5) (eInt .u8) p0.fB 1 rfl rfl rfl kr kr kr kr kr ?_
          refine Runs.alln ?_
          refine Wp.fg ⟨[(8, .t (.bool (((p0.fB.length : Int)) == 0)))], [], []⟩ ?_
          refine Wp.ret ?_
          obtain rfl := Option.some.inj h
          exact RetK [.t (.bool (((p0.fB.length : Int)) == 0))] _ [] kr kr (.refl _) .nil
        have h := cond_f h hc
        refine Runs.known 34 (v := false) kr hc ?_
        refine Runs.alln ?_
        refine Wp.fg ⟨[(8, .t (.bool false))], [], []⟩ ?_
        refine Wp.ret ?_
        obtain rfl := Option.some.inj h
        exact RetK [.t (.bool false)] _ [] kr kr (.refl _) .nil
      have h := cond_f h hc
      refine Runs.known 28 (v := false) kr hc ?_
      refine Runs.alln ?_
      refine Wp.fg ⟨[(8, .t (.bool false))], [], []⟩ ?_
      refine Wp.ret ?_
      obtain rfl := Option.some.inj h
      exact RetK [.t (.bool false)] _ [] kr kr (.refl _) .nil
    have h := cond_f h hc
    refine Runs.known 21 (v := false) kr hc ?_
    refine Runs.alln ?_
    refine Wp.fg ⟨[(8, .t (.bool false))], [], []⟩ ?_
    refine Wp.ret ?_
    obtain rfl := Option.some.inj h
    exact RetK [.t (.bool false)] _ [] kr kr (.refl _) .nil
  have h := cond_f h hc
  refine Runs.known 10 (v := false) kr hc ?_
  refine Runs.batch 2 kr ?_
  obtain ⟨r1, e_r1, h⟩ := bind_some h
  refine Runs.callK false 13 66 [] [.agg ((Manifest.enc p0.fMan).map .t)] _ _ _ rfl rfl kr kr kr kr kr (impl_isZeroMan_ok u p0.fMan r1 e_r1) kr ?_
  refine Runs.batch 2 kr ?_
  rcases tf (r1) with hc | hc
  · have h := cond_t h hc
    refine Runs.known 15 (v := true) kr hc ?_
    refine Runs.batch 2 kr ?_
    rcases tf (p2) with hc | hc
    · have h := cond_t h hc
      refine Runs.known 17 (v := true) kr hc ?_
      refine Runs.batch 13 kr ?_
      rcases tf (p3) with hc | hc
      · have h := cond_t h hc
        refine Runs.known 30 (v := true) kr hc ?_
        refine Runs.alln ?_
        refine Wp.fg ⟨[(8, .t (.bool true))], [], []⟩ ?_
        refine Wp.ret ?_
        obtain rfl := Option.some.inj h
        exact RetK [.t (.bool true)] _ [] kr kr (.refl _) .nil
      have h := cond_f h hc
      refine Runs.known 30 (v := false) kr hc ?_
      refine Runs.batch 4 kr ?_
      rcases tf (p0.fI == 0) with hc | hc
      · have h := cond_t h hc
        refine Runs.known 34 (v := true) kr hc ?_
        refine Runs.batch 2 kr ?_
        refine Runs.lenT (y := .t (.sl 1 (p0.fB.map (eInt .u8)))) (e := 5) (eInt .u8) p0.fB 1 rfl rfl rfl kr kr kr kr kr ?_
        refine Runs.alln ?_
        refine Wp.fg ⟨[(8, .t (.bool (((p0.fB.length : Int)) == 0)))], [], []⟩ ?_
        refine Wp.ret ?_
        obtain rfl := Option.some.inj h
        exact RetK [.t (.bool (((p0.fB.length : Int)) == 0))] _ [] kr kr (.refl _) .nil
      have h := cond_f h hc
      refine Runs.known 34 (v := false) kr hc ?_
      refine Runs.alln ?_
      refine Wp.fg ⟨[(8, .t (.bool false))], [], []⟩ ?_
      refine Wp.ret ?_
      obtain rfl := Option.some.inj h
      exact RetK [.t (.bool false)] _ [] kr kr (.refl _) .nil
    have h := cond_f h hc
    refine Runs.known 17 (v := false) kr hc ?_
    refine Runs.batch 4 kr ?_
    rcases tf (p0.fWant == 0) with hc | hc
    · have h := cond_t h hc
      refine Runs.known 21 (v := true) kr hc ?_
      refine Runs.batch 7 kr ?_
      rcases tf (p0.fDone == 0) with hc | hc
      · have h := cond_t h hc
        refine Runs.known 28 (v := true) kr hc ?_
        refine Runs.batch 2 kr ?_
        rcases tf (p3) with hc | hc
        · have h := cond_t h hc
          refine Runs.known 30 (v := true) kr hc ?_
          refine Runs.alln ?_
          refine Wp.fg ⟨[(8, .t (.bool true))], [], []⟩ ?_
          refine Wp.ret ?_
          obtain rfl := Option.some.inj h
          exact RetK [.t (.bool true)] _ [] kr kr (.refl _) .nil
        have h := cond_f h hc
        refine Runs.known 30 (v := false) kr hc ?_
        refine Runs.batch 4 kr ?_
        rcases tf (p0.fI == 0) with hc | hc
        · have h := cond_t h hc
          refine Runs.known 34 (v := true) kr hc ?_
          refine Runs.batch 2 kr ?_
          refine Runs.lenT (y := .t (.sl 1 (p0.fB.map (eInt .u8)))) (e := 5) (eInt .u8) p0.fB 1 rfl rfl rfl kr kr kr kr kr ?_
          refine Runs.alln ?_
          refine Wp.fg ⟨[(8, .t (.bool (((p0.fB.length : Int)) == 0)))], [], []⟩ ?_
          refine Wp.ret ?_
          obtain rfl := Option.some.inj h
          exact RetK [.t (.bool (((p0.fB.length : Int)) == 0))] _ [] kr kr (.refl _) .nil
        have h := cond_f h hc
        refine Runs.known 34 (v := false) kr hc ?_
        refine Runs.alln ?_
        refine Wp.fg ⟨[(8, .t (.bool false))], [], []⟩ ?_
        refine Wp.ret ?_
        obtain rfl := Option.some.inj h
        exact RetK [.t (.bool false)] _ [] kr kr (.refl _) .nil
      have h := cond_f h hc
      refine Runs.known 28 (v := false) kr hc ?_
      refine Runs.alln ?_
      refine Wp.fg ⟨[(8, .t (.bool false))], [], []⟩ ?_
      refine Wp.ret ?_
      obtain rfl := Option.some.inj h
      exact RetK [.t (.bool false)] _ [] kr kr (.refl _) .nil
    have h := cond_f h hc
    refine Runs.known 21 (v := false) kr hc ?_
    refine Runs.alln ?_
    refine Wp.fg ⟨[(8, .t (.bool false))], [], []⟩ ?_
    refine Wp.ret ?_
    obtain rfl := Option.some.inj h
    exact RetK [.t (.bool false)] _ [] kr kr (.refl _) .nil
  have h := cond_f h hc
  refine Runs.known 15 (v := false) kr hc ?_
  refine Runs.alln ?_
  refine Wp.fg ⟨[(8, .t (.bool false))], [], []⟩ ?_
  refine Wp.ret ?_
  obtain rfl := Option.some.inj h
  exact RetK [.t (.bool false)] _ [] kr kr (.refl _) .nil
theorem impl_isGen_ok (u : Nat) (p0 : Int) (r : Bool) (h : impl_isGen u p0 = some r) : CallOK Tryd.prog 43 [.one (.t (.int .i64 p0))] (.one (.t (.bool r))) [] := by
  unfold impl_isGen at h
  refine CallOK.of_bodyK (fn := Tryd.f43) (m := false) [.t (.int .i64 p0)] kr rfl kr kr kr kr kr ?_
  refine Wp.srg [] [] ?_
  refine Runs.alln ?_
  refine Wp.fg ⟨[(0, .t (.int .i64 p0)), (2, .t (.bool false))], [], []⟩ ?_
  refine Wp.srg [] [] ?_
  refine Runs.batch 1 kr ?_
  obtain ⟨r1, e_r1, h⟩ := bind_some h
  refine Runs.callK false 4 45 [] [.t (.int .i64 p0), .t (.int .i64 0), .t (.int .i64 1000000)] _ _ _ rfl rfl kr kr kr kr kr (impl_within_ok u p0 0 1000000 r1 e_r1) kr ?_
  refine Runs.alln ?_
  refine Wp.fg ⟨[(2, .t (.bool r1))], [], []⟩ ?_
  refine Wp.ret ?_
  obtain rfl := Option.some.inj h
  exact RetK [.t (.bool r1)] _ [] kr kr (.refl _) .nil
theorem impl_SetOk_ok (u : Nat) (p0 : Int) (r : Bool) (h : impl_SetOk u p0 = some r) : CallOK Tryd.prog 44 [.one (.t (.int .i64 p0))] (.one (.t (.bool r))) [] := by
  unfold impl_SetOk at h
  refine CallOK.of_bodyK (fn := Tryd.f44) (m := false) [.t (.int .i64 p0)] kr rfl kr kr kr kr kr ?_
  refine Wp.srg [] [] ?_
  refine Runs.alln ?_
  refine Wp.fg ⟨[(0, .t (.int .i64 p0)), (2, .t (.bool false))], [], []⟩ ?_
  refine Wp.srg [] [] ?_
  refine Runs.batch 1 kr ?_
  obtain ⟨r1, e_r1, h⟩ := bind_some h
  refine Runs.callK false 4 45 [] [.t (.int .i64 p0), .t (.int .i64 0), .t (.int .i64 1099511627775)] _ _ _ rfl rfl kr kr kr kr kr (impl_within_ok u p0 0 1099511627775 r1 e_r1) kr ?_
  refine Runs.alln ?_
  refine Wp.fg ⟨[(2, .t (.bool r1))], [], []⟩ ?_
  refine Wp.ret ?_
  obtain rfl := Option.some.inj h
  exact RetK [.t (.bool r1)] _ [] kr kr (.refl _) .nil
theorem impl_isPlace_ok (u : Nat) (p0 : Int) (r : Bool) (h : impl_isPlace u p0 = some r) : CallOK Tryd.prog 46 [.one (.t (.int .i64 p0))] (.one (.t (.bool r))) [] := by
  unfold impl_isPlace at h
  refine CallOK.of_bodyK (fn := Tryd.f46) (m := false) [.t (.int .i64 p0)] kr rfl kr kr kr kr kr ?_
  refine Wp.srg [] [] ?_
  refine Runs.alln ?_
  refine Wp.fg ⟨[(0, .t (.int .i64 p0)), (2, .t (.bool false))], [], []⟩ ?_
  refine Wp.srg [] [] ?_
  refine Runs.batch 1 kr ?_
  obtain ⟨r1, e_r1, h⟩ := bind_some h
  refine Runs.callK false 4 45 [] [.t (.int .i64 p0), .t (.int .i64 0), .t (.int .i64 39)] _ _ _ rfl rfl kr kr kr kr kr (impl_within_ok u p0 0 39 r1 e_r1) kr ?_
  refine Runs.alln ?_
  refine Wp.fg ⟨[(2, .t (.bool r1))], [], []⟩ ?_
  refine Wp.ret ?_
  obtain rfl := Option.some.inj h
  exact RetK [.t (.bool r1)] _ [] kr kr (.refl _) .nil
theorem impl_MsgOk_ok (u : Nat) (p0 : Msg) (r : Bool) (h : impl_MsgOk u p0 = some r) : CallOK Tryd.prog 25 [.agg [.t (.int .i64 p0.fKind), .t (.int .i64 p0.fGen), .t (.int .i64 p0.fMan.fGen), .t (.int .i64 p0.fMan.fSize), .t (.int .i64 p0.fMan.fLen), .t (.sl 2 (p0.fMan.fSums.map Sum.enc)), .t (.int .i64 p0.fWant), .t (.int .i64 p0.fDone), .t (.int .i64 p0.fI), .t (.sl 1 (p0.fB.map (eInt .u8)))]] (.one (.t (.bool r))) [] := by
  unfold impl_MsgOk at h
  refine CallOK.of_bodyK (fn := Tryd.f25) (m := false) [.agg ((Msg.enc p0).map .t)] kr rfl kr kr kr kr kr ?_
  refine Wp.srg [] [] ?_
  refine Runs.alln ?_
  refine Wp.fg ⟨[(1, .obj 1 0), (2, .t (.bool false))], [(1, ((Msg.enc p0).map .t))], []⟩ ?_
  refine Wp.seq ?_
  refine Wp.srg [] [] ?_
  refine Runs.alln ?_
  refine Wp.fg ⟨[(1, .obj 1 0), (2, .t (.bool false)), (4, .t (.int .i64 p0.fKind))], [(1, ((Msg.enc p0).map .t))], []⟩ ?_
  refine Wp.block ?_
  refine Wp.srg [] [] ?_
  refine Runs.alln ?_
  refine Wp.fg ⟨[(1, .obj 1 0), (2, .t (.bool false)), (4, .t (.int .i64 p0.fKind)), (5, .t (.bool (p0.fKind == 1)))], [(1, ((Msg.enc p0).map .t))], []⟩ ?_
  refine Wp.cond2 (b := p0.fKind == 1) kr (fun hc => ?_) (fun hc => ?_)
  · have h := cond_t h hc
    refine Wp.srg [] [] ?_
    refine Runs.batch 2 kr ?_
    obtain ⟨r1, e_r1, h⟩ := bind_some h
    refine Runs.callK false 9 41 [] [.agg ((Manifest.enc p0.fMan).map .t)] _ _ _ rfl rfl kr kr kr kr kr (impl_ManOk_ok u p0.fMan r1 e_r1) kr ?_
    refine Runs.batch 1 kr ?_
    rcases tf (r1) with hc | hc
    · have h := cond_t h hc
      refine Runs.known 10 (v := true) kr hc ?_
      refine Runs.batch 6 kr ?_
      rcases tf (p0.fMan.fGen != 0) with hc | hc
      · have h := cond_t h hc
        refine Runs.known 16 (v := true) kr hc ?_
        refine Runs.batch 5 kr ?_
        rcases tf (p0.fGen == 0) with hc | hc
        · have h := cond_t h hc
          refine Runs.known 21 (v := true) kr hc ?_
          refine Runs.batch 1 kr ?_
          obtain ⟨r2, e_r2, h⟩ := bind_some h
          refine Runs.callK false 23 42 [] [.agg ((Msg.enc p0).map .t), .t (.bool true), .t (.bool false), .t (.bool false)] _ _ _ rfl rfl kr kr kr kr kr (impl_Msg__isBare_ok u p0 true false false r2 e_r2) kr ?_
          refine Runs.alln ?_
          refine Wp.fg ⟨[(2, .t (.bool r2))], [], []⟩ ?_
          refine Wp.ret ?_
          refine blkR ?_
          refine thenR ?_
          obtain rfl := Option.some.inj h
          exact RetK [.t (.bool r2)] _ [] kr kr (.refl _) .nil
        have h := cond_f h hc
        refine Runs.known 21 (v := false) kr hc ?_
        refine Runs.alln ?_
        refine Wp.fg ⟨[(2, .t (.bool false))], [], []⟩ ?_
        refine Wp.ret ?_
        refine blkR ?_
        refine thenR ?_
        obtain rfl := Option.some.inj h
        exact RetK [.t (.bool false)] _ [] kr kr (.refl _) .nil
      have h := cond_f h hc
      refine Runs.known 16 (v := false) kr hc ?_
      refine Runs.alln ?_
      refine Wp.fg ⟨[(2, .t (.bool false))], [], []⟩ ?_
      refine Wp.ret ?_
      refine blkR ?_
      refine thenR ?_
      obtain rfl := Option.some.inj h
      exact RetK [.t (.bool false)] _ [] kr kr (.refl _) .nil
    have h := cond_f h hc
    refine Runs.known 10 (v := false) kr hc ?_
    refine Runs.alln ?_
    refine Wp.fg ⟨[(2, .t (.bool false))], [], []⟩ ?_
    refine Wp.ret ?_
    refine blkR ?_
    refine thenR ?_
    obtain rfl := Option.some.inj h
    exact RetK [.t (.bool false)] _ [] kr kr (.refl _) .nil
  have h := cond_f h hc
  refine Wp.srg [] [] ?_
  refine Runs.alln ?_
  refine Wp.fg ⟨[(1, .obj 1 0), (2, .t (.bool false)), (4, .t (.int .i64 p0.fKind)), (25, .t (.bool (p0.fKind == 2)))], [(1, ((Msg.enc p0).map .t))], []⟩ ?_
  refine Wp.cond2 (b := p0.fKind == 2) kr (fun hc => ?_) (fun hc => ?_)
  · have h := cond_t h hc
    refine Wp.srg [] [] ?_
    refine Runs.batch 2 kr ?_
    obtain ⟨r3, e_r3, h⟩ := bind_some h
    refine Runs.callK false 29 43 [] [.t (.int .i64 p0.fGen)] _ _ _ rfl rfl kr kr kr kr kr (impl_isGen_ok u p0.fGen r3 e_r3) kr ?_
    refine Runs.batch 1 kr ?_
    rcases tf (r3) with hc | hc
    · have h := cond_t h hc
      refine Runs.known 30 (v := true) kr hc ?_
      refine Runs.batch 2 kr ?_
      obtain ⟨r4, e_r4, h⟩ := bind_some h
      refine Runs.callK false 33 44 [] [.t (.int .i64 p0.fWant)] _ _ _ rfl rfl kr kr kr kr kr (impl_SetOk_ok u p0.fWant r4 e_r4) kr ?_
      refine Runs.batch 2 kr ?_
      rcases tf (r4) with hc | hc
      · have h := cond_t h hc
        refine Runs.known 35 (v := true) kr hc ?_
        refine Runs.batch 2 kr ?_
        obtain ⟨r5, e_r5, h⟩ := bind_some h
        refine Runs.callK false 38 44 [] [.t (.int .i64 p0.fDone)] _ _ _ rfl rfl kr kr kr kr kr (impl_SetOk_ok u p0.fDone r5 e_r5) kr ?_
        refine Runs.batch 2 kr ?_
        rcases tf (r5) with hc | hc
        · have h := cond_t h hc
          refine Runs.known 40 (v := true) kr hc ?_
          refine Runs.batch 1 kr ?_
          obtain ⟨r6, e_r6, h⟩ := bind_some h
          refine Runs.callK false 42 42 [] [.agg ((Msg.enc p0).map .t), .t (.bool false), .t (.bool true), .t (.bool false)] _ _ _ rfl rfl kr kr kr kr kr (impl_Msg__isBare_ok u p0 false true false r6 e_r6) kr ?_
          refine Runs.alln ?_
          refine Wp.fg ⟨[(2, .t (.bool r6))], [], []⟩ ?_
          refine Wp.ret ?_
          refine blkR ?_
          refine thenR ?_
          obtain rfl := Option.some.inj h
          exact RetK [.t (.bool r6)] _ [] kr kr (.refl _) .nil
        have h := cond_f h hc
        refine Runs.known 40 (v := false) kr hc ?_
        refine Runs.alln ?_
        refine Wp.fg ⟨[(2, .t (.bool false))], [], []⟩ ?_
        refine Wp.ret ?_
        refine blkR ?_
        refine thenR ?_
        obtain rfl := Option.some.inj h
        exact RetK [.t (.bool false)] _ [] kr kr (.refl _) .nil
      have h := cond_f h hc
      refine Runs.known 35 (v := false) kr hc ?_
      refine Runs.alln ?_
      refine Wp.fg ⟨[(2, .t (.bool false))], [], []⟩ ?_
      refine Wp.ret ?_
      refine blkR ?_
      refine thenR ?_
      obtain rfl := Option.some.inj h
      exact RetK [.t (.bool false)] _ [] kr kr (.refl _) .nil
    have h := cond_f h hc
    refine Runs.known 30 (v := false) kr hc ?_
    refine Runs.alln ?_
    refine Wp.fg ⟨[(2, .t (.bool false))], [], []⟩ ?_
    refine Wp.ret ?_
    refine blkR ?_
    refine thenR ?_
    obtain rfl := Option.some.inj h
    exact RetK [.t (.bool false)] _ [] kr kr (.refl _) .nil
  have h := cond_f h hc
  refine Wp.srg [] [] ?_
  refine Runs.alln ?_
  refine Wp.fg ⟨[(1, .obj 1 0), (2, .t (.bool false)), (4, .t (.int .i64 p0.fKind)), (44, .t (.bool (p0.fKind == 3)))], [(1, ((Msg.enc p0).map .t))], []⟩ ?_
  refine Wp.cond2 (b := p0.fKind == 3) kr (fun hc => ?_) (fun hc => ?_)
  · have h := cond_t h hc
    refine Wp.srg [] [] ?_
    refine Runs.batch 2 kr ?_
    obtain ⟨r7, e_r7, h⟩ := bind_some h
    refine Runs.callK false 48 45 [] [.t (.int .i64 p0.fGen), .t (.int .i64 1), .t (.int .i64 1000000)] _ _ _ rfl rfl kr kr kr kr kr (impl_within_ok u p0.fGen 1 1000000 r7 e_r7) kr ?_
    refine Runs.batch 1 kr ?_
    rcases tf (r7) with hc | hc
    · have h := cond_t h hc
      refine Runs.known 49 (v := true) kr hc ?_
      refine Runs.batch 2 kr ?_
      obtain ⟨r8, e_r8, h⟩ := bind_some h
      refine Runs.callK false 52 46 [] [.t (.int .i64 p0.fI)] _ _ _ rfl rfl kr kr kr kr kr (impl_isPlace_ok u p0.fI r8 e_r8) kr ?_
      refine Runs.batch 2 kr ?_
      rcases tf (r8) with hc | hc
      · have h := cond_t h hc
        refine Runs.known 54 (v := true) kr hc ?_
        refine Runs.batch 2 kr ?_
        refine Runs.lenT (y := .t (.sl 1 (p0.fB.map (eInt .u8)))) (e := 5) (eInt .u8) p0.fB 1 rfl rfl rfl kr kr kr kr kr ?_
        obtain ⟨r9, e_r9, h⟩ := bind_some h
        refine Runs.callK false 58 45 [] [.t (.int .i64 ((p0.fB.length : Int))), .t (.int .i64 1), .t (.int .i64 6)] _ _ _ rfl rfl kr kr kr kr kr (impl_within_ok u ((p0.fB.length : Int)) 1 6 r9 e_r9) kr ?_
        refine Runs.batch 2 kr ?_
        rcases tf (r9) with hc | hc
        · have h := cond_t h hc
          refine Runs.known 60 (v := true) kr hc ?_
          refine Runs.batch 1 kr ?_
          obtain ⟨r10, e_r10, h⟩ := bind_some h
          refine Runs.callK false 62 42 [] [.agg ((Msg.enc p0).map .t), .t (.bool false), .t (.bool false), .t (.bool true)] _ _ _ rfl rfl kr kr kr kr kr (impl_Msg__isBare_ok u p0 false false true r10 e_r10) kr ?_
          refine Runs.alln ?_
          refine Wp.fg ⟨[(2, .t (.bool r10))], [], []⟩ ?_
          refine Wp.ret ?_
          refine blkR ?_
          refine thenR ?_
          obtain rfl := Option.some.inj h
          exact RetK [.t (.bool r10)] _ [] kr kr (.refl _) .nil
        have h := cond_f h hc
        refine Runs.known 60 (v := false) kr hc ?_
        refine Runs.alln ?_
        refine Wp.fg ⟨[(2, .t (.bool false))], [], []⟩ ?_
        refine Wp.ret ?_
        refine blkR ?_
        refine thenR ?_
        obtain rfl := Option.some.inj h
        exact RetK [.t (.bool false)] _ [] kr kr (.refl _) .nil
      have h := cond_f h hc
      refine Runs.known 54 (v := false) kr hc ?_
      refine Runs.alln ?_
      refine Wp.fg ⟨[(2, .t (.bool false))], [], []⟩ ?_
      refine Wp.ret ?_
      refine blkR ?_
      refine thenR ?_
      obtain rfl := Option.some.inj h
      exact RetK [.t (.bool false)] _ [] kr kr (.refl _) .nil
    have h := cond_f h hc
    refine Runs.known 49 (v := false) kr hc ?_
    refine Runs.alln ?_
    refine Wp.fg ⟨[(2, .t (.bool false))], [], []⟩ ?_
    refine Wp.ret ?_
    refine blkR ?_
    refine thenR ?_
    obtain rfl := Option.some.inj h
    exact RetK [.t (.bool false)] _ [] kr kr (.refl _) .nil
  have h := cond_f h hc
  refine Wp.srg [] [] ?_
  refine Runs.alln ?_
  refine Wp.fg ⟨[(1, .obj 1 0), (2, .t (.bool false)), (64, .t (.bool (p0.fKind == 4)))], [(1, ((Msg.enc p0).map .t))], []⟩ ?_
  refine Wp.cond2 (b := p0.fKind == 4) kr (fun hc => ?_) (fun hc => ?_)
  · have h := cond_t h hc
    refine Wp.srg [] [] ?_
    refine Runs.batch 2 kr ?_
    obtain ⟨r11, e_r11, h⟩ := bind_some h
    refine Runs.callK false 68 43 [] [.t (.int .i64 p0.fGen)] _ _ _ rfl rfl kr kr kr kr kr (impl_isGen_ok u p0.fGen r11 e_r11) kr ?_
    refine Runs.batch 1 kr ?_
    rcases tf (r11) with hc | hc
    · have h := cond_t h hc
      refine Runs.known 69 (v := true) kr hc ?_
      refine Runs.batch 1 kr ?_
      obtain ⟨r12, e_r12, h⟩ := bind_some h
      refine Runs.callK false 71 42 [] [.agg ((Msg.enc p0).map .t), .t (.bool false), .t (.bool false), .t (.bool false)] _ _ _ rfl rfl kr kr kr kr kr (impl_Msg__isBare_ok u p0 false false false r12 e_r12) kr ?_
      refine Runs.alln ?_
      refine Wp.fg ⟨[(2, .t (.bool r12))], [], []⟩ ?_
      refine Wp.ret ?_
      refine blkR ?_
      refine thenR ?_
      obtain rfl := Option.some.inj h
      exact RetK [.t (.bool r12)] _ [] kr kr (.refl _) .nil
    have h := cond_f h hc
    refine Runs.known 69 (v := false) kr hc ?_
    refine Runs.alln ?_
    refine Wp.fg ⟨[(2, .t (.bool false))], [], []⟩ ?_
    refine Wp.ret ?_
    refine blkR ?_
    refine thenR ?_
    obtain rfl := Option.some.inj h
    exact RetK [.t (.bool false)] _ [] kr kr (.refl _) .nil
  have h := cond_f h hc
  refine Wp.skip ?_
  refine blkN ?_
  refine thenN ?_
  refine Wp.srg [] [] ?_
  refine Runs.alln ?_
  refine Wp.fg ⟨[(2, .t (.bool false))], [], []⟩ ?_
  refine Wp.ret ?_
  obtain rfl := Option.some.inj h
  exact RetK [.t (.bool false)] _ [] kr kr (.refl _) .nil
theorem impl_appendVar_ok (u : Nat) (p0 : List Int) (p1 : Int) (r : (List Int)) (h : impl_appendVar u p0 p1 = some r) : CallOK Tryd.prog 70 [.one (.ow 5 1 (p0.map (eInt .u8))), .one (.t (.int .i64 p1))] (.one (.ow 5 1 (r.map (eInt .u8)))) [] := by
  unfold impl_appendVar at h
  refine CallOK.of_bodyK (fn := Tryd.f70) (m := true) [.own 58982400, .t (.int .i64 p1)] kr rfl kr kr kr kr kr ?_
  refine Wp.srg [] [] ?_
  refine Runs.alln ?_
  refine Wp.fg ⟨[(0, .own 58982400), (1, .t (.int .i64 p1)), (4, .nil)], [], [(58982400, .live 5 1 (p0.map (eInt .u8)))]⟩ ?_
  refine Wp.seqJ (α := (List Int) × Int) (fun a => ⟨[(0, .own 1), (1, .t (.int .i64 a.2)), (4, .nil)], [], [(1, .live 5 1 (a.1.map (eInt .u8)))]⟩) (fun a => impl_appendVar_j1 u a.1 a.2 = some r) ?_ ?_
  · rintro ⟨x7, x8⟩ h
    change impl_appendVar_j1 u x7 x8 = some r at h
    unfold impl_appendVar_j1 at h
    refine Wp.srg [] [] ?_
    refine Runs.batch 4 kr ?_
    obtain ⟨_, e_9, h⟩ := bind_some h
    refine Runs.appT (y := .own 1179648) (eInt .u8) 19 1 5 1 1 1 x7 ([IntKind.wrap .u8 x8]) rfl rfl rfl rfl kr kr kr kr kr kr (.inl rfl) kr (of_decide_eq_true (chk_some e_9)) kr kr ?_
    refine Runs.alln ?_
    refine Wp.fg ⟨[(4, .own 1245184)], [], [(1245184, .live 5 1 ((x7 ++ ([IntKind.wrap .u8 x8])).map (eInt .u8)))]⟩ ?_
    refine Wp.ret ?_
    obtain rfl := Option.some.inj h
    exact RetK [.own 1245184] _ [] kr kr (.refl _) .nil
  · refine Wp.block ?_
    refine Wp.loopF (α := (List Int) × Int) (fun a => ⟨[(0, .own 1), (1, .t (.int .i64 a.2)), (4, .nil)], [], [(1, .live 5 1 (a.1.map (eInt .u8)))]⟩) (fun k_impl_appendVar_l2 a => impl_appendVar_l2 u k_impl_appendVar_l2 a.1 a.2 = some r) ?_ ?_ u (p0, p1) h (Le.of (mo := []) (mr := [(1, 58982400)]) kr kr kr kr)
    · intro a h; unfold impl_appendVar_l2 at h; cases h
    · rintro k_impl_appendVar_l2 ⟨x3, x4⟩ h
      change impl_appendVar_l2 u (k_impl_appendVar_l2 + 1) x3 x4 = some r at h
      rw [impl_appendVar_l2] at h
      refine Wp.seq ?_
      refine Wp.srg [] [] ?_
      refine Runs.alln ?_
      refine Wp.fg ⟨[(0, .own 1), (1, .t (.int .i64 x4)), (4, .nil), (6, .t (.bool (decide (x4 ≥ 128))))], [], [(1, .live 5 1 (x3.map (eInt .u8)))]⟩ ?_
      refine Wp.cond2 (b := decide (x4 ≥ 128)) kr (fun hc => ?_) (fun hc => ?_)
      · have h := cond_t h hc
        refine Wp.skip (thenN ?_)
        refine Wp.block ?_
        refine Wp.srg [] [] ?_
        refine Runs.batch 5 kr ?_
        obtain ⟨_, e_7, h⟩ := bind_some h
        refine Runs.appT (y := .own 720896) (eInt .u8) 12 1 5 1 1 1 x3 ([bOr .u8 (IntKind.wrap .u8 x4) 128]) rfl rfl rfl rfl kr kr kr kr kr kr (.inl rfl) kr (of_decide_eq_true (chk_some e_7)) kr kr ?_
        refine Runs.alln ?_
        refine Wp.fg ⟨[(0, .own 786432), (1, .t (.int .i64 x4)), (4, .nil)], [], [(786432, .live 5 1 ((x3 ++ ([bOr .u8 (IntKind.wrap .u8 x4) 128])).map (eInt .u8)))]⟩ ?_
        refine Wp.rg [] [] ?_
        refine Runs.all kr ?_
        refine blkN ?_
        refine thenN ?_
        exact ⟨(x3 ++ ([bOr .u8 (IntKind.wrap .u8 x4) 128]), bShr .i64 x4 7), h, Le.of (mo := []) (mr := [(1, 786432)]) kr kr kr kr⟩
      have h := cond_f h hc
      refine Wp.exit ?_
      refine thenE ?_
      refine thenE ?_
      refine blkE ?_
      refine thenN ?_
      exact ⟨(x3, x4), h, Le.of (mo := []) (mr := []) kr kr kr kr⟩
theorem impl_PutVar_ok (u : Nat) (p0 : List Int) (p1 : Int) (r : (List Int)) (h : impl_PutVar u p0 p1 = some r) : CallOK Tryd.prog 48 [.one (.t (.sl 1 (p0.map (eInt .u8)))), .one (.t (.int .i64 p1))] (.one (.ow 5 1 (r.map (eInt .u8)))) [] := by
  unfold impl_PutVar at h
  refine CallOK.of_bodyK (fn := Tryd.f48) (m := true) [.t (.sl 1 (p0.map (eInt .u8))), .t (.int .i64 p1)] kr rfl kr kr kr kr kr ?_
  refine Wp.srg [] [] ?_
  refine Runs.alln ?_
  refine Wp.fg ⟨[(0, .t (.sl 1 (p0.map (eInt .u8)))), (1, .t (.int .i64 p1)), (4, .nil)], [], []⟩ ?_
  refine Wp.srg [] [] ?_
  refine Runs.batch 1 kr ?_
  obtain ⟨r1, e_r1, h⟩ := bind_some h
  refine Runs.callK false 7 69 [] [.t (.sl 1 (p0.map (eInt .u8)))] _ _ _ rfl rfl kr kr kr kr kr (impl_cloned_ok u p0 r1 e_r1) kr ?_
  refine Runs.alln ?_
  refine Wp.fg ⟨[(1, .t (.int .i64 p1)), (4, .nil), (5, .own 458752)], [], [(458752, .live 5 1 (r1.map (eInt .u8)))]⟩ ?_
  refine Wp.seq ?_
  refine Wp.srg [] [] ?_
  refine Runs.batch 1 kr ?_
  obtain ⟨r2, e_r2, h⟩ := bind_some h
  refine Runs.callK false 9 45 [] [.t (.int .i64 p1), .t (.int .i64 0), .t (.int .i64 1000000000000)] _ _ _ rfl rfl kr kr kr kr kr (impl_within_ok u p1 0 1000000000000 r2 e_r2) kr ?_
  refine Runs.alln ?_
  refine Wp.fg ⟨[(1, .t (.int .i64 p1)), (4, .nil), (5, .own 458752), (10, .t (.bool (!r2)))], [], [(458752, .live 5 1 (r1.map (eInt .u8)))]⟩ ?_
  refine Wp.cond2 (b := !r2) kr (fun hc => ?_) (fun hc => ?_)
  · have h := cond_t h hc
    refine Wp.srg [] [] ?_
    refine Runs.alln ?_
    refine Wp.fg ⟨[(1, .t (.int .i64 p1)), (4, .own 458752), (5, .own 458752)], [], [(458752, .live 5 1 (r1.map (eInt .u8)))]⟩ ?_
    refine Wp.ret ?_
    refine thenR ?_
    obtain rfl := Option.some.inj h
    exact RetK [.own 458752] _ [] kr kr (.refl _) .nil
  have h := cond_f h hc
  refine Wp.skip (thenN ?_)
  refine Wp.srg [] [] ?_
  refine Runs.batch 2 kr ?_
  obtain ⟨r3, e_r3, h⟩ := bind_some h
  refine Runs.callK true 14 70 [] [.own 458752, .t (.int .i64 p1)] _ _ _ rfl rfl kr kr kr kr kr (impl_appendVar_ok u r1 p1 r3 e_r3) kr ?_
  refine Runs.alln ?_
  refine Wp.fg ⟨[(4, .own 917504)], [], [(917504, .live 5 1 (r3.map (eInt .u8)))]⟩ ?_
  refine Wp.ret ?_
  obtain rfl := Option.some.inj h
  exact RetK [.own 917504] _ [] kr kr (.refl _) .nil
theorem impl_PutMan_ok (u : Nat) (p0 : List Int) (p1 : Manifest) (r : (List Int)) (h : impl_PutMan u p0 p1 = some r) : CallOK Tryd.prog 49 [.one (.t (.sl 1 (p0.map (eInt .u8)))), .agg [.t (.int .i64 p1.fGen), .t (.int .i64 p1.fSize), .t (.int .i64 p1.fLen), .t (.sl 2 (p1.fSums.map Sum.enc))]] (.one (.ow 5 1 (r.map (eInt .u8)))) [] := by
  unfold impl_PutMan at h
  refine CallOK.of_bodyK (fn := Tryd.f49) (m := true) [.t (.sl 1 (p0.map (eInt .u8))), .agg ((Manifest.enc p1).map .t)] kr rfl kr kr kr kr kr ?_
  refine Wp.srg [] [] ?_
  refine Runs.alln ?_
  refine Wp.fg ⟨[(0, .t (.sl 1 (p0.map (eInt .u8)))), (3, .obj 3 0), (4, .nil)], [(3, ((Manifest.enc p1).map .t))], []⟩ ?_
  refine Wp.seq ?_
  refine Wp.srg [] [] ?_
  refine Runs.batch 1 kr ?_
  obtain ⟨r1, e_r1, h⟩ := bind_some h
  refine Runs.callK false 9 41 [] [.agg ((Manifest.enc p1).map .t)] _ _ _ rfl rfl kr kr kr kr kr (impl_ManOk_ok u p1 r1 e_r1) kr ?_
  refine Runs.alln ?_
  refine Wp.fg ⟨[(0, .t (.sl 1 (p0.map (eInt .u8)))), (3, .obj 3 0), (4, .nil), (10, .t (.bool (!r1)))], [(3, ((Manifest.enc p1).map .t))], []⟩ ?_
  refine Wp.cond2 (b := !r1) kr (fun hc => ?_) (fun hc => ?_)
  · have h := cond_t h hc
    refine Wp.srg [] [] ?_
    refine Runs.batch 1 kr ?_
    obtain ⟨r2, e_r2, h⟩ := bind_some h
    refine Runs.callK false 12 69 [] [.t (.sl 1 (p0.map (eInt .u8)))] _ _ _ rfl rfl kr kr kr kr kr (impl_cloned_ok u p0 r2 e_r2) kr ?_
    refine Runs.alln ?_
    refine Wp.fg ⟨[(0, .t (.sl 1 (p0.map (eInt .u8)))), (3, .obj 3 0), (4, .own 786432)], [(3, ((Manifest.enc p1).map .t))], [(786432, .live 5 1 (r2.map (eInt .u8)))]⟩ ?_
    refine Wp.ret ?_
    refine thenR ?_
    obtain rfl := Option.some.inj h
    exact RetK [.own 786432] _ [] kr kr (.refl _) .nil
  have h := cond_f h hc
  refine Wp.skip (thenN ?_)
  refine Wp.seq ?_
  refine Wp.regionA (pOf []) (rhoOf [(0, .frz), (3, .obj 3), (13, .frz), (14, .obj 3), (15, .frz), (16, .own 16), (17, .obj 3), (18, .frz), (19, .own 19), (20, .obj 3), (21, .frz), (22, .own 22)]) kr kr ?_
  refine Runs.batch 3 kr ?_
  obtain ⟨r3, e_r3, h⟩ := bind_some h
  refine Runs.callK false 16 48 [] [.t (.sl 1 (p0.map (eInt .u8))), .t (.int .i64 p1.fGen)] _ _ _ rfl rfl kr kr kr kr kr (impl_PutVar_ok u p0 p1.fGen r3 e_r3) kr ?_
  refine Runs.batch 2 kr ?_
  obtain ⟨r4, e_r4, h⟩ := bind_some h
  refine Runs.callK false 19 48 [] [.own 1048576, .t (.int .i64 p1.fSize)] _ _ _ rfl rfl kr kr kr kr kr (impl_PutVar_ok u r3 p1.fSize r4 e_r4) kr ?_
  refine Runs.batch 2 kr ?_
  obtain ⟨r5, e_r5, h⟩ := bind_some h
  refine Runs.callK false 22 48 [] [.own 1245184, .t (.int .i64 p1.fLen)] _ _ _ rfl rfl kr kr kr kr kr (impl_PutVar_ok u r4 p1.fLen r5 e_r5) kr ?_
  refine Runs.alln ?_
  refine Wp.fg ⟨[(3, .obj 3 0), (4, .nil), (5, .own 1441792)], [(3, ((Manifest.enc p1).map .t))], [(1441792, .live 5 1 (r5.map (eInt .u8)))]⟩ ?_
  refine Wp.seqJ (α := (List Int)) (fun a => ⟨[(4, .nil), (5, .own 327681)], [], [(327681, .live 5 1 (a.map (eInt .u8)))]⟩) (fun a => impl_PutMan_j1 u a = some r) ?_ ?_
  · rintro x14 h
    change impl_PutMan_j1 u x14 = some r at h
    unfold impl_PutMan_j1 at h
    refine Wp.srg [] [] ?_
    refine Runs.alln ?_
    refine Wp.fg ⟨[(4, .own 327681)], [], [(327681, .live 5 1 (x14.map (eInt .u8)))]⟩ ?_
    refine Wp.ret ?_
    obtain rfl := Option.some.inj h
    exact RetK [.own 327681] _ [] kr kr (.refl _) .nil
  · refine Wp.srg [] [] ?_
    refine Runs.batch 2 kr ?_
    refine Runs.lenT (y := .t (.sl 2 (p1.fSums.map Sum.enc))) (e := 76) Sum.enc p1.fSums 2 rfl rfl rfl kr kr kr kr kr ?_
    refine Runs.alln ?_
    refine Wp.fg ⟨[(4, .nil), (5, .own 1441792), (24, .t (.sl 2 (p1.fSums.map Sum.enc))), (25, .t (.int .i64 ((p1.fSums.length : Int)))), (26, .t (.int .i64 0))], [], [(1441792, .live 5 1 (r5.map (eInt .u8)))]⟩ ?_
    refine Wp.block ?_
    refine Wp.loopF (α := (List Int) × Manifest × Int) (fun a => ⟨[(4, .nil), (5, .own 327681), (24, .t (.sl 2 (a.2.1.fSums.map Sum.enc))), (25, .t (.int .i64 ((a.2.1.fSums.length : Int)))), (26, .t (.int .i64 a.2.2))], [], [(327681, .live 5 1 (a.1.map (eInt .u8)))]⟩) (fun k_impl_PutMan_l2 a => impl_PutMan_l2 u k_impl_PutMan_l2 a.1 a.2.1 a.2.2 = some r) ?_ ?_ u (r5, p1, 0) h (Le.of (mo := []) (mr := [(327681, 1441792)]) kr kr kr kr)
    · intro a h; unfold impl_PutMan_l2 at h; cases h
    · rintro k_impl_PutMan_l2 ⟨x8, p1, x9⟩ h
      change impl_PutMan_l2 u (k_impl_PutMan_l2 + 1) x8 p1 x9 = some r at h
      rw [impl_PutMan_l2] at h
      refine Wp.srg [] [] ?_
      refine Runs.alln ?_
      refine Wp.fg ⟨[(4, .nil), (5, .own 327681), (24, .t (.sl 2 (p1.fSums.map Sum.enc))), (25, .t (.int .i64 ((p1.fSums.length : Int)))), (26, .t (.int .i64 x9)), (27, .t (.bool (decide (x9 < ((p1.fSums.length : Int))))))], [], [(327681, .live 5 1 (x8.map (eInt .u8)))]⟩ ?_
      refine Wp.seq ?_
      refine Wp.cond2 (b := decide (x9 < ((p1.fSums.length : Int)))) kr (fun hc => ?_) (fun hc => ?_)
      · have h := cond_t h hc
        refine Wp.skip (thenN ?_)
        refine Wp.seq ?_
        refine Wp.block ?_
        refine Wp.srg [] [] ?_
        obtain ⟨y12, e_y12, h⟩ := bind_some h
        refine Runs.idxT (e := 76) (kk := .i64) (sz := 2) Sum.enc p1.fSums x9 rfl kr kr kr kr kr kr e_y12 ?_
        refine Runs.alln ?_
        refine Wp.fg ⟨[(4, .nil), (5, .own 327681), (7, .obj 7 0), (24, .t (.sl 2 (p1.fSums.map Sum.enc))), (25, .t (.int .i64 ((p1.fSums.length : Int)))), (26, .t (.int .i64 x9))], [(7, [.t (.int .i64 y12.fW), .t (.int .i64 y12.fS)])], [(327681, .live 5 1 (x8.map (eInt .u8)))]⟩ ?_
        refine Wp.rg [] [] ?_
        refine Runs.batch 3 kr ?_
        obtain ⟨r13, e_r13, h⟩ := bind_some h
        refine Runs.callK true 33 70 [] [.own 327681, .t (.int .i64 y12.fS)] _ _ _ rfl rfl kr kr kr kr kr (impl_appendVar_ok u x8 y12.fS r13 e_r13) kr ?_
        refine Runs.all kr ?_
        refine blkN ?_
        refine thenN ?_
        refine Wp.rg [] [] ?_
        refine Runs.alln ?_
        exact ⟨(r13, p1, bAdd .i64 x9 1), h, Le.of (mo := []) (mr := [(327681, 2162688)]) kr kr kr kr⟩
      have h := cond_f h hc
      refine Wp.exit ?_
      refine thenE ?_
      refine thenE ?_
      refine blkE ?_
      refine thenN ?_
      exact ⟨x8, h, Le.of (mo := []) (mr := []) kr kr kr kr⟩
theorem impl_putSet_ok (u : Nat) (p0 : List Int) (p1 : Int) (r : (List Int)) (h : impl_putSet u p0 p1 = some r) : CallOK Tryd.prog 50 [.one (.t (.sl 1 (p0.map (eInt .u8)))), .one (.t (.int .i64 p1))] (.one (.ow 5 1 (r.map (eInt .u8)))) [] := by
  unfold impl_putSet at h
  refine CallOK.of_bodyK (fn := Tryd.f50) (m := true) [.t (.sl 1 (p0.map (eInt .u8))), .t (.int .i64 p1)] kr rfl kr kr kr kr kr ?_
  refine Wp.srg [] [] ?_
  refine Runs.alln ?_
  refine Wp.fg ⟨[(0, .t (.sl 1 (p0.map (eInt .u8)))), (1, .t (.int .i64 p1)), (4, .nil)], [], []⟩ ?_
  refine Wp.srg [] [] ?_
  refine Runs.batch 3 kr ?_
  obtain ⟨r1, e_r1, h⟩ := bind_some h
  refine Runs.callK false 8 48 [] [.t (.sl 1 (p0.map (eInt .u8))), .t (.int .i64 (bAnd .i64 p1 1048575))] _ _ _ rfl rfl kr kr kr kr kr (impl_PutVar_ok u p0 (bAnd .i64 p1 1048575) r1 e_r1) kr ?_
  refine Runs.batch 2 kr ?_
  obtain ⟨r2, e_r2, h⟩ := bind_some h
  refine Runs.callK false 11 48 [] [.own 524288, .t (.int .i64 (bShr .i64 p1 20))] _ _ _ rfl rfl kr kr kr kr kr (impl_PutVar_ok u r1 (bShr .i64 p1 20) r2 e_r2) kr ?_
  refine Runs.alln ?_
  refine Wp.fg ⟨[(4, .own 720896)], [], [(720896, .live 5 1 (r2.map (eInt .u8)))]⟩ ?_
  refine Wp.ret ?_
  obtain rfl := Option.some.inj h
  exact RetK [.own 720896] _ [] kr kr (.refl _) .nil
theorem impl_PutPart_ok (u : Nat) (p0 : List Int) (p1 : List Int) (r : (List Int)) (h : impl_PutPart u p0 p1 = some r) : CallOK Tryd.prog 51 [.one (.t (.sl 1 (p0.map (eInt .u8)))), .one (.t (.sl 1 (p1.map (eInt .u8))))] (.one (.ow 5 1 (r.map (eInt .u8)))) [] := by
  unfold impl_PutPart at h
  refine CallOK.of_bodyK (fn := Tryd.f51) (m := true) [.t (.sl 1 (p0.map (eInt .u8))), .t (.sl 1 (p1.map (eInt .u8)))] kr rfl kr kr kr kr kr ?_
  refine Wp.srg [] [] ?_
  refine Runs.alln ?_
  refine Wp.fg ⟨[(0, .t (.sl 1 (p0.map (eInt .u8)))), (1, .t (.sl 1 (p1.map (eInt .u8)))), (4, .nil)], [], []⟩ ?_
  refine Wp.srg [] [] ?_
  refine Runs.batch 2 kr ?_
  refine Runs.lenT (y := .t (.sl 1 (p1.map (eInt .u8)))) (e := 5) (eInt .u8) p1 1 rfl rfl rfl kr kr kr kr kr ?_
  obtain ⟨r1, e_r1, h⟩ := bind_some h
  refine Runs.callK false 8 48 [] [.t (.sl 1 (p0.map (eInt .u8))), .t (.int .i64 ((p1.length : Int)))] _ _ _ rfl rfl kr kr kr kr kr (impl_PutVar_ok u p0 ((p1.length : Int)) r1 e_r1) kr ?_
  refine Runs.batch 1 kr ?_
  obtain ⟨_, e_2, h⟩ := bind_some h
  refine Runs.appT (y := .t (.sl 1 (p1.map (eInt .u8)))) (eInt .u8) 10 1 5 1 1 524288 r1 p1 rfl rfl rfl rfl kr kr kr kr kr kr (.inl rfl) kr (of_decide_eq_true (chk_some e_2)) kr kr ?_
  refine Runs.alln ?_
  refine Wp.fg ⟨[(4, .own 655360)], [], [(655360, .live 5 1 ((r1 ++ p1).map (eInt .u8)))]⟩ ?_
  refine Wp.ret ?_
  obtain rfl := Option.some.inj h
  exact RetK [.own 655360] _ [] kr kr (.refl _) .nil
theorem impl_PutMsg_ok (u : Nat) (p0 : Msg) (r : (List Int)) (h : impl_PutMsg u p0 = some r) : CallOK Tryd.prog 27 [.agg [.t (.int .i64 p0.fKind), .t (.int .i64 p0.fGen), .t (.int .i64 p0.fMan.fGen), .t (.int .i64 p0.fMan.fSize), .t (.int .i64 p0.fMan.fLen), .t (.sl 2 (p0.fMan.fSums.map Sum.enc)), .t (.int .i64 p0.fWant), .t (.int .i64 p0.fDone), .t (.int .i64 p0.fI), .t (.sl 1 (p0.fB.map (eInt .u8)))]] (.one (.ow 5 1 (r.map (eInt .u8)))) [] := by
  unfold impl_PutMsg at h
  refine CallOK.of_bodyK (fn := Tryd.f27) (m := true) [.agg ((Msg.enc p0).map .t)] kr rfl kr kr kr kr kr ?_
  refine Wp.srg [] [] ?_
  refine Runs.alln ?_
  refine Wp.fg ⟨[(1, .obj 1 0), (2, .nil)], [(1, ((Msg.enc p0).map .t))], []⟩ ?_
  refine Wp.seq ?_
  refine Wp.srg [] [] ?_
  refine Runs.batch 1 kr ?_
  obtain ⟨r1, e_r1, h⟩ := bind_some h
  refine Runs.callK false 5 25 [] [.agg ((Msg.enc p0).map .t)] _ _ _ rfl rfl kr kr kr kr kr (impl_MsgOk_ok u p0 r1 e_r1) kr ?_
  refine Runs.alln ?_
  refine Wp.fg ⟨[(1, .obj 1 0), (2, .nil), (6, .t (.bool (!r1)))], [(1, ((Msg.enc p0).map .t))], []⟩ ?_
  refine Wp.cond2 (b := !r1) kr (fun hc => ?_) (fun hc => ?_)
  · have h := cond_t h hc
    refine Wp.srg [] [] ?_
    refine Runs.alln ?_
    refine Wp.fg ⟨[(1, .obj 1 0), (2, .nil)], [(1, ((Msg.enc p0).map .t))], []⟩ ?_
    refine Wp.ret ?_
    refine thenR ?_
    obtain rfl := Option.some.inj h
    exact RetK [.nil] (.one (.nil)) [] kr kr (.one (.nilO _ _)) .nil
  have h := cond_f h hc
  refine Wp.skip (thenN ?_)
  refine Wp.srg [] [] ?_
  refine Runs.batch 2 kr ?_
  obtain ⟨r2, e_r2, h⟩ := bind_some h
  refine Runs.callK false 9 48 [] [.nil, .t (.int .i64 p0.fKind)] [.one (.t (.sl 0 [])), .one (.t (.int .i64 p0.fKind))] (.one (.ow 5 1 (r2.map (eInt .u8)))) [] rfl rfl kr kr kr kr kr ((impl_PutVar_ok u ([]) p0.fKind r2 e_r2).le (.cons (.one (.sz _ _)) (.cons (.refl _) .nil))) kr ?_
  refine Runs.alln ?_
  refine Wp.fg ⟨[(1, .obj 1 0), (2, .nil), (3, .own 589824)], [(1, ((Msg.enc p0).map .t))], [(589824, .live 5 1 (r2.map (eInt .u8)))]⟩ ?_
  refine Wp.seqJ (α := (List Int)) (fun a => ⟨[(2, .nil), (3, .own 196609)], [], [(196609, .live 5 1 (a.map (eInt .u8)))]⟩) (fun a => impl_PutMsg_j1 u a = some r) ?_ ?_
  · rintro x11 h
    change impl_PutMsg_j1 u x11 = some r at h
    unfold impl_PutMsg_j1 at h
    refine Wp.srg [] [] ?_
    refine Runs.batch 2 kr ?_
    obtain ⟨r12, e_r12, h⟩ := bind_some h
    refine Runs.callBK 50 52 [] [.own 196609] [.one (.t (.sl 1 (x11.map (eInt .u8))))] (.one (.t (.int .i64 r12))) rfl rfl kr kr kr kr kr (impl_WeakOf_ok u x11 r12 e_r12) (by simp [V.plain, V.plains, C.plain, T.sc]) kr ?_
    obtain ⟨r13, e_r13, h⟩ := bind_some h
    refine Runs.callK false 51 48 [] [.own 196609, .t (.int .i64 r12)] _ _ _ rfl rfl kr kr kr kr kr (impl_PutVar_ok u x11 r12 r13 e_r13) kr ?_
    refine Runs.alln ?_
    refine Wp.fg ⟨[(2, .own 3342336)], [], [(3342336, .live 5 1 (r13.map (eInt .u8)))]⟩ ?_
    refine Wp.ret ?_
    obtain rfl := Option.some.inj h
    exact RetK [.own 3342336] _ [] kr kr (.refl _) .nil
  · refine Wp.srg [] [] ?_
    refine Runs.alln ?_
    refine Wp.fg ⟨[(1, .obj 1 0), (2, .nil), (3, .own 589824), (11, .t (.int .i64 p0.fKind))], [(1, ((Msg.enc p0).map .t))], [(589824, .live 5 1 (r2.map (eInt .u8)))]⟩ ?_
    refine Wp.block ?_
    refine Wp.srg [] [] ?_
    refine Runs.alln ?_
    refine Wp.fg ⟨[(1, .obj 1 0), (2, .nil), (3, .own 589824), (11, .t (.int .i64 p0.fKind)), (12, .t (.bool (p0.fKind == 1)))], [(1, ((Msg.enc p0).map .t))], [(589824, .live 5 1 (r2.map (eInt .u8)))]⟩ ?_
    refine Wp.cond2 (b := p0.fKind == 1) kr (fun hc => ?_) (fun hc => ?_)
    · have h := cond_t h hc
      refine Wp.rg [] [] ?_
      refine Runs.batch 3 kr ?_
      obtain ⟨r3, e_r3, h⟩ := bind_some h
      refine Runs.callK false 17 49 [] [.own 589824, .agg ((Manifest.enc p0.fMan).map .t)] _ _ _ rfl rfl kr kr kr kr kr (impl_PutMan_ok u r2 p0.fMan r3 e_r3) kr ?_
      refine Runs.all kr ?_
      refine blkN ?_
      refine thenN ?_
      exact ⟨r3, h, Le.of (mo := []) (mr := [(196609, 1114112)]) kr kr kr kr⟩
    have h := cond_f h hc
    refine Wp.srg [] [] ?_
    refine Runs.alln ?_
    refine Wp.fg ⟨[(1, .obj 1 0), (2, .nil), (3, .own 589824), (11, .t (.int .i64 p0.fKind)), (18, .t (.bool (p0.fKind == 2)))], [(1, ((Msg.enc p0).map .t))], [(589824, .live 5 1 (r2.map (eInt .u8)))]⟩ ?_
    refine Wp.cond2 (b := p0.fKind == 2) kr (fun hc => ?_) (fun hc => ?_)
    · have h := cond_t h hc
      refine Wp.regionA (pOf []) (rhoOf [(1, .obj 1), (3, .own 9), (20, .own 9), (21, .obj 1), (22, .frz), (23, .own 23), (24, .obj 1), (25, .frz), (26, .own 26), (27, .obj 1), (28, .frz), (29, .own 29)]) kr kr ?_
      refine Runs.batch 3 kr ?_
      obtain ⟨r4, e_r4, h⟩ := bind_some h
      refine Runs.callK false 23 48 [] [.own 589824, .t (.int .i64 p0.fGen)] _ _ _ rfl rfl kr kr kr kr kr (impl_PutVar_ok u r2 p0.fGen r4 e_r4) kr ?_
      refine Runs.batch 2 kr ?_
      obtain ⟨r5, e_r5, h⟩ := bind_some h
      refine Runs.callK false 26 50 [] [.own 1507328, .t (.int .i64 p0.fWant)] _ _ _ rfl rfl kr kr kr kr kr (impl_putSet_ok u r4 p0.fWant r5 e_r5) kr ?_
      refine Runs.batch 2 kr ?_
      obtain ⟨r6, e_r6, h⟩ := bind_some h
      refine Runs.callK false 29 50 [] [.own 1703936, .t (.int .i64 p0.fDone)] _ _ _ rfl rfl kr kr kr kr kr (impl_putSet_ok u r5 p0.fDone r6 e_r6) kr ?_
      refine Runs.all kr ?_
      refine blkN ?_
      refine thenN ?_
      exact ⟨r6, h, Le.of (mo := []) (mr := [(196609, 1900544)]) kr kr kr kr⟩
    have h := cond_f h hc
    refine Wp.srg [] [] ?_
    refine Runs.alln ?_
    refine Wp.fg ⟨[(1, .obj 1 0), (2, .nil), (3, .own 589824), (11, .t (.int .i64 p0.fKind)), (30, .t (.bool (p0.fKind == 3)))], [(1, ((Msg.enc p0).map .t))], [(589824, .live 5 1 (r2.map (eInt .u8)))]⟩ ?_
    refine Wp.cond2 (b := p0.fKind == 3) kr (fun hc => ?_) (fun hc => ?_)
    · have h := cond_t h hc
      refine Wp.regionA (pOf []) (rhoOf [(1, .obj 1), (3, .own 9), (32, .own 9), (33, .obj 1), (34, .frz), (35, .own 35), (36, .obj 1), (37, .frz), (38, .own 38), (39, .obj 1), (40, .frz), (41, .own 41)]) kr kr ?_
      refine Runs.batch 3 kr ?_
      obtain ⟨r7, e_r7, h⟩ := bind_some h
      refine Runs.callK false 35 48 [] [.own 589824, .t (.int .i64 p0.fGen)] _ _ _ rfl rfl kr kr kr kr kr (impl_PutVar_ok u r2 p0.fGen r7 e_r7) kr ?_
      refine Runs.batch 2 kr ?_
      obtain ⟨r8, e_r8, h⟩ := bind_some h
      refine Runs.callK false 38 48 [] [.own 2293760, .t (.int .i64 p0.fI)] _ _ _ rfl rfl kr kr kr kr kr (impl_PutVar_ok u r7 p0.fI r8 e_r8) kr ?_
      refine Runs.batch 2 kr ?_
      obtain ⟨r9, e_r9, h⟩ := bind_some h
      refine Runs.callK false 41 51 [] [.own 2490368, .t (.sl 1 (p0.fB.map (eInt .u8)))] _ _ _ rfl rfl kr kr kr kr kr (impl_PutPart_ok u r8 p0.fB r9 e_r9) kr ?_
      refine Runs.all kr ?_
      refine blkN ?_
      refine thenN ?_
      exact ⟨r9, h, Le.of (mo := []) (mr := [(196609, 2686976)]) kr kr kr kr⟩
    have h := cond_f h hc
    refine Wp.srg [] [] ?_
    refine Runs.alln ?_
    refine Wp.fg ⟨[(1, .obj 1 0), (2, .nil), (3, .own 589824), (42, .t (.bool (p0.fKind == 4)))], [(1, ((Msg.enc p0).map .t))], [(589824, .live 5 1 (r2.map (eInt .u8)))]⟩ ?_
    refine Wp.cond2 (b := p0.fKind == 4) kr (fun hc => ?_) (fun hc => ?_)
    · have h := cond_t h hc
      refine Wp.rg [] [] ?_
      refine Runs.batch 3 kr ?_
      obtain ⟨r10, e_r10, h⟩ := bind_some h
      refine Runs.callK false 47 48 [] [.own 589824, .t (.int .i64 p0.fGen)] _ _ _ rfl rfl kr kr kr kr kr (impl_PutVar_ok u r2 p0.fGen r10 e_r10) kr ?_
      refine Runs.all kr ?_
      refine blkN ?_
      refine thenN ?_
      exact ⟨r10, h, Le.of (mo := []) (mr := [(196609, 3080192)]) kr kr kr kr⟩
    have h := cond_f h hc
    refine Wp.skip ?_
    refine blkN ?_
    refine thenN ?_
    exact ⟨r2, h, Le.of (mo := []) (mr := [(196609, 589824)]) kr kr kr kr⟩
theorem bytes_Equal_ok (u : Nat) (p0 : List Int) (p1 : List Int) (r : Bool) (h : bytes_Equal u p0 p1 = some r) : CallOK Tryd.prog 47 [.one (.t (.sl 1 (p0.map (eInt .u8)))), .one (.t (.sl 1 (p1.map (eInt .u8))))] (.one (.t (.bool r))) [] := by
  unfold bytes_Equal at h
  refine CallOK.of_bodyK (fn := Tryd.f47) (m := false) [.t (.sl 1 (p0.map (eInt .u8))), .t (.sl 1 (p1.map (eInt .u8)))] kr rfl kr kr kr kr kr ?_
  refine Wp.srg [] [] ?_
  refine Runs.alln ?_
  refine Wp.fg ⟨[(0, .t (.sl 1 (p0.map (eInt .u8)))), (1, .t (.sl 1 (p1.map (eInt .u8)))), (4, .t (.bool false))], [], []⟩ ?_
  refine Wp.srg [] [] ?_
  refine Runs.batch 1 kr ?_
  refine Runs.bytesStr (y := .t (.sl 1 (p0.map (eInt .u8)))) (e := 5) p0 1 rfl kr kr kr kr kr kr kr ?_
  refine Runs.batch 1 kr ?_
  refine Runs.bytesStr (y := .t (.sl 1 (p1.map (eInt .u8)))) (e := 5) p1 1 rfl kr kr kr kr kr kr kr ?_
  refine Runs.alln ?_
  refine Wp.fg ⟨[(4, .t (.bool ((strOfNums p0).toList == (strOfNums p1).toList)))], [], []⟩ ?_
  refine Wp.ret ?_
  obtain rfl := Option.some.inj h
  exact RetK [.t (.bool ((strOfNums p0).toList == (strOfNums p1).toList))] _ [] kr kr (.refl _) .nil
theorem impl_SameBytes_ok (u : Nat) (p0 : List Int) (p1 : List Int) (r : Bool) (h : impl_SameBytes u p0 p1 = some r) : CallOK Tryd.prog 26 [.one (.t (.sl 1 (p0.map (eInt .u8)))), .one (.t (.sl 1 (p1.map (eInt .u8))))] (.one (.t (.bool r))) [] := by
  unfold impl_SameBytes at h
  refine CallOK.of_bodyK (fn := Tryd.f26) (m := false) [.t (.sl 1 (p0.map (eInt .u8))), .t (.sl 1 (p1.map (eInt .u8)))] kr rfl kr kr kr kr kr ?_
  refine Wp.srg [] [] ?_
  refine Runs.alln ?_
  refine Wp.fg ⟨[(0, .t (.sl 1 (p0.map (eInt .u8)))), (1, .t (.sl 1 (p1.map (eInt .u8)))), (4, .t (.bool false))], [], []⟩ ?_
  refine Wp.srg [] [] ?_
  refine Runs.batch 2 kr ?_
  obtain ⟨r1, e_r1, h⟩ := bind_some h
  refine Runs.callK false 7 47 [] [.t (.sl 1 (p0.map (eInt .u8))), .t (.sl 1 (p1.map (eInt .u8)))] _ _ _ rfl rfl kr kr kr kr kr (bytes_Equal_ok u p0 p1 r1 e_r1) kr ?_
  refine Runs.alln ?_
  refine Wp.fg ⟨[(4, .t (.bool r1))], [], []⟩ ?_
  refine Wp.ret ?_
  obtain rfl := Option.some.inj h
  exact RetK [.t (.bool r1)] _ [] kr kr (.refl _) .nil
theorem impl_GetMsg_ok (u : Nat) (p0 : List Int) (r : Msg × Bool) (h : impl_GetMsg u p0 = some r) : CallOK Tryd.prog 14 [.one (.t (.sl 1 (p0.map (eInt .u8))))] (.tup [.agg [.t (.int .i64 r.1.fKind), .t (.int .i64 r.1.fGen), .t (.int .i64 r.1.fMan.fGen), .t (.int .i64 r.1.fMan.fSize), .t (.int .i64 r.1.fMan.fLen), .t (.sl 2 (r.1.fMan.fSums.map Sum.enc)), .t (.int .i64 r.1.fWant), .t (.int .i64 r.1.fDone), .t (.int .i64 r.1.fI), .t (.sl 1 (r.1.fB.map (eInt .u8)))], .one (.t (.bool r.2))]) [] := by
  unfold impl_GetMsg at h
  refine CallOK.of_bodyK (fn := Tryd.f14) (m := false) [.t (.sl 1 (p0.map (eInt .u8)))] kr rfl kr kr kr kr kr ?_
  refine Wp.srg [] [] ?_
  refine Runs.alln ?_
  refine Wp.fg ⟨[(0, .t (.sl 1 (p0.map (eInt .u8)))), (2, .obj 2 0), (3, .t (.bool false))], [(2, [.t (.int .i64 0), .t (.int .i64 0), .t (.int .i64 0), .t (.int .i64 0), .t (.int .i64 0), .nil, .t (.int .i64 0), .t (.int .i64 0), .t (.int .i64 0), .nil])], []⟩ ?_
  refine Wp.srg [] [] ?_
  refine Runs.batch 1 kr ?_
  obtain ⟨r1, e_r1, h⟩ := bind_some h
  refine Runs.callK false 10 23 [] [.t (.sl 1 (p0.map (eInt .u8))), .t (.int .i64 0)] _ _ _ rfl rfl kr kr kr kr kr (impl_GetVar_ok u p0 0 r1 e_r1) kr ?_
  refine Runs.alln ?_
  refine Wp.fg ⟨[(0, .t (.sl 1 (p0.map (eInt .u8)))), (2, .obj 2 0), (3, .t (.bool false)), (4, .t (.int .i64 r1.1)), (5, .t (.int .i64 r1.2.1)), (6, .t (.bool r1.2.2))], [(2, [.t (.int .i64 0), .t (.int .i64 0), .t (.int .i64 0), .t (.int .i64 0), .t (.int .i64 0), .nil, .t (.int .i64 0), .t (.int .i64 0), .t (.int .i64 0), .nil])], []⟩ ?_
  refine Wp.seq ?_
  refine Wp.seqJ (α := (List Int) × (Int × Int × Bool) × Bool) (fun a => ⟨[(0, .t (.sl 1 (a.1.map (eInt .u8)))), (2, .obj 2 0), (3, .t (.bool false)), (4, .t (.int .i64 a.2.1.1)), (5, .t (.int .i64 a.2.1.2.1)), (20, .t (.bool a.2.2))], [(2, [.t (.int .i64 0), .t (.int .i64 0), .t (.int .i64 0), .t (.int .i64 0), .t (.int .i64 0), .nil, .t (.int .i64 0), .t (.int .i64 0), .t (.int .i64 0), .nil])], []⟩) (fun a => impl_GetMsg_j1 u a.1 a.2.1 a.2.2 = some r) ?_ ?_
  · rintro ⟨p0, r1, x2⟩ h
    change impl_GetMsg_j1 u p0 r1 x2 = some r at h
    unfold impl_GetMsg_j1 at h
    refine Wp.cond2 (b := x2) kr (fun hc => ?_) (fun hc => ?_)
    · have h := cond_t h hc
      refine Wp.srg [] [] ?_
      refine Runs.alln ?_
      refine Wp.fg ⟨[(0, .t (.sl 1 (p0.map (eInt .u8)))), (2, .obj 2 0), (3, .t (.bool false)), (4, .t (.int .i64 r1.1)), (5, .t (.int .i64 r1.2.1))], [(2, [.t (.int .i64 0), .t (.int .i64 0), .t (.int .i64 0), .t (.int .i64 0), .t (.int .i64 0), .nil, .t (.int .i64 0), .t (.int .i64 0), .t (.int .i64 0), .nil])], []⟩ ?_
      refine Wp.ret ?_
      refine thenR ?_
      obtain rfl := Option.some.inj h
      exact RetK [.agg [.t (.int .i64 0), .t (.int .i64 0), .t (.int .i64 0), .t (.int .i64 0), .t (.int .i64 0), .nil, .t (.int .i64 0), .t (.int .i64 0), .t (.int .i64 0), .nil], .t (.bool false)] (.tup [.agg [.t (.int .i64 0), .t (.int .i64 0), .t (.int .i64 0), .t (.int .i64 0), .t (.int .i64 0), .t (.sl 0 []), .t (.int .i64 0), .t (.int .i64 0), .t (.int .i64 0), .t (.sl 0 [])], .one (.t (.bool false))]) [] kr kr (.tup (.cons (.agg (.cons (.refl _) (.cons (.refl _) (.cons (.refl _) (.cons (.refl _) (.cons (.refl _) (.cons (.sz _ _) (.cons (.refl _) (.cons (.refl _) (.cons (.refl _) (.cons (.sz _ _) .nil))))))))))) (.cons (.refl _) .nil))) .nil
    have h := cond_f h hc
    refine Wp.skip (thenN ?_)
    refine Wp.srg [] [] ?_
    refine Runs.batch 3 kr ?_
    obtain ⟨r3, e_r3, h⟩ := bind_some h
    refine Runs.callK false 26 24 [] [.t (.sl 1 (p0.map (eInt .u8))), .t (.int .i64 r1.1), .t (.int .i64 r1.2.1)] _ _ _ rfl rfl kr kr kr kr kr (impl_readMsg_ok u p0 r1.1 r1.2.1 r3 e_r3) kr ?_
    refine Runs.alln ?_
    refine Wp.fg ⟨[(0, .t (.sl 1 (p0.map (eInt .u8)))), (2, .obj 2 0), (3, .t (.bool false)), (6, .t (.bool r3.2)), (7, .obj 7 0)], [(2, [.t (.int .i64 0), .t (.int .i64 0), .t (.int .i64 0), .t (.int .i64 0), .t (.int .i64 0), .nil, .t (.int .i64 0), .t (.int .i64 0), .t (.int .i64 0), .nil]), (7, [.t (.int .i64 r3.1.fKind), .t (.int .i64 r3.1.fGen), .t (.int .i64 r3.1.fMan.fGen), .t (.int .i64 r3.1.fMan.fSize), .t (.int .i64 r3.1.fMan.fLen), .own 1703941, .t (.int .i64 r3.1.fWant), .t (.int .i64 r3.1.fDone), .t (.int .i64 r3.1.fI), .own 1703945])], [(1703941, .live 76 2 (r3.1.fMan.fSums.map Sum.enc)), (1703945, .live 5 1 (r3.1.fB.map (eInt .u8)))]⟩ ?_
    refine Wp.seq ?_
    refine Wp.seqJ (α := Bool × (Msg × Bool)) (fun a => ⟨[(2, .obj 2 0), (3, .t (.bool false)), (7, .obj 7 0), (42, .t (.bool a.1))], [(2, [.t (.int .i64 0), .t (.int .i64 0), .t (.int .i64 0), .t (.int .i64 0), .t (.int .i64 0), .nil, .t (.int .i64 0), .t (.int .i64 0), .t (.int .i64 0), .nil]), (7, ((Msg.enc a.2.1).map .t))], []⟩) (fun a => impl_GetMsg_j2 u a.1 a.2 = some r) ?_ ?_
    · rintro ⟨x7, r3⟩ h
      change impl_GetMsg_j2 u x7 r3 = some r at h
      unfold impl_GetMsg_j2 at h
      refine Wp.cond2 (b := x7) kr (fun hc => ?_) (fun hc => ?_)
      · have h := cond_t h hc
        refine Wp.srg [] [] ?_
        refine Runs.alln ?_
        refine Wp.fg ⟨[(2, .obj 2 0), (3, .t (.bool false)), (7, .obj 7 0)], [(2, [.t (.int .i64 0), .t (.int .i64 0), .t (.int .i64 0), .t (.int .i64 0), .t (.int .i64 0), .nil, .t (.int .i64 0), .t (.int .i64 0), .t (.int .i64 0), .nil]), (7, ((Msg.enc r3.1).map .t))], []⟩ ?_
        refine Wp.ret ?_
        refine thenR ?_
        obtain rfl := Option.some.inj h
        exact RetK [.agg [.t (.int .i64 0), .t (.int .i64 0), .t (.int .i64 0), .t (.int .i64 0), .t (.int .i64 0), .nil, .t (.int .i64 0), .t (.int .i64 0), .t (.int .i64 0), .nil], .t (.bool false)] (.tup [.agg [.t (.int .i64 0), .t (.int .i64 0), .t (.int .i64 0), .t (.int .i64 0), .t (.int .i64 0), .t (.sl 0 []), .t (.int .i64 0), .t (.int .i64 0), .t (.int .i64 0), .t (.sl 0 [])], .one (.t (.bool false))]) [] kr kr (.tup (.cons (.agg (.cons (.refl _) (.cons (.refl _) (.cons (.refl _) (.cons (.refl _) (.cons (.refl _) (.cons (.sz _ _) (.cons (.refl _) (.cons (.refl _) (.cons (.refl _) (.cons (.sz _ _) .nil))))))))))) (.cons (.refl _) .nil))) .nil
      have h := cond_f h hc
      refine Wp.skip (thenN ?_)
      refine Wp.srg [] [] ?_
      refine Runs.alln ?_
      refine Wp.fg ⟨[(2, .obj 2 0), (3, .t (.bool true))], [(2, ((Msg.enc r3.1).map .t))], []⟩ ?_
      refine Wp.ret ?_
      obtain rfl := Option.some.inj h
      exact RetK [.agg ((Msg.enc r3.1).map .t), .t (.bool true)] _ [] kr kr (.refl _) .nil
    · refine Wp.rg [] [] ?_
      refine Runs.batch 3 kr ?_
      rcases tf (!r3.2) with hc | hc
      · have h := cond_t h hc
        refine Runs.known 31 (v := true) kr hc ?_
        refine Runs.alln ?_
        exact ⟨(true, r3), h, Le.trans (Le.frzO 7 5 1703941 76 2 [.t (.int .i64 r3.1.fKind), .t (.int .i64 r3.1.fGen), .t (.int .i64 r3.1.fMan.fGen), .t (.int .i64 r3.1.fMan.fSize), .t (.int .i64 r3.1.fMan.fLen), .own 1703941, .t (.int .i64 r3.1.fWant), .t (.int .i64 r3.1.fDone), .t (.int .i64 r3.1.fI), .own 1703945] (r3.1.fMan.fSums.map Sum.enc) kr kr kr) (Le.trans (Le.frzO 7 9 1703945 5 1 [.t (.int .i64 r3.1.fKind), .t (.int .i64 r3.1.fGen), .t (.int .i64 r3.1.fMan.fGen), .t (.int .i64 r3.1.fMan.fSize), .t (.int .i64 r3.1.fMan.fLen), .t (.sl 2 (r3.1.fMan.fSums.map Sum.enc)), .t (.int .i64 r3.1.fWant), .t (.int .i64 r3.1.fDone), .t (.int .i64 r3.1.fI), .own 1703945] (r3.1.fB.map (eInt .u8)) kr kr kr) (Le.of (mo := []) (mr := []) kr kr kr kr))⟩
      have h := cond_f h hc
      refine Runs.known 31 (v := false) kr hc ?_
      refine Runs.batch 1 kr ?_
      obtain ⟨r4, e_r4, h⟩ := bind_some h
      refine Runs.callBK 33 25 [] [.agg [.t (.int .i64 r3.1.fKind), .t (.int .i64 r3.1.fGen), .t (.int .i64 r3.1.fMan.fGen), .t (.int .i64 r3.1.fMan.fSize), .t (.int .i64 r3.1.fMan.fLen), .own 1703941, .t (.int .i64 r3.1.fWant), .t (.int .i64 r3.1.fDone), .t (.int .i64 r3.1.fI), .own 1703945]] [.agg ((Msg.enc r3.1).map .t)] (.one (.t (.bool r4))) rfl rfl kr kr kr kr kr (impl_MsgOk_ok u r3.1 r4 e_r4) (by simp [V.plain, V.plains, C.plain, T.sc]) kr ?_
      refine Runs.batch 3 kr ?_
      rcases tf (!r4) with hc | hc
      · have h := cond_t h hc
        refine Runs.known 36 (v := true) kr hc ?_
        refine Runs.alln ?_
        exact ⟨(true, r3), h, Le.trans (Le.frzO 7 5 1703941 76 2 [.t (.int .i64 r3.1.fKind), .t (.int .i64 r3.1.fGen), .t (.int .i64 r3.1.fMan.fGen), .t (.int .i64 r3.1.fMan.fSize), .t (.int .i64 r3.1.fMan.fLen), .own 1703941, .t (.int .i64 r3.1.fWant), .t (.int .i64 r3.1.fDone), .t (.int .i64 r3.1.fI), .own 1703945] (r3.1.fMan.fSums.map Sum.enc) kr kr kr) (Le.trans (Le.frzO 7 9 1703945 5 1 [.t (.int .i64 r3.1.fKind), .t (.int .i64 r3.1.fGen), .t (.int .i64 r3.1.fMan.fGen), .t (.int .i64 r3.1.fMan.fSize), .t (.int .i64 r3.1.fMan.fLen), .t (.sl 2 (r3.1.fMan.fSums.map Sum.enc)), .t (.int .i64 r3.1.fWant), .t (.int .i64 r3.1.fDone), .t (.int .i64 r3.1.fI), .own 1703945] (r3.1.fB.map (eInt .u8)) kr kr kr) (Le.of (mo := []) (mr := []) kr kr kr kr))⟩
      have h := cond_f h hc
      refine Runs.known 36 (v := false) kr hc ?_
      refine Runs.batch 1 kr ?_
      obtain ⟨r5, e_r5, h⟩ := bind_some h
      refine Runs.callK false 38 27 [] [.agg [.t (.int .i64 r3.1.fKind), .t (.int .i64 r3.1.fGen), .t (.int .i64 r3.1.fMan.fGen), .t (.int .i64 r3.1.fMan.fSize), .t (.int .i64 r3.1.fMan.fLen), .own 1703941, .t (.int .i64 r3.1.fWant), .t (.int .i64 r3.1.fDone), .t (.int .i64 r3.1.fI), .own 1703945]] _ _ _ rfl rfl kr kr kr kr kr (impl_PutMsg_ok u r3.1 r5 e_r5) kr ?_
      refine Runs.batch 1 kr ?_
      obtain ⟨r6, e_r6, h⟩ := bind_some h
      refine Runs.callBK 40 26 [] [.own 2490368, .t (.sl 1 (p0.map (eInt .u8)))] [.one (.t (.sl 1 (r5.map (eInt .u8)))), .one (.t (.sl 1 (p0.map (eInt .u8))))] (.one (.t (.bool r6))) rfl rfl kr kr kr kr kr (impl_SameBytes_ok u r5 p0 r6 e_r6) (by simp [V.plain, V.plains, C.plain, T.sc]) kr ?_
      refine Runs.alln ?_
      exact ⟨(!r6, r3), h, Le.trans (Le.seeO 7 5 1703941 2 [.t (.int .i64 r3.1.fKind), .t (.int .i64 r3.1.fGen), .t (.int .i64 r3.1.fMan.fGen), .t (.int .i64 r3.1.fMan.fSize), .t (.int .i64 r3.1.fMan.fLen), .own 1703941, .t (.int .i64 r3.1.fWant), .t (.int .i64 r3.1.fDone), .t (.int .i64 r3.1.fI), .own 1703945] (r3.1.fMan.fSums.map Sum.enc) kr kr kr) (Le.trans (Le.seeO 7 9 1703945 1 [.t (.int .i64 r3.1.fKind), .t (.int .i64 r3.1.fGen), .t (.int .i64 r3.1.fMan.fGen), .t (.int .i64 r3.1.fMan.fSize), .t (.int .i64 r3.1.fMan.fLen), .t (.sl 2 (r3.1.fMan.fSums.map Sum.enc)), .t (.int .i64 r3.1.fWant), .t (.int .i64 r3.1.fDone), .t (.int .i64 r3.1.fI), .own 1703945] (r3.1.fB.map (eInt .u8)) kr kr kr) (Le.of (mo := []) (mr := []) kr kr kr kr))⟩
  · refine Wp.rg [] [] ?_
    refine Runs.batch 3 kr ?_
    rcases tf (!r1.2.2) with hc | hc
    · have h := cond_t h hc
      refine Runs.known 16 (v := true) kr hc ?_
      refine Runs.alln ?_
      exact ⟨(p0, r1, true), h, Le.of (mo := []) (mr := []) kr kr kr kr⟩
    have h := cond_f h hc
    refine Runs.known 16 (v := false) kr hc ?_
    refine Runs.batch 1 kr ?_
    refine Runs.lenT (y := .t (.sl 1 (p0.map (eInt .u8)))) (e := 5) (eInt .u8) p0 1 rfl rfl rfl kr kr kr kr kr ?_
    refine Runs.alln ?_
    exact ⟨(p0, r1, decide (((p0.length : Int)) > 400)), h, Le.of (mo := []) (mr := []) kr kr kr kr⟩
def laysItoa_ren : Go.Shelf.Ren := ⟨fun | 171 => 29 | 243 => 54 | 246 => 72 | 283 => 77 | 284 => 78 | 285 => 79 | 286 => 80 | 129 => 82 | 317 => 81 | 318 => 83 | 319 => 84 | 320 => 85 | 337 => 86 | 338 => 87 | n => n, fun | 3 => 3 | 9 => 9 | 2 => 2 | 4 => 4 | 171 => 83 | 0 => 0 | 53 => 71 | 37 => 22 | 5 => 5 | 173 => 85 | 212 => 88 | 51 => 89 | 20 => 20 | 213 => 90 | 46 => 55 | 232 => 93 | 233 => 94 | n => n, fun | 17 => 0 | 18 => 1 | 19 => 2 | n => n⟩
theorem laysItoa : Go.Proofs.LaysM.n171 Tryd.prog laysItoa_ren := {
  mixed := by kernel_rfl,
  f129 := Tryd.func82.trans (congrArg some kr),
  f171 := Tryd.func29.trans (congrArg some kr),
  f243 := Tryd.func54.trans (congrArg some kr),
  f246 := Tryd.func72.trans (congrArg some kr),
  f283 := Tryd.func77.trans (congrArg some kr),
  f284 := Tryd.func78.trans (congrArg some kr),
  f285 := Tryd.func79.trans (congrArg some kr),
  f286 := Tryd.func80.trans (congrArg some kr),
  f317 := Tryd.func81.trans (congrArg some kr),
  f318 := Tryd.func83.trans (congrArg some kr),
  f319 := Tryd.func84.trans (congrArg some kr),
  f320 := Tryd.func85.trans (congrArg some kr),
  f337 := Tryd.func86.trans (congrArg some kr),
  f338 := Tryd.func87.trans (congrArg some kr),
  t0 := Tryd.underlying0,
  a0 := Tryd.isAgg0,
  z0 := Tryd.sizeOf0,
  v0 := Tryd.zeroValue0,
  t2 := Tryd.underlying2,
  a2 := Tryd.isAgg2,
  z2 := Tryd.sizeOf2,
  v2 := Tryd.zeroValue2,
  t3 := Tryd.underlying3,
  a3 := Tryd.isAgg3,
  z3 := Tryd.sizeOf3,
  v3 := Tryd.zeroValue3,
  t4 := Tryd.underlying4,
  a4 := Tryd.isAgg4,
  z4 := Tryd.sizeOf4,
  v4 := Tryd.zeroValue4,
  t5 := Tryd.underlying5,
  a5 := Tryd.isAgg5,
  z5 := Tryd.sizeOf5,
  v5 := Tryd.zeroValue5,
  t9 := Tryd.underlying9,
  a9 := Tryd.isAgg9,
  z9 := Tryd.sizeOf9,
  v9 := Tryd.zeroValue9,
  t20 := Tryd.underlying20,
  a20 := Tryd.isAgg20,
  z20 := Tryd.sizeOf20,
  v20 := Tryd.zeroValue20,
  t37 := Tryd.underlying22,
  a37 := Tryd.isAgg22,
  z37 := Tryd.sizeOf22,
  v37 := Tryd.zeroValue22,
  t46 := Tryd.underlying55,
  a46 := Tryd.isAgg55,
  z46 := Tryd.sizeOf55,
  v46 := Tryd.zeroValue55,
  t51 := Tryd.underlying89,
  a51 := Tryd.isAgg89,
  z51 := Tryd.sizeOf89,
  v51 := Tryd.zeroValue89,
  t53 := Tryd.underlying71,
  a53 := Tryd.isAgg71,
  z53 := Tryd.sizeOf71,
  v53 := Tryd.zeroValue71,
  t171 := Tryd.underlying83,
  a171 := Tryd.isAgg83,
  z171 := Tryd.sizeOf83,
  v171 := Tryd.zeroValue83,
  t173 := Tryd.underlying85,
  a173 := Tryd.isAgg85,
  z173 := Tryd.sizeOf85,
  v173 := Tryd.zeroValue85,
  t212 := Tryd.underlying88,
  a212 := Tryd.isAgg88,
  z212 := Tryd.sizeOf88,
  v212 := Tryd.zeroValue88,
  t213 := Tryd.underlying90,
  a213 := Tryd.isAgg90,
  z213 := Tryd.sizeOf90,
  t232 := Tryd.underlying93,
  a232 := Tryd.isAgg93,
  z232 := Tryd.sizeOf93,
  v232 := Tryd.zeroValue93,
  t233 := Tryd.underlying94,
  a233 := Tryd.isAgg94,
  z233 := Tryd.sizeOf94,
  v233 := Tryd.zeroValue94,
  g17 := by kernel_rfl,
  g18 := by kernel_rfl,
  g19 := by kernel_rfl,
  i0 := by kernel_rfl,
  i2 := by kernel_rfl,
  i3 := by kernel_rfl,
  i4 := by kernel_rfl,
  i5 := by kernel_rfl,
  i9 := by kernel_rfl,
  i20 := by kernel_rfl,
  i37 := by kernel_rfl,
  i46 := by kernel_rfl,
  i51 := by kernel_rfl,
  i53 := by kernel_rfl,
  i171 := by kernel_rfl,
  i173 := by kernel_rfl,
  i212 := by kernel_rfl,
  i232 := by kernel_rfl,
  i233 := by kernel_rfl,
  m17 := by kernel_rfl,
  m18 := by kernel_rfl,
  m19 := by kernel_rfl }
theorem strconv_Itoa_ok (u : Nat) (p0 : Int) (r : ByteArray) (h : strconv_Itoa u p0 = some r) : CallOK Tryd.prog 29 [.one (.t (.int .i64 p0))] (.one (.t (.str r))) [] :=
  itoa_call ⟨_, Tryd.func29, by kernel_rfl, by kernel_rfl⟩ (k := 0) kr (fun n h0 h1 w ht => Go.Proofs.Any.strconv_Itoa laysItoa n h0 h1 w ht) h
theorem impl_NumText_ok (u : Nat) (p0 : Int) (r : ByteArray) (h : impl_NumText u p0 = some r) : CallOK Tryd.prog 16 [.one (.t (.int .i64 p0))] (.one (.t (.str r))) [] := by
  unfold impl_NumText at h
  refine CallOK.of_bodyK (fn := Tryd.f16) (m := false) [.t (.int .i64 p0)] kr rfl kr kr kr kr kr ?_
  refine Wp.srg [] [] ?_
  refine Runs.alln ?_
  refine Wp.fg ⟨[(0, .t (.int .i64 p0)), (2, .t (.str ((ByteArray.mk #[]))))], [], []⟩ ?_
  refine Wp.srg [] [] ?_
  refine Runs.batch 1 kr ?_
  obtain ⟨r1, e_r1, h⟩ := bind_some h
  refine Runs.callK false 4 29 [] [.t (.int .i64 p0)] _ _ _ rfl rfl kr kr kr kr kr (strconv_Itoa_ok u p0 r1 e_r1) kr ?_
  refine Runs.alln ?_
  refine Wp.fg ⟨[(2, .t (.str r1))], [], []⟩ ?_
  refine Wp.ret ?_
  obtain rfl := Option.some.inj h
  exact RetK [.t (.str r1)] _ [] kr kr (.refl _) .nil
theorem bits_OnesCount64_ok (u : Nat) (p0 : Int) (r : Int) (h : bits_OnesCount64 u p0 = some r) : CallOK Tryd.prog 53 [.one (.t (.int .u64 p0))] (.one (.t (.int .i64 r))) [] := by
  unfold bits_OnesCount64 at h
  refine CallOK.of_bodyK (fn := Tryd.f53) (m := false) [.t (.int .u64 p0)] kr rfl kr kr kr kr kr ?_
  refine Wp.srg [] [] ?_
  refine Runs.alln ?_
  refine Wp.fg ⟨[(0, .t (.int .u64 p0)), (2, .t (.int .i64 0))], [], []⟩ ?_
  refine Wp.srg [] [] ?_
  refine Runs.alln ?_
  refine Wp.fg ⟨[(0, .t (.int .u64 (bAdd .u64 (bAnd .u64 (bShr .u64 p0 1) 6148914691236517205) (bAnd .u64 p0 6148914691236517205)))), (2, .t (.int .i64 0))], [], []⟩ ?_
  refine Wp.srg [] [] ?_
  refine Runs.alln ?_
  refine Wp.fg ⟨[(0, .t (.int .u64 (bAdd .u64 (bAnd .u64 (bShr .u64 (bAdd .u64 (bAnd .u64 (bShr .u64 p0 1) 6148914691236517205) (bAnd .u64 p0 6148914691236517205)) 2) 3689348814741910323) (bAnd .u64 (bAdd .u64 (bAnd .u64 (bShr .u64 p0 1) 6148914691236517205) (bAnd .u64 p0 6148914691236517205)) 3689348814741910323)))), (2, .t (.int .i64 0))], [], []⟩ ?_
  refine Wp.srg [] [] ?_
  refine Runs.alln ?_
  refine Wp.fg ⟨[(0, .t (.int .u64 (bAnd .u64 (bAdd .u64 (bShr .u64 (bAdd .u64 (bAnd .u64 (bShr .u64 (bAdd .u64 (bAnd .u64 (bShr .u64 p0 1) 6148914691236517205) (bAnd .u64 p0 6148914691236517205)) 2) 3689348814741910323) (bAnd .u64 (bAdd .u64 (bAnd .u64 (bShr .u64 p0 1) 6148914691236517205) (bAnd .u64 p0 6148914691236517205)) 3689348814741910323)) 4) (bAdd .u64 (bAnd .u64 (bShr .u64 (bAdd .u64 (bAnd .u64 (bShr .u64 p0 1) 6148914691236517205) (bAnd .u64 p0 6148914691236517205)) 2) 3689348814741910323) (bAnd .u64 (bAdd .u64 (bAnd .u64 (bShr .u64 p0 1) 6148914691236517205) (bAnd .u64 p0 6148914691236517205)) 3689348814741910323))) 1085102592571150095))), (2, .t (.int .i64 0))], [], []⟩ ?_
  refine Wp.srg [] [] ?_
  refine Runs.alln ?_
  refine Wp.fg ⟨[(0, .t (.int .u64 (bAdd .u64 (bAnd .u64 (bAdd .u64 (bShr .u64 (bAdd .u64 (bAnd .u64 (bShr .u64 (bAdd .u64 (bAnd .u64 (bShr .u64 p0 1) 6148914691236517205) (bAnd .u64 p0 6148914691236517205)) 2) 3689348814741910323) (bAnd .u64 (bAdd .u64 (bAnd .u64 (bShr .u64 p0 1) 6148914691236517205) (bAnd .u64 p0 6148914691236517205)) 3689348814741910323)) 4) (bAdd .u64 (bAnd .u64 (bShr .u64 (bAdd .u64 (bAnd .u64 (bShr .u64 p0 1) 6148914691236517205) (bAnd .u64 p0 6148914691236517205)) 2) 3689348814741910323) (bAnd .u64 (bAdd .u64 (bAnd .u64 (bShr .u64 p0 1) 6148914691236517205) (bAnd .u64 p0 6148914691236517205)) 3689348814741910323))) 1085102592571150095) (bShr .u64 (bAnd .u64 (bAdd .u64 (bShr .u64 (bAdd .u64 (bAnd .u64 (bShr .u64 (bAdd .u64 (bAnd .u64 (bShr .u64 p0 1) 6148914691236517205) (bAnd .u64 p0 6148914691236517205)) 2) 3689348814741910323) (bAnd .u64 (bAdd .u64 (bAnd .u64 (bShr .u64 p0 1) 6148914691236517205) (bAnd .u64 p0 6148914691236517205)) 3689348814741910323)) 4) (bAdd .u64 (bAnd .u64 (bShr .u64 (bAdd .u64 (bAnd .u64 (bShr .u64 p0 1) 6148914691236517205) (bAnd .u64 p0 6148914691236517205)) 2) 3689348814741910323) (bAnd .u64 (bAdd .u64 (bAnd .u64 (bShr .u64 p0 1) 6148914691236517205) (bAnd .u64 p0 6148914691236517205)) 3689348814741910323))) 1085102592571150095) 8)))), (2, .t (.int .i64 0))], [], []⟩ ?_
  refine Wp.srg [] [] ?_
  refine Runs.alln ?_
  refine Wp.fg ⟨[(0, .t (.int .u64 (bAdd .u64 (bAdd .u64 (bAnd .u64 (bAdd .u64 (bShr .u64 (bAdd .u64 (bAnd .u64 (bShr .u64 (bAdd .u64 (bAnd .u64 (bShr .u64 p0 1) 6148914691236517205) (bAnd .u64 p0 6148914691236517205)) 2) 3689348814741910323) (bAnd .u64 (bAdd .u64 (bAnd .u64 (bShr .u64 p0 1) 6148914691236517205) (bAnd .u64 p0 6148914691236517205)) 3689348814741910323)) 4) (bAdd .u64 (bAnd .u64 (bShr .u64 (bAdd .u64 (bAnd .u64 (bShr .u64 p0 1) 6148914691236517205) (bAnd .u64 p0 6148914691236517205)) 2) 3689348814741910323) (bAnd .u64 (bAdd .u64 (bAnd .u64 (bShr .u64 p0 1) 6148914691236517205) (bAnd .u64 p0 6148914691236517205)) 3689348814741910323))) 1085102592571150095) (bShr .u64 (bAnd .u64 (bAdd .u64 (bShr .u64 (bAdd .u64 (bAnd .u64 (bShr .u64 (bAdd .u64 (bAnd .u64 (bShr .u64 p0 1) 6148914691236517205) (bAnd .u64 p0 6148914691236517205)) 2) 3689348814741910323) (bAnd .u64 (bAdd .u64 (bAnd .u64 (bShr .u64 p0 1) 6148914691236517205) (bAnd .u64 p0 6148914691236517205)) 3689348814741910323)) 4) (bAdd .u64 (bAnd .u64 (bShr .u64 (bAdd .u64 (bAnd .u64 (bShr .u64 p0 1) 6148914691236517205) (bAnd .u64 p0 6148914691236517205)) 2) 3689348814741910323) (bAnd .u64 (bAdd .u64 (bAnd .u64 (bShr .u64 p0 1) 6148914691236517205) (bAnd .u64 p0 6148914691236517205)) 3689348814741910323))) 1085102592571150095) 8)) (bShr .u64 (bAdd .u64 (bAnd .u64 (bAdd .u64 (bShr .u64 (bAdd .u64 (bAnd .u64 (bShr .u64 (bAdd .u64 (bAnd .u64 (bShr .u64 p0 1) 6148914691236517205) (bAnd .u64 p0 6148914691236517205)) 2) 3689348814741910323) (bAnd .u64 (bAdd .u64 (bAnd .u64 (bShr .u64 p0 1) 6148914691236517205) (bAnd .u64 p0 6148914691236517205)) 3689348814741910323)) 4) (bAdd .u64 (bAnd .u64 (bShr .u64 (bAdd .u64 (bAnd .u64 (bShr .u64 p0 1) 6148914691236517205) (bAnd .u64 p0 6148914691236517205)) 2) 3689348814741910323) (bAnd .u64 (bAdd .u64 (bAnd .u64 (bShr .u64 p0 1) 6148914691236517205) (bAnd .u64 p0 6148914691236517205)) 3689348814741910323))) 1085102592571150095) (bShr .u64 (bAnd .u64 (bAdd .u64 (bShr .u64 (bAdd .u64 (bAnd .u64 (bShr .u64 (bAdd .u64 (bAnd .u64 (bShr .u64 p0 1) 6148914691236517205) (bAnd .u64 p0 6148914691236517205)) 2) 3689348814741910323) (bAnd .u64 (bAdd .u64 (bAnd .u64 (bShr .u64 p0 1) 6148914691236517205) (bAnd .u64 p0 6148914691236517205)) 3689348814741910323)) 4) (bAdd .u64 (bAnd .u64 (bShr .u64 (bAdd .u64 (bAnd .u64 (bShr .u64 p0 1) 6148914691236517205) (bAnd .u64 p0 6148914691236517205)) 2) 3689348814741910323) (bAnd .u64 (bAdd .u64 (bAnd .u64 (bShr .u64 p0 1) 6148914691236517205) (bAnd .u64 p0 6148914691236517205)) 3689348814741910323))) 1085102592571150095) 8)) 16)))), (2, .t (.int .i64 0))], [], []⟩ ?_
  refine Wp.srg [] [] ?_
  refine Runs.alln ?_
  refine Wp.fg ⟨[(0, .t (.int .u64 (bAdd .u64 (bAdd .u64 (bAdd .u64 (bAnd .u64 (bAdd .u64 (bShr .u64 (bAdd .u64 (bAnd .u64 (bShr .u64 (bAdd .u64 (bAnd .u64 (bShr .u64 p0 1) 6148914691236517205) (bAnd .u64 p0 6148914691236517205)) 2) 3689348814741910323) (bAnd .u64 (bAdd .u64 (bAnd .u64 (bShr .u64 p0 1) 6148914691236517205) (bAnd .u64 p0 6148914691236517205)) 3689348814741910323)) 4) (bAdd .u64 (bAnd .u64 (bShr .u64 (bAdd .u64 (bAnd .u64 (bShr .u64 p0 1) 6148914691236517205) (bAnd .u64 p0 6148914691236517205)) 2) 3689348814741910323) (bAnd .u64 (bAdd .u64 (bAnd .u64 (bShr .u64 p0 1) 6148914691236517205) (bAnd .u64 p0 6148914691236517205)) 3689348814741910323))) 1085102592571150095) (bShr .u64 (bAnd .u64 (bAdd .u64 (bShr .u64 (bAdd .u64 (bAnd .u64 (bShr .u64 (bAdd .u64 (bAnd .u64 (bShr .u64 p0 1) 6148914691236517205) (bAnd .u64 p0 6148914691236517205)) 2) 3689348814741910323) (bAnd .u64 (bAdd .u64 (bAnd .u64 (bShr .u64 p0 1) 6148914691236517205) (bAnd .u64 p0 6148914691236517205)) 3689348814741910323)) 4) (bAdd .u64 (bAnd .u64 (bShr .u64 (bAdd .u64 (bAnd .u64 (bShr .u64 p0 1) 6148914691236517205) (bAnd .u64 p0 6148914691236517205)) 2) 3689348814741910323) (bAnd .u64 (bAdd .u64 (bAnd .u64 (bShr .u64 p0 1) 6148914691236517205) (bAnd .u64 p0 6148914691236517205)) 3689348814741910323))) 1085102592571150095) 8)) (bShr .u64 (bAdd .u64 (bAnd .u64 (bAdd .u64 (bShr .u64 (bAdd .u64 (bAnd .u64 (bShr .u64 (bAdd .u64 (bAnd .u64 (bShr .u64 p0 1) 6148914691236517205) (bAnd .u64 p0 6148914691236517205)) 2) 3689348814741910323) (bAnd .u64 (bAdd .u64 (bAnd .u64 (bShr .u64 p0 1) 6148914691236517205) (bAnd .u64 p0 6148914691236517205)) 3689348814741910323)) 4) (bAdd .u64 (bAnd .u64 (bShr .u64 (bAdd .u64 (bAnd .u64 (bShr .u64 p0 1) 6148914691236517205) (bAnd .u64 p0 6148914691236517205)) 2) 3689348814741910323) (bAnd .u64 (bAdd .u64 (bAnd .u64 (bShr .u64 p0 1) 6148914691236517205) (bAnd .u64 p0 6148914691236517205)) 3689348814741910323))) 1085102592571150095) (bShr .u64 (bAnd .u64 (bAdd .u64 (bShr .u64 (bAdd .u64 (bAnd .u64 (bShr .u64 (bAdd .u64 (bAnd .u64 (bShr .u64 p0 1) 6148914691236517205) (bAnd .u64 p0 6148914691236517205)) 2) 3689348814741910323) (bAnd .u64 (bAdd .u64 (bAnd .u64 (bShr .u64 p0 1) 6148914691236517205) (bAnd .u64 p0 6148914691236517205)) 3689348814741910323)) 4) (bAdd .u64 (bAnd .u64 (bShr .u64 (bAdd .u64 (bAnd .u64 (bShr .u64 p0 1) 6148914691236517205) (bAnd .u64 p0 6148914691236517205)) 2) 3689348814741910323) (bAnd .u64 (bAdd .u64 (bAnd .u64 (bShr .u64 p0 1) 6148914691236517205) (bAnd .u64 p0 6148914691236517205)) 3689348814741910323))) 1085102592571150095) 8)) 16)) (bShr .u64 (bAdd .u64 (bAdd .u64 (bAnd .u64 (bAdd .u64 (bShr .u64 (bAdd .u64 (bAnd .u64 (bShr .u64 (bAdd .u64 (bAnd .u64 (bShr .u64 p0 1) 6148914691236517205) (bAnd .u64 p0 6148914691236517205)) 2) 3689348814741910323) (bAnd .u64 (bAdd .u64 (bAnd .u64 (bShr .u64 p0 1) 6148914691236517205) (bAnd .u64 p0 6148914691236517205)) 3689348814741910323)) 4) (bAdd .u64 (bAnd .u64 (bShr .u64 (bAdd .u64 (bAnd .u64 (bShr .u64 p0 1) 6148914691236517205) (bAnd .u64 p0 6148914691236517205)) 2) 3689348814741910323) (bAnd .u64 (bAdd .u64 (bAnd .u64 (bShr .u64 p0 1) 6148914691236517205) (bAnd .u64 p0 6148914691236517205)) 3689348814741910323))) 1085102592571150095) (bShr .u64 (bAnd .u64 (bAdd .u64 (bShr .u64 (bAdd .u64 (bAnd .u64 (bShr .u64 (bAdd .u64 (bAnd .u64 (bShr .u64 p0 1) 6148914691236517205) (bAnd .u64 p0 6148914691236517205)) 2) 3689348814741910323) (bAnd .u64 (bAdd .u64 (bAnd .u64 (bShr .u64 p0 1) 6148914691236517205) (bAnd .u64 p0 6148914691236517205)) 3689348814741910323)) 4) (bAdd .u64 (bAnd .u64 (bShr .u64 (bAdd .u64 (bAnd .u64 (bShr .u64 p0 1) 6148914691236517205) (bAnd .u64 p0 6148914691236517205)) 2) 3689348814741910323) (bAnd .u64 (bAdd .u64 (bAnd .u64 (bShr .u64 p0 1) 6148914691236517205) (bAnd .u64 p0 6148914691236517205)) 3689348814741910323))) 1085102592571150095) 8)) (bShr .u64 (bAdd .u64 (bAnd .u64 (bAdd .u64 (bShr .u64 (bAdd .u64 (bAnd .u64 (bShr .u64 (bAdd .u64 (bAnd .u64 (bShr .u64 p0 1) 6148914691236517205) (bAnd .u64 p0 6148914691236517205)) 2) 3689348814741910323) (bAnd .u64 (bAdd .u64 (bAnd .u64 (bShr .u64 p0 1) 6148914691236517205) (bAnd .u64 p0 6148914691236517205)) 3689348814741910323)) 4) (bAdd .u64 (bAnd .u64 (bShr .u64 (bAdd .u64 (bAnd .u64 (bShr .u64 p0 1) 6148914691236517205) (bAnd .u64 p0 6148914691236517205)) 2) 3689348814741910323) (bAnd .u64 (bAdd .u64 (bAnd .u64 (bShr .u64 p0 1) 6148914691236517205) (bAnd .u64 p0 6148914691236517205)) 3689348814741910323))) 1085102592571150095) (bShr .u64 (bAnd .u64 (bAdd .u64 (bShr .u64 (bAdd .u64 (bAnd .u64 (bShr .u64 (bAdd .u64 (bAnd .u64 (bShr .u64 p0 1) 6148914691236517205) (bAnd .u64 p0 6148914691236517205)) 2) 3689348814741910323) (bAnd .u64 (bAdd .u64 (bAnd .u64 (bShr .u64 p0 1) 6148914691236517205) (bAnd .u64 p0 6148914691236517205)) 3689348814741910323)) 4) (bAdd .u64 (bAnd .u64 (bShr .u64 (bAdd .u64 (bAnd .u64 (bShr .u64 p0 1) 6148914691236517205) (bAnd .u64 p0 6148914691236517205)) 2) 3689348814741910323) (bAnd .u64 (bAdd .u64 (bAnd .u64 (bShr .u64 p0 1) 6148914691236517205) (bAnd .u64 p0 6148914691236517205)) 3689348814741910323))) 1085102592571150095) 8)) 16)) 32)))), (2, .t (.int .i64 0))], [], []⟩ ?_
  refine Wp.srg [] [] ?_
  refine Runs.alln ?_
  refine Wp.fg ⟨[(2, .t (.int .i64 (bAnd .i64 (IntKind.wrap .i64 (bAdd .u64 (bAdd .u64 (bAdd .u64 (bAnd .u64 (bAdd .u64 (bShr .u64 (bAdd .u64 (bAnd .u64 (bShr .u64 (bAdd .u64 (bAnd .u64 (bShr .u64 p0 1) 6148914691236517205) (bAnd .u64 p0 6148914691236517205)) 2) 3689348814741910323) (bAnd .u64 (bAdd .u64 (bAnd .u64 (bShr .u64 p0 1) 6148914691236517205) (bAnd .u64 p0 6148914691236517205)) 3689348814741910323)) 4) (bAdd .u64 (bAnd .u64 (bShr .u64 (bAdd .u64 (bAnd .u64 (bShr .u64 p0 1) 6148914691236517205) (bAnd .u64 p0 6148914691236517205)) 2) 3689348814741910323) (bAnd .u64 (bAdd .u64 (bAnd .u64 (bShr .u64 p0 1) 6148914691236517205) (bAnd .u64 p0 6148914691236517205)) 3689348814741910323))) 1085102592571150095) (bShr .u64 (bAnd .u64 (bAdd .u64 (bShr .u64 (bAdd .u64 (bAnd .u64 (bShr .u64 (bAdd .u64 (bAnd .u64 (bShr .u64 p0 1) 6148914691236517205) (bAnd .u64 p0 6148914691236517205)) 2) 3689348814741910323) (bAnd .u64 (bAdd .u64 (bAnd .u64 (bShr .u64 p0 1) 6148914691236517205) (bAnd .u64 p0 6148914691236517205)) 3689348814741910323)) 4) (bAdd .u64 (bAnd .u64 (bShr .u64 (bAdd .u64 (bAnd .u64 (bShr .u64 p0 1) 6148914691236517205) (bAnd .u64 p0 6148914691236517205)) 2) 3689348814741910323) (bAnd .u64 (bAdd .u64 (bAnd .u64 (bShr .u64 p0 1) 6148914691236517205) (bAnd .u64 p0 6148914691236517205)) 3689348814741910323))) 1085102592571150095) 8)) (bShr .u64 (bAdd .u64 (bAnd .u64 (bAdd .u64 (bShr .u64 (bAdd .u64 (bAnd .u64 (bShr .u64 (bAdd .u64 (bAnd .u64 (bShr .u64 p0 1) 6148914691236517205) (bAnd .u64 p0 6148914691236517205)) 2) 3689348814741910323) (bAnd .u64 (bAdd .u64 (bAnd .u64 (bShr .u64 p0 1) 6148914691236517205) (bAnd .u64 p0 6148914691236517205)) 3689348814741910323)) 4) (bAdd .u64 (bAnd .u64 (bShr .u64 (bAdd .u64 (bAnd .u64 (bShr .u64 p0 1) 6148914691236517205) (bAnd .u64 p0 6148914691236517205)) 2) 3689348814741910323) (bAnd .u64 (bAdd .u64 (bAnd .u64 (bShr .u64 p0 1) 6148914691236517205) (bAnd .u64 p0 6148914691236517205)) 3689348814741910323))) 1085102592571150095) (bShr .u64 (bAnd .u64 (bAdd .u64 (bShr .u64 (bAdd .u64 (bAnd .u64 (bShr .u64 (bAdd .u64 (bAnd .u64 (bShr .u64 p0 1) 6148914691236517205) (bAnd .u64 p0 6148914691236517205)) 2) 3689348814741910323) (bAnd .u64 (bAdd .u64 (bAnd .u64 (bShr .u64 p0 1) 6148914691236517205) (bAnd .u64 p0 6148914691236517205)) 3689348814741910323)) 4) (bAdd .u64 (bAnd .u64 (bShr .u64 (bAdd .u64 (bAnd .u64 (bShr .u64 p0 1) 6148914691236517205) (bAnd .u64 p0 6148914691236517205)) 2) 3689348814741910323) (bAnd .u64 (bAdd .u64 (bAnd .u64 (bShr .u64 p0 1) 6148914691236517205) (bAnd .u64 p0 6148914691236517205)) 3689348814741910323))) 1085102592571150095) 8)) 16)) (bShr .u64 (bAdd .u64 (bAdd .u64 (bAnd .u64 (bAdd .u64 (bShr .u64 (bAdd .u64 (bAnd .u64 (bShr .u64 (bAdd .u64 (bAnd .u64 (bShr .u64 p0 1) 6148914691236517205) (bAnd .u64 p0 6148914691236517205)) 2) 3689348814741910323) (bAnd .u64 (bAdd .u64 (bAnd .u64 (bShr .u64 p0 1) 6148914691236517205) (bAnd .u64 p0 6148914691236517205)) 3689348814741910323)) 4) (bAdd .u64 (bAnd .u64 (bShr .u64 (bAdd .u64 (bAnd .u64 (bShr .u64 p0 1) 6148914691236517205) (bAnd .u64 p0 6148914691236517205)) 2) 3689348814741910323) (bAnd .u64 (bAdd .u64 (bAnd .u64 (bShr .u64 p0 1) 6148914691236517205) (bAnd .u64 p0 6148914691236517205)) 3689348814741910323))) 1085102592571150095) (bShr .u64 (bAnd .u64 (bAdd .u64 (bShr .u64 (bAdd .u64 (bAnd .u64 (bShr .u64 (bAdd .u64 (bAnd .u64 (bShr .u64 p0 1) 6148914691236517205) (bAnd .u64 p0 6148914691236517205)) 2) 3689348814741910323) (bAnd .u64 (bAdd .u64 (bAnd .u64 (bShr .u64 p0 1) 6148914691236517205) (bAnd .u64 p0 6148914691236517205)) 3689348814741910323)) 4) (bAdd .u64 (bAnd .u64 (bShr .u64 (bAdd .u64 (bAnd .u64 (bShr .u64 p0 1) 6148914691236517205) (bAnd .u64 p0 6148914691236517205)) 2) 3689348814741910323) (bAnd .u64 (bAdd .u64 (bAnd .u64 (bShr .u64 p0 1) 6148914691236517205) (bAnd .u64 p0 6148914691236517205)) 3689348814741910323))) 1085102592571150095) 8)) (bShr .u64 (bAdd .u64 (bAnd .u64 (bAdd .u64 (bShr .u64 (bAdd .u64 (bAnd .u64 (bShr .u64 (bAdd .u64 (bAnd .u64 (bShr .u64 p0 1) 6148914691236517205) (bAnd .u64 p0 6148914691236517205)) 2) 3689348814741910323) (bAnd .u64 (bAdd .u64 (bAnd .u64 (bShr .u64 p0 1) 6148914691236517205) (bAnd .u64 p0 6148914691236517205)) 3689348814741910323)) 4) (bAdd .u64 (bAnd .u64 (bShr .u64 (bAdd .u64 (bAnd .u64 (bShr .u64 p0 1) 6148914691236517205) (bAnd .u64 p0 6148914691236517205)) 2) 3689348814741910323) (bAnd .u64 (bAdd .u64 (bAnd .u64 (bShr .u64 p0 1) 6148914691236517205) (bAnd .u64 p0 6148914691236517205)) 3689348814741910323))) 1085102592571150095) (bShr .u64 (bAnd .u64 (bAdd .u64 (bShr .u64 (bAdd .u64 (bAnd .u64 (bShr .u64 (bAdd .u64 (bAnd .u64 (bShr .u64 p0 1) 6148914691236517205) (bAnd .u64 p0 6148914691236517205)) 2) 3689348814741910323) (bAnd .u64 (bAdd .u64 (bAnd .u64 (bShr .u64 p0 1) 6148914691236517205) (bAnd .u64 p0 6148914691236517205)) 3689348814741910323)) 4) (bAdd .u64 (bAnd .u64 (bShr .u64 (bAdd .u64 (bAnd .u64 (bShr .u64 p0 1) 6148914691236517205) (bAnd .u64 p0 6148914691236517205)) 2) 3689348814741910323) (bAnd .u64 (bAdd .u64 (bAnd .u64 (bShr .u64 p0 1) 6148914691236517205) (bAnd .u64 p0 6148914691236517205)) 3689348814741910323))) 1085102592571150095) 8)) 16)) 32))) 127)))], [], []⟩ ?_
  refine Wp.ret ?_
  obtain rfl := Option.some.inj h
  exact RetK [.t (.int .i64 (bAnd .i64 (IntKind.wrap .i64 (bAdd .u64 (bAdd .u64 (bAdd .u64 (bAnd .u64 (bAdd .u64 (bShr .u64 (bAdd .u64 (bAnd .u64 (bShr .u64 (bAdd .u64 (bAnd .u64 (bShr .u64 p0 1) 6148914691236517205) (bAnd .u64 p0 6148914691236517205)) 2) 3689348814741910323) (bAnd .u64 (bAdd .u64 (bAnd .u64 (bShr .u64 p0 1) 6148914691236517205) (bAnd .u64 p0 6148914691236517205)) 3689348814741910323)) 4) (bAdd .u64 (bAnd .u64 (bShr .u64 (bAdd .u64 (bAnd .u64 (bShr .u64 p0 1) 6148914691236517205) (bAnd .u64 p0 6148914691236517205)) 2) 3689348814741910323) (bAnd .u64 (bAdd .u64 (bAnd .u64 (bShr .u64 p0 1) 6148914691236517205) (bAnd .u64 p0 6148914691236517205)) 3689348814741910323))) 1085102592571150095) (bShr .u64 (bAnd .u64 (bAdd .u64 (bShr .u64 (bAdd .u64 (bAnd .u64 (bShr .u64 (bAdd .u64 (bAnd .u64 (bShr .u64 p0 1) 6148914691236517205) (bAnd .u64 p0 6148914691236517205)) 2) 3689348814741910323) (bAnd .u64 (bAdd .u64 (bAnd .u64 (bShr .u64 p0 1) 6148914691236517205) (bAnd .u64 p0 6148914691236517205)) 3689348814741910323)) 4) (bAdd .u64 (bAnd .u64 (bShr .u64 (bAdd .u64 (bAnd .u64 (bShr .u64 p0 1) 6148914691236517205) (bAnd .u64 p0 6148914691236517205)) 2) 3689348814741910323) (bAnd .u64 (bAdd .u64 (bAnd .u64 (bShr .u64 p0 1) 6148914691236517205) (bAnd .u64 p0 6148914691236517205)) 3689348814741910323))) 1085102592571150095) 8)) (bShr .u64 (bAdd .u64 (bAnd .u64 (bAdd .u64 (bShr .u64 (bAdd .u64 (bAnd .u64 (bShr .u64 (bAdd .u64 (bAnd .u64 (bShr .u64 p0 1) 6148914691236517205) (bAnd .u64 p0 6148914691236517205)) 2) 3689348814741910323) (bAnd .u64 (bAdd .u64 (bAnd .u64 (bShr .u64 p0 1) 6148914691236517205) (bAnd .u64 p0 6148914691236517205)) 3689348814741910323)) 4) (bAdd .u64 (bAnd .u64 (bShr .u64 (bAdd .u64 (bAnd .u64 (bShr .u64 p0 1) 6148914691236517205) (bAnd .u64 p0 6148914691236517205)) 2) 3689348814741910323) (bAnd .u64 (bAdd .u64 (bAnd .u64 (bShr .u64 p0 1) 6148914691236517205) (bAnd .u64 p0 6148914691236517205)) 3689348814741910323))) 1085102592571150095) (bShr .u64 (bAnd .u64 (bAdd .u64 (bShr .u64 (bAdd .u64 (bAnd .u64 (bShr .u64 (bAdd .u64 (bAnd .u64 (bShr .u64 p0 1) 6148914691236517205) (bAnd .u64 p0 6148914691236517205)) 2) 3689348814741910323) (bAnd .u64 (bAdd .u64 (bAnd .u64 (bShr .u64 p0 1) 6148914691236517205) (bAnd .u64 p0 6148914691236517205)) 3689348814741910323)) 4) (bAdd .u64 (bAnd .u64 (bShr .u64 (bAdd .u64 (bAnd .u64 (bShr .u64 p0 1) 6148914691236517205) (bAnd .u64 p0 6148914691236517205)) 2) 3689348814741910323) (bAnd .u64 (bAdd .u64 (bAnd .u64 (bShr .u64 p0 1) 6148914691236517205) (bAnd .u64 p0 6148914691236517205)) 3689348814741910323))) 1085102592571150095) 8)) 16)) (bShr .u64 (bAdd .u64 (bAdd .u64 (bAnd .u64 (bAdd .u64 (bShr .u64 (bAdd .u64 (bAnd .u64 (bShr .u64 (bAdd .u64 (bAnd .u64 (bShr .u64 p0 1) 6148914691236517205) (bAnd .u64 p0 6148914691236517205)) 2) 3689348814741910323) (bAnd .u64 (bAdd .u64 (bAnd .u64 (bShr .u64 p0 1) 6148914691236517205) (bAnd .u64 p0 6148914691236517205)) 3689348814741910323)) 4) (bAdd .u64 (bAnd .u64 (bShr .u64 (bAdd .u64 (bAnd .u64 (bShr .u64 p0 1) 6148914691236517205) (bAnd .u64 p0 6148914691236517205)) 2) 3689348814741910323) (bAnd .u64 (bAdd .u64 (bAnd .u64 (bShr .u64 p0 1) 6148914691236517205) (bAnd .u64 p0 6148914691236517205)) 3689348814741910323))) 1085102592571150095) (bShr .u64 (bAnd .u64 (bAdd .u64 (bShr .u64 (bAdd .u64 (bAnd .u64 (bShr .u64 (bAdd .u64 (bAnd .u64 (bShr .u64 p0 1) 6148914691236517205) (bAnd .u64 p0 6148914691236517205)) 2) 3689348814741910323) (bAnd .u64 (bAdd .u64 (bAnd .u64 (bShr .u64 p0 1) 6148914691236517205) (bAnd .u64 p0 6148914691236517205)) 3689348814741910323)) 4) (bAdd .u64 (bAnd .u64 (bShr .u64 (bAdd .u64 (bAnd .u64 (bShr .u64 p0 1) 6148914691236517205) (bAnd .u64 p0 6148914691236517205)) 2) 3689348814741910323) (bAnd .u64 (bAdd .u64 (bAnd .u64 (bShr .u64 p0 1) 6148914691236517205) (bAnd .u64 p0 6148914691236517205)) 3689348814741910323))) 1085102592571150095) 8)) (bShr .u64 (bAdd .u64 (bAnd .u64 (bAdd .u64 (bShr .u64 (bAdd .u64 (bAnd .u64 (bShr .u64 (bAdd .u64 (bAnd .u64 (bShr .u64 p0 1) 6148914691236517205) (bAnd .u64 p0 6148914691236517205)) 2) 3689348814741910323) (bAnd .u64 (bAdd .u64 (bAnd .u64 (bShr .u64 p0 1) 6148914691236517205) (bAnd .u64 p0 6148914691236517205)) 3689348814741910323)) 4) (bAdd .u64 (bAnd .u64 (bShr .u64 (bAdd .u64 (bAnd .u64 (bShr .u64 p0 1) 6148914691236517205) (bAnd .u64 p0 6148914691236517205)) 2) 3689348814741910323) (bAnd .u64 (bAdd .u64 (bAnd .u64 (bShr .u64 p0 1) 6148914691236517205) (bAnd .u64 p0 6148914691236517205)) 3689348814741910323))) 1085102592571150095) (bShr .u64 (bAnd .u64 (bAdd .u64 (bShr .u64 (bAdd .u64 (bAnd .u64 (bShr .u64 (bAdd .u64 (bAnd .u64 (bShr .u64 p0 1) 6148914691236517205) (bAnd .u64 p0 6148914691236517205)) 2) 3689348814741910323) (bAnd .u64 (bAdd .u64 (bAnd .u64 (bShr .u64 p0 1) 6148914691236517205) (bAnd .u64 p0 6148914691236517205)) 3689348814741910323)) 4) (bAdd .u64 (bAnd .u64 (bShr .u64 (bAdd .u64 (bAnd .u64 (bShr .u64 p0 1) 6148914691236517205) (bAnd .u64 p0 6148914691236517205)) 2) 3689348814741910323) (bAnd .u64 (bAdd .u64 (bAnd .u64 (bShr .u64 p0 1) 6148914691236517205) (bAnd .u64 p0 6148914691236517205)) 3689348814741910323))) 1085102592571150095) 8)) 16)) 32))) 127))] _ [] kr kr (.refl _) .nil
theorem impl_CountSet_ok (u : Nat) (p0 : Int) (r : Int) (h : impl_CountSet u p0 = some r) : CallOK Tryd.prog 28 [.one (.t (.int .i64 p0))] (.one (.t (.int .i64 r))) [] := by
  unfold impl_CountSet at h
  refine CallOK.of_bodyK (fn := Tryd.f28) (m := false) [.t (.int .i64 p0)] kr rfl kr kr kr kr kr ?_
  refine Wp.srg [] [] ?_
  refine Runs.alln ?_
  refine Wp.fg ⟨[(0, .t (.int .i64 p0)), (2, .t (.int .i64 0))], [], []⟩ ?_
  refine Wp.seq ?_
  refine Wp.srg [] [] ?_
  refine Runs.batch 1 kr ?_
  obtain ⟨r1, e_r1, h⟩ := bind_some h
  refine Runs.callK false 4 44 [] [.t (.int .i64 p0)] _ _ _ rfl rfl kr kr kr kr kr (impl_SetOk_ok u p0 r1 e_r1) kr ?_
  refine Runs.alln ?_
  refine Wp.fg ⟨[(0, .t (.int .i64 p0)), (2, .t (.int .i64 0)), (5, .t (.bool (!r1)))], [], []⟩ ?_
  refine Wp.cond2 (b := !r1) kr (fun hc => ?_) (fun hc => ?_)
  · have h := cond_t h hc
    refine Wp.srg [] [] ?_
    refine Runs.alln ?_
    refine Wp.fg ⟨[(0, .t (.int .i64 p0)), (2, .t (.int .i64 0))], [], []⟩ ?_
    refine Wp.ret ?_
    refine thenR ?_
    obtain rfl := Option.some.inj h
    exact RetK [.t (.int .i64 0)] _ [] kr kr (.refl _) .nil
  have h := cond_f h hc
  refine Wp.skip (thenN ?_)
  refine Wp.srg [] [] ?_
  refine Runs.batch 2 kr ?_
  obtain ⟨r2, e_r2, h⟩ := bind_some h
  refine Runs.callK false 8 53 [] [.t (.int .u64 (IntKind.wrap .u64 p0))] _ _ _ rfl rfl kr kr kr kr kr (bits_OnesCount64_ok u (IntKind.wrap .u64 p0) r2 e_r2) kr ?_
  refine Runs.alln ?_
  refine Wp.fg ⟨[(2, .t (.int .i64 r2))], [], []⟩ ?_
  refine Wp.ret ?_
  obtain rfl := Option.some.inj h
  exact RetK [.t (.int .i64 r2)] _ [] kr kr (.refl _) .nil
theorem impl_MsgText_ok (u : Nat) (p0 : Msg) (r : ByteArray) (h : impl_MsgText u p0 = some r) : CallOK Tryd.prog 15 [.agg [.t (.int .i64 p0.fKind), .t (.int .i64 p0.fGen), .t (.int .i64 p0.fMan.fGen), .t (.int .i64 p0.fMan.fSize), .t (.int .i64 p0.fMan.fLen), .t (.sl 2 (p0.fMan.fSums.map Sum.enc)), .t (.int .i64 p0.fWant), .t (.int .i64 p0.fDone), .t (.int .i64 p0.fI), .t (.sl 1 (p0.fB.map (eInt .u8)))]] (.one (.t (.str r))) [] := by
  unfold impl_MsgText at h
  refine CallOK.of_bodyK (fn := Tryd.f15) (m := false) [.agg ((Msg.enc p0).map .t)] kr rfl kr kr kr kr kr ?_
  refine Wp.srg [] [] ?_
  refine Runs.alln ?_
  refine Wp.fg ⟨[(1, .obj 1 0), (2, .t (.str ((ByteArray.mk #[]))))], [(1, ((Msg.enc p0).map .t))], []⟩ ?_
  refine Wp.seq ?_
  refine Wp.srg [] [] ?_
  refine Runs.batch 1 kr ?_
  obtain ⟨r1, e_r1, h⟩ := bind_some h
  refine Runs.callK false 4 25 [] [.agg ((Msg.enc p0).map .t)] _ _ _ rfl rfl kr kr kr kr kr (impl_MsgOk_ok u p0 r1 e_r1) kr ?_
  refine Runs.alln ?_
  refine Wp.fg ⟨[(1, .obj 1 0), (2, .t (.str ((ByteArray.mk #[])))), (5, .t (.bool (!r1)))], [(1, ((Msg.enc p0).map .t))], []⟩ ?_
  refine Wp.cond2 (b := !r1) kr (fun hc => ?_) (fun hc => ?_)
  · have h := cond_t h hc
    refine Wp.srg [] [] ?_
    refine Runs.alln ?_
    refine Wp.fg ⟨[(1, .obj 1 0), (2, .t (.str ((ByteArray.mk #[]))))], [(1, ((Msg.enc p0).map .t))], []⟩ ?_
    refine Wp.ret ?_
    refine thenR ?_
    obtain rfl := Option.some.inj h
    exact RetK [.t (.str ((ByteArray.mk #[])))] _ [] kr kr (.refl _) .nil
  have h := cond_f h hc
  refine Wp.skip (thenN ?_)
  refine Wp.seq ?_
  refine Wp.srg [] [] ?_
  refine Runs.alln ?_
  refine Wp.fg ⟨[(1, .obj 1 0), (2, .t (.str ((ByteArray.mk #[])))), (7, .t (.int .i64 p0.fKind))], [(1, ((Msg.enc p0).map .t))], []⟩ ?_
  refine Wp.block ?_
  refine Wp.srg [] [] ?_
  refine Runs.alln ?_
  refine Wp.fg ⟨[(1, .obj 1 0), (2, .t (.str ((ByteArray.mk #[])))), (7, .t (.int .i64 p0.fKind)), (8, .t (.bool (p0.fKind == 1)))], [(1, ((Msg.enc p0).map .t))], []⟩ ?_
  refine Wp.cond2 (b := p0.fKind == 1) kr (fun hc => ?_) (fun hc => ?_)
  · have h := cond_t h hc
    refine Wp.srg [] [] ?_
    refine Runs.batch 3 kr ?_
    obtain ⟨r2, e_r2, h⟩ := bind_some h
    refine Runs.callK false 13 16 [] [.t (.int .i64 p0.fMan.fGen)] _ _ _ rfl rfl kr kr kr kr kr (impl_NumText_ok u p0.fMan.fGen r2 e_r2) kr ?_
    obtain ⟨_, e_3, h⟩ := bind_some h
    refine Runs.cat ((ByteArray.mk #[109, 97, 110, 32])) r2 rfl kr kr kr kr (of_decide_eq_true (chk_some e_3)) ?_
    refine Runs.alln ?_
    refine Wp.fg ⟨[(1, .obj 1 0), (2, .t (.str (((ByteArray.mk #[109, 97, 110, 32])) ++ r2)))], [(1, ((Msg.enc p0).map .t))], []⟩ ?_
    refine Wp.ret ?_
    refine blkR ?_
    refine thenR ?_
    obtain rfl := Option.some.inj h
    exact RetK [.t (.str (((ByteArray.mk #[109, 97, 110, 32])) ++ r2))] _ [] kr kr (.refl _) .nil
  have h := cond_f h hc
  refine Wp.srg [] [] ?_
  refine Runs.alln ?_
  refine Wp.fg ⟨[(1, .obj 1 0), (2, .t (.str ((ByteArray.mk #[])))), (7, .t (.int .i64 p0.fKind)), (15, .t (.bool (p0.fKind == 2)))], [(1, ((Msg.enc p0).map .t))], []⟩ ?_
  refine Wp.cond2 (b := p0.fKind == 2) kr (fun hc => ?_) (fun hc => ?_)
  · have h := cond_t h hc
    refine Wp.seq ?_
    refine Wp.regionA (pOf []) (rhoOf [(1, .obj 1), (17, .obj 1), (18, .frz), (19, .frz), (20, .frz), (21, .frz), (22, .obj 1), (23, .frz), (24, .frz), (25, .frz), (26, .frz), (27, .frz), (28, .obj 1), (29, .frz), (30, .frz), (31, .frz), (32, .frz)]) kr kr ?_
    refine Runs.batch 2 kr ?_
    obtain ⟨r4, e_r4, h⟩ := bind_some h
    refine Runs.callK false 19 16 [] [.t (.int .i64 p0.fGen)] _ _ _ rfl rfl kr kr kr kr kr (impl_NumText_ok u p0.fGen r4 e_r4) kr ?_
    obtain ⟨_, e_5, h⟩ := bind_some h
    refine Runs.cat ((ByteArray.mk #[119, 97, 110, 116, 32])) r4 rfl kr kr kr kr (of_decide_eq_true (chk_some e_5)) ?_
    obtain ⟨_, e_6, h⟩ := bind_some h
    refine Runs.cat (((ByteArray.mk #[119, 97, 110, 116, 32])) ++ r4) ((ByteArray.mk #[32])) rfl kr kr kr kr (of_decide_eq_true (chk_some e_6)) ?_
    refine Runs.batch 2 kr ?_
    obtain ⟨r7, e_r7, h⟩ := bind_some h
    refine Runs.callK false 24 28 [] [.t (.int .i64 p0.fWant)] _ _ _ rfl rfl kr kr kr kr kr (impl_CountSet_ok u p0.fWant r7 e_r7) kr ?_
    obtain ⟨r8, e_r8, h⟩ := bind_some h
    refine Runs.callK false 25 16 [] [.t (.int .i64 r7)] _ _ _ rfl rfl kr kr kr kr kr (impl_NumText_ok u r7 r8 e_r8) kr ?_
    obtain ⟨_, e_9, h⟩ := bind_some h
    refine Runs.cat ((((ByteArray.mk #[119, 97, 110, 116, 32])) ++ r4) ++ ((ByteArray.mk #[32]))) r8 rfl kr kr kr kr (of_decide_eq_true (chk_some e_9)) ?_
    obtain ⟨_, e_10, h⟩ := bind_some h
    refine Runs.cat (((((ByteArray.mk #[119, 97, 110, 116, 32])) ++ r4) ++ ((ByteArray.mk #[32]))) ++ r8) ((ByteArray.mk #[32])) rfl kr kr kr kr (of_decide_eq_true (chk_some e_10)) ?_
    refine Runs.batch 2 kr ?_
    obtain ⟨r11, e_r11, h⟩ := bind_some h
    refine Runs.callK false 30 28 [] [.t (.int .i64 p0.fDone)] _ _ _ rfl rfl kr kr kr kr kr (impl_CountSet_ok u p0.fDone r11 e_r11) kr ?_
    obtain ⟨r12, e_r12, h⟩ := bind_some h
    refine Runs.callK false 31 16 [] [.t (.int .i64 r11)] _ _ _ rfl rfl kr kr kr kr kr (impl_NumText_ok u r11 r12 e_r12) kr ?_
    obtain ⟨_, e_13, h⟩ := bind_some h
    refine Runs.cat ((((((ByteArray.mk #[119, 97, 110, 116, 32])) ++ r4) ++ ((ByteArray.mk #[32]))) ++ r8) ++ ((ByteArray.mk #[32]))) r12 rfl kr kr kr kr (of_decide_eq_true (chk_some e_13)) ?_
    refine Runs.alln ?_
    refine Wp.fg ⟨[(1, .obj 1 0), (2, .t (.str (((((((ByteArray.mk #[119, 97, 110, 116, 32])) ++ r4) ++ ((ByteArray.mk #[32]))) ++ r8) ++ ((ByteArray.mk #[32]))) ++ r12)))], [(1, ((Msg.enc p0).map .t))], []⟩ ?_
    refine Wp.ret ?_
    refine blkR ?_
    refine thenR ?_
    obtain rfl := Option.some.inj h
    exact RetK [.t (.str (((((((ByteArray.mk #[119, 97, 110, 116, 32])) ++ r4) ++ ((ByteArray.mk #[32]))) ++ r8) ++ ((ByteArray.mk #[32]))) ++ r12))] _ [] kr kr (.refl _) .nil
  have h := cond_f h hc
  refine Wp.srg [] [] ?_
  refine Runs.alln ?_
  refine Wp.fg ⟨[(1, .obj 1 0), (2, .t (.str ((ByteArray.mk #[])))), (33, .t (.bool (p0.fKind == 3)))], [(1, ((Msg.enc p0).map .t))], []⟩ ?_
  refine Wp.cond2 (b := p0.fKind == 3) kr (fun hc => ?_) (fun hc => ?_)
  · have h := cond_t h hc
    refine Wp.seq ?_
    refine Wp.regionA (pOf []) (rhoOf [(1, .obj 1), (35, .obj 1), (36, .frz), (37, .frz), (38, .frz), (39, .frz), (40, .obj 1), (41, .frz), (42, .frz), (43, .frz)]) kr kr ?_
    refine Runs.batch 2 kr ?_
    obtain ⟨r14, e_r14, h⟩ := bind_some h
    refine Runs.callK false 37 16 [] [.t (.int .i64 p0.fGen)] _ _ _ rfl rfl kr kr kr kr kr (impl_NumText_ok u p0.fGen r14 e_r14) kr ?_
    obtain ⟨_, e_15, h⟩ := bind_some h
    refine Runs.cat ((ByteArray.mk #[112, 97, 114, 116, 32])) r14 rfl kr kr kr kr (of_decide_eq_true (chk_some e_15)) ?_
    obtain ⟨_, e_16, h⟩ := bind_some h
    refine Runs.cat (((ByteArray.mk #[112, 97, 114, 116, 32])) ++ r14) ((ByteArray.mk #[32])) rfl kr kr kr kr (of_decide_eq_true (chk_some e_16)) ?_
    refine Runs.batch 2 kr ?_
    obtain ⟨r17, e_r17, h⟩ := bind_some h
    refine Runs.callK false 42 16 [] [.t (.int .i64 p0.fI)] _ _ _ rfl rfl kr kr kr kr kr (impl_NumText_ok u p0.fI r17 e_r17) kr ?_
    obtain ⟨_, e_18, h⟩ := bind_some h
    refine Runs.cat ((((ByteArray.mk #[112, 97, 114, 116, 32])) ++ r14) ++ ((ByteArray.mk #[32]))) r17 rfl kr kr kr kr (of_decide_eq_true (chk_some e_18)) ?_
    refine Runs.alln ?_
    refine Wp.fg ⟨[(1, .obj 1 0), (2, .t (.str (((((ByteArray.mk #[112, 97, 114, 116, 32])) ++ r14) ++ ((ByteArray.mk #[32]))) ++ r17)))], [(1, ((Msg.enc p0).map .t))], []⟩ ?_
    refine Wp.ret ?_
    refine blkR ?_
    refine thenR ?_
    obtain rfl := Option.some.inj h
    exact RetK [.t (.str (((((ByteArray.mk #[112, 97, 114, 116, 32])) ++ r14) ++ ((ByteArray.mk #[32]))) ++ r17))] _ [] kr kr (.refl _) .nil
  have h := cond_f h hc
  refine Wp.skip ?_
  refine blkN ?_
  refine thenN ?_
  refine Wp.srg [] [] ?_
  refine Runs.batch 2 kr ?_
  obtain ⟨r19, e_r19, h⟩ := bind_some h
  refine Runs.callK false 46 16 [] [.t (.int .i64 p0.fGen)] _ _ _ rfl rfl kr kr kr kr kr (impl_NumText_ok u p0.fGen r19 e_r19) kr ?_
  obtain ⟨_, e_20, h⟩ := bind_some h
  refine Runs.cat ((ByteArray.mk #[98, 101, 97, 116, 32])) r19 rfl kr kr kr kr (of_decide_eq_true (chk_some e_20)) ?_
  refine Runs.alln ?_
  refine Wp.fg ⟨[(2, .t (.str (((ByteArray.mk #[98, 101, 97, 116, 32])) ++ r19)))], [], []⟩ ?_
  refine Wp.ret ?_
  obtain rfl := Option.some.inj h
  exact RetK [.t (.str (((ByteArray.mk #[98, 101, 97, 116, 32])) ++ r19))] _ [] kr kr (.refl _) .nil
theorem impl_PacketText_ok (u : Nat) (p0 : Packet) (r : ByteArray) (h : impl_PacketText u p0 = some r) : CallOK Tryd.prog 7 [.agg [.t (.int .i64 p0.fFrom), .t (.int .i64 p0.fTo), .t (.sl 1 (p0.fB.map (eInt .u8)))]] (.one (.t (.str r))) [] := by
  unfold impl_PacketText at h
  refine CallOK.of_bodyK (fn := Tryd.f7) (m := false) [.agg ((Packet.enc p0).map .t)] kr rfl kr kr kr kr kr ?_
  refine Wp.srg [] [] ?_
  refine Runs.alln ?_
  refine Wp.fg ⟨[(1, .obj 1 0), (2, .t (.str ((ByteArray.mk #[]))))], [(1, ((Packet.enc p0).map .t))], []⟩ ?_
  refine Wp.srg [] [] ?_
  refine Runs.alln ?_
  refine Wp.fg ⟨[(1, .obj 1 0), (2, .t (.str ((ByteArray.mk #[])))), (3, .t (.str ((ByteArray.mk #[63]))))], [(1, ((Packet.enc p0).map .t))], []⟩ ?_
  refine Wp.seqJ (α := ByteArray × Packet) (fun a => ⟨[(1, .obj 1 0), (2, .t (.str ((ByteArray.mk #[])))), (3, .t (.str a.1))], [(1, ((Packet.enc a.2).map .t))], []⟩) (fun a => impl_PacketText_j1 u a.1 a.2 = some r) ?_ ?_
  · rintro ⟨x3, p0⟩ h
    change impl_PacketText_j1 u x3 p0 = some r at h
    unfold impl_PacketText_j1 at h
    refine Wp.seq ?_
    refine Wp.regionA (pOf []) (rhoOf [(1, .obj 1), (3, .frz), (15, .obj 1), (16, .frz), (17, .frz), (18, .frz), (19, .obj 1), (20, .frz), (21, .frz), (22, .frz), (23, .frz), (24, .frz), (25, .frz)]) kr kr ?_
    refine Runs.batch 2 kr ?_
    obtain ⟨r4, e_r4, h⟩ := bind_some h
    refine Runs.callK false 17 16 [] [.t (.int .i64 p0.fFrom)] _ _ _ rfl rfl kr kr kr kr kr (impl_NumText_ok u p0.fFrom r4 e_r4) kr ?_
    obtain ⟨_, e_5, h⟩ := bind_some h
    refine Runs.cat r4 ((ByteArray.mk #[62])) rfl kr kr kr kr (of_decide_eq_true (chk_some e_5)) ?_
    refine Runs.batch 2 kr ?_
    obtain ⟨r6, e_r6, h⟩ := bind_some h
    refine Runs.callK false 21 16 [] [.t (.int .i64 p0.fTo)] _ _ _ rfl rfl kr kr kr kr kr (impl_NumText_ok u p0.fTo r6 e_r6) kr ?_
    obtain ⟨_, e_7, h⟩ := bind_some h
    refine Runs.cat (r4 ++ ((ByteArray.mk #[62]))) r6 rfl kr kr kr kr (of_decide_eq_true (chk_some e_7)) ?_
    obtain ⟨_, e_8, h⟩ := bind_some h
    refine Runs.cat ((r4 ++ ((ByteArray.mk #[62]))) ++ r6) ((ByteArray.mk #[32])) rfl kr kr kr kr (of_decide_eq_true (chk_some e_8)) ?_
    refine Runs.batch 1 kr ?_
    obtain ⟨_, e_9, h⟩ := bind_some h
    refine Runs.cat (((r4 ++ ((ByteArray.mk #[62]))) ++ r6) ++ ((ByteArray.mk #[32]))) x3 rfl kr kr kr kr (of_decide_eq_true (chk_some e_9)) ?_
    refine Runs.alln ?_
    refine Wp.fg ⟨[(2, .t (.str ((((r4 ++ ((ByteArray.mk #[62]))) ++ r6) ++ ((ByteArray.mk #[32]))) ++ x3)))], [], []⟩ ?_
    refine Wp.ret ?_
    obtain rfl := Option.some.inj h
    exact RetK [.t (.str ((((r4 ++ ((ByteArray.mk #[62]))) ++ r6) ++ ((ByteArray.mk #[32]))) ++ x3))] _ [] kr kr (.refl _) .nil
  · refine Wp.srg [] [] ?_
    refine Runs.batch 2 kr ?_
    obtain ⟨r1, e_r1, h⟩ := bind_some h
    refine Runs.callK false 9 14 [] [.t (.sl 1 (p0.fB.map (eInt .u8)))] _ _ _ rfl rfl kr kr kr kr kr (impl_GetMsg_ok u p0.fB r1 e_r1) kr ?_
    refine Runs.alln ?_
    refine Wp.fg ⟨[(1, .obj 1 0), (2, .t (.str ((ByteArray.mk #[])))), (3, .t (.str ((ByteArray.mk #[63])))), (4, .obj 4 0), (5, .t (.bool r1.2))], [(1, ((Packet.enc p0).map .t)), (4, ((Msg.enc r1.1).map .t))], []⟩ ?_
    refine Wp.srg [] [] ?_
    refine Runs.alln ?_
    refine Wp.fg ⟨[(1, .obj 1 0), (2, .t (.str ((ByteArray.mk #[])))), (3, .t (.str ((ByteArray.mk #[63])))), (4, .obj 4 0), (12, .t (.bool r1.2))], [(1, ((Packet.enc p0).map .t)), (4, ((Msg.enc r1.1).map .t))], []⟩ ?_
    refine Wp.cond2 (b := r1.2) kr (fun hc => ?_) (fun hc => ?_)
    · have h := cond_t h hc
      refine Wp.rg [] [] ?_
      refine Runs.batch 1 kr ?_
      obtain ⟨r2, e_r2, h⟩ := bind_some h
      refine Runs.callK false 14 15 [] [.agg ((Msg.enc r1.1).map .t)] _ _ _ rfl rfl kr kr kr kr kr (impl_MsgText_ok u r1.1 r2 e_r2) kr ?_
      refine Runs.alln ?_
      exact ⟨(r2, p0), h, Le.of (mo := []) (mr := []) kr kr kr kr⟩
    have h := cond_f h hc
    refine Wp.skip (thenN ?_)
    exact ⟨((ByteArray.mk #[63]), p0), h, Le.of (mo := []) (mr := []) kr kr kr kr⟩
theorem laws_eqByteS_ok (u : Nat) (p0 : List Int) (p1 : List Int) (r : Bool) (h : laws_eqByteS u p0 p1 = some r) : CallOK Tryd.prog 17 [.one (.t (.sl 1 (p0.map (eInt .u8)))), .one (.t (.sl 1 (p1.map (eInt .u8))))] (.one (.t (.bool r))) [] := by
  unfold laws_eqByteS at h
  refine CallOK.of_bodyK (fn := Tryd.f17) (m := false) [.t (.sl 1 (p0.map (eInt .u8))), .t (.sl 1 (p1.map (eInt .u8)))] kr rfl kr kr kr kr kr ?_
  refine Wp.srg [] [] ?_
  refine Runs.alln ?_
  refine Wp.fg ⟨[(0, .t (.sl 1 (p0.map (eInt .u8)))), (1, .t (.sl 1 (p1.map (eInt .u8)))), (4, .t (.bool false))], [], []⟩ ?_
  refine Wp.seq ?_
  refine Wp.srg [] [] ?_
  refine Runs.batch 1 kr ?_
  refine Runs.lenT (y := .t (.sl 1 (p0.map (eInt .u8)))) (e := 5) (eInt .u8) p0 1 rfl rfl rfl kr kr kr kr kr ?_
  refine Runs.batch 1 kr ?_
  refine Runs.lenT (y := .t (.sl 1 (p1.map (eInt .u8)))) (e := 5) (eInt .u8) p1 1 rfl rfl rfl kr kr kr kr kr ?_
  refine Runs.alln ?_
  refine Wp.fg ⟨[(0, .t (.sl 1 (p0.map (eInt .u8)))), (1, .t (.sl 1 (p1.map (eInt .u8)))), (4, .t (.bool false)), (10, .t (.bool (((p0.length : Int)) != ((p1.length : Int)))))], [], []⟩ ?_
  refine Wp.cond2 (b := ((p0.length : Int)) != ((p1.length : Int))) kr (fun hc => ?_) (fun hc => ?_)
  · have h := cond_t h hc
    refine Wp.srg [] [] ?_
    refine Runs.alln ?_
    refine Wp.fg ⟨[(0, .t (.sl 1 (p0.map (eInt .u8)))), (1, .t (.sl 1 (p1.map (eInt .u8)))), (4, .t (.bool false))], [], []⟩ ?_
    refine Wp.ret ?_
    refine thenR ?_
    obtain rfl := Option.some.inj h
    exact RetK [.t (.bool false)] _ [] kr kr (.refl _) .nil
  have h := cond_f h hc
  refine Wp.skip (thenN ?_)
  refine Wp.seqJ (α := Unit) (fun a => ⟨[(4, .t (.bool false))], [], []⟩) (fun a => laws_eqByteS_j1 u = some r) ?_ ?_
  · rintro ⟨⟩ h
    change laws_eqByteS_j1 u = some r at h
    unfold laws_eqByteS_j1 at h
    refine Wp.srg [] [] ?_
    refine Runs.alln ?_
    refine Wp.fg ⟨[(4, .t (.bool true))], [], []⟩ ?_
    refine Wp.ret ?_
    obtain rfl := Option.some.inj h
    exact RetK [.t (.bool true)] _ [] kr kr (.refl _) .nil
  · refine Wp.srg [] [] ?_
    refine Runs.alln ?_
    refine Wp.fg ⟨[(0, .t (.sl 1 (p0.map (eInt .u8)))), (1, .t (.sl 1 (p1.map (eInt .u8)))), (4, .t (.bool false)), (5, .t (.int .i64 0))], [], []⟩ ?_
    refine Wp.block ?_
    refine Wp.loopF (α := (List Int) × (List Int) × Int) (fun a => ⟨[(0, .t (.sl 1 (a.1.map (eInt .u8)))), (1, .t (.sl 1 (a.2.1.map (eInt .u8)))), (4, .t (.bool false)), (5, .t (.int .i64 a.2.2))], [], []⟩) (fun k_laws_eqByteS_l2 a => laws_eqByteS_l2 u k_laws_eqByteS_l2 a.1 a.2.1 a.2.2 = some r) ?_ ?_ u (p0, p1, 0) h (Le.of (mo := []) (mr := []) kr kr kr kr)
    · intro a h; unfold laws_eqByteS_l2 at h; cases h
    · rintro k_laws_eqByteS_l2 ⟨p0, p1, x2⟩ h
      change laws_eqByteS_l2 u (k_laws_eqByteS_l2 + 1) p0 p1 x2 = some r at h
      rw [laws_eqByteS_l2] at h
      refine Wp.seq ?_
      refine Wp.srg [] [] ?_
      refine Runs.batch 2 kr ?_
      refine Runs.lenT (y := .t (.sl 1 (p0.map (eInt .u8)))) (e := 5) (eInt .u8) p0 1 rfl rfl rfl kr kr kr kr kr ?_
      refine Runs.alln ?_
      refine Wp.fg ⟨[(0, .t (.sl 1 (p0.map (eInt .u8)))), (1, .t (.sl 1 (p1.map (eInt .u8)))), (4, .t (.bool false)), (5, .t (.int .i64 x2)), (14, .t (.bool (decide (x2 < ((p0.length : Int))))))], [], []⟩ ?_
      refine Wp.cond2 (b := decide (x2 < ((p0.length : Int)))) kr (fun hc => ?_) (fun hc => ?_)
      · have h := cond_t h hc
        refine Wp.skip (thenN ?_)
        refine Wp.seq ?_
        refine Wp.block ?_
        refine Wp.seq ?_
        refine Wp.regionA (pOf []) (rhoOf [(0, .frz), (1, .frz), (5, .frz), (17, .frz), (18, .frz), (19, .frz), (20, .frz), (21, .frz), (22, .frz), (23, .frz), (24, .frz)]) kr kr ?_
        refine Runs.batch 2 kr ?_
        obtain ⟨y4, e_y4, h⟩ := bind_some h
        refine Runs.idxT (e := 5) (kk := .i64) (sz := 1) (eInt .u8) p0 x2 rfl kr kr kr kr kr kr e_y4 ?_
        refine Runs.batch 3 kr ?_
        obtain ⟨y5, e_y5, h⟩ := bind_some h
        refine Runs.idxT (e := 5) (kk := .i64) (sz := 1) (eInt .u8) p1 x2 rfl kr kr kr kr kr kr e_y5 ?_
        refine Runs.alln ?_
        refine Wp.fg ⟨[(0, .t (.sl 1 (p0.map (eInt .u8)))), (1, .t (.sl 1 (p1.map (eInt .u8)))), (4, .t (.bool false)), (5, .t (.int .i64 x2)), (25, .t (.bool (y4 != y5)))], [], []⟩ ?_
        refine Wp.cond2 (b := y4 != y5) kr (fun hc => ?_) (fun hc => ?_)
        · have h := cond_t h hc
          refine Wp.srg [] [] ?_
          refine Runs.alln ?_
          refine Wp.fg ⟨[(0, .t (.sl 1 (p0.map (eInt .u8)))), (1, .t (.sl 1 (p1.map (eInt .u8)))), (4, .t (.bool false)), (5, .t (.int .i64 x2))], [], []⟩ ?_
          refine Wp.ret ?_
          refine blkR ?_
          refine thenR ?_
          refine thenR ?_
          refine blkR ?_
          refine thenR ?_
          obtain rfl := Option.some.inj h
          exact RetK [.t (.bool false)] _ [] kr kr (.refl _) .nil
        have h := cond_f h hc
        refine Wp.skip ?_
        refine blkN ?_
        refine thenN ?_
        refine Wp.rg [] [] ?_
        refine Runs.alln ?_
        exact ⟨(p0, p1, bAdd .i64 x2 1), h, Le.of (mo := []) (mr := []) kr kr kr kr⟩
      have h := cond_f h hc
      refine Wp.exit ?_
      refine thenE ?_
      refine thenE ?_
      refine blkE ?_
      refine thenN ?_
      exact ⟨(), h, Le.of (mo := []) (mr := []) kr kr kr kr⟩
theorem laws_eqPacket_ok (u : Nat) (p0 : Packet) (p1 : Packet) (r : Bool) (h : laws_eqPacket u p0 p1 = some r) : CallOK Tryd.prog 8 [.agg [.t (.int .i64 p0.fFrom), .t (.int .i64 p0.fTo), .t (.sl 1 (p0.fB.map (eInt .u8)))], .agg [.t (.int .i64 p1.fFrom), .t (.int .i64 p1.fTo), .t (.sl 1 (p1.fB.map (eInt .u8)))]] (.one (.t (.bool r))) [] := by
  unfold laws_eqPacket at h
  refine CallOK.of_bodyK (fn := Tryd.f8) (m := false) [.agg ((Packet.enc p0).map .t), .agg ((Packet.enc p1).map .t)] kr rfl kr kr kr kr kr ?_
  refine Wp.srg [] [] ?_
  refine Runs.alln ?_
  refine Wp.fg ⟨[(2, .obj 2 0), (3, .obj 3 0), (4, .t (.bool false))], [(2, ((Packet.enc p0).map .t)), (3, ((Packet.enc p1).map .t))], []⟩ ?_
  refine Wp.seq ?_
  refine Wp.srg [] [] ?_
  refine Runs.alln ?_
  refine Wp.fg ⟨[(2, .obj 2 0), (3, .obj 3 0), (4, .t (.bool false)), (9, .t (.bool (p0.fFrom != p1.fFrom)))], [(2, ((Packet.enc p0).map .t)), (3, ((Packet.enc p1).map .t))], []⟩ ?_
  refine Wp.cond2 (b := p0.fFrom != p1.fFrom) kr (fun hc => ?_) (fun hc => ?_)
  · have h := cond_t h hc
    refine Wp.srg [] [] ?_
    refine Runs.alln ?_
    refine Wp.fg ⟨[(2, .obj 2 0), (3, .obj 3 0), (4, .t (.bool false))], [(2, ((Packet.enc p0).map .t)), (3, ((Packet.enc p1).map .t))], []⟩ ?_
    refine Wp.ret ?_
    refine thenR ?_
    obtain rfl := Option.some.inj h
    exact RetK [.t (.bool false)] _ [] kr kr (.refl _) .nil
  have h := cond_f h hc
  refine Wp.skip (thenN ?_)
  refine Wp.seq ?_
  refine Wp.srg [] [] ?_
  refine Runs.alln ?_
  refine Wp.fg ⟨[(2, .obj 2 0), (3, .obj 3 0), (4, .t (.bool false)), (14, .t (.bool (p0.fTo != p1.fTo)))], [(2, ((Packet.enc p0).map .t)), (3, ((Packet.enc p1).map .t))], []⟩ ?_
  refine Wp.cond2 (b := p0.fTo != p1.fTo) kr (fun hc => ?_) (fun hc => ?_)
  · have h := cond_t h hc
    refine Wp.srg [] [] ?_
    refine Runs.alln ?_
    refine Wp.fg ⟨[(2, .obj 2 0), (3, .obj 3 0), (4, .t (.bool false))], [(2, ((Packet.enc p0).map .t)), (3, ((Packet.enc p1).map .t))], []⟩ ?_
    refine Wp.ret ?_
    refine thenR ?_
    obtain rfl := Option.some.inj h
    exact RetK [.t (.bool false)] _ [] kr kr (.refl _) .nil
  have h := cond_f h hc
  refine Wp.skip (thenN ?_)
  refine Wp.seq ?_
  refine Wp.srg [] [] ?_
  refine Runs.batch 4 kr ?_
  obtain ⟨r1, e_r1, h⟩ := bind_some h
  refine Runs.callK false 19 17 [] [.t (.sl 1 (p0.fB.map (eInt .u8))), .t (.sl 1 (p1.fB.map (eInt .u8)))] _ _ _ rfl rfl kr kr kr kr kr (laws_eqByteS_ok u p0.fB p1.fB r1 e_r1) kr ?_
  refine Runs.alln ?_
  refine Wp.fg ⟨[(4, .t (.bool false)), (20, .t (.bool (!r1)))], [], []⟩ ?_
  refine Wp.cond2 (b := !r1) kr (fun hc => ?_) (fun hc => ?_)
  · have h := cond_t h hc
    refine Wp.srg [] [] ?_
    refine Runs.alln ?_
    refine Wp.fg ⟨[(4, .t (.bool false))], [], []⟩ ?_
    refine Wp.ret ?_
    refine thenR ?_
    obtain rfl := Option.some.inj h
    exact RetK [.t (.bool false)] _ [] kr kr (.refl _) .nil
  have h := cond_f h hc
  refine Wp.skip (thenN ?_)
  refine Wp.srg [] [] ?_
  refine Runs.alln ?_
  refine Wp.fg ⟨[(4, .t (.bool true))], [], []⟩ ?_
  refine Wp.ret ?_
  obtain rfl := Option.some.inj h
  exact RetK [.t (.bool true)] _ [] kr kr (.refl _) .nil
theorem laws_FnExactPacketText_ok (u : Nat) (p0 : Packet) (r : Bool) (h : laws_FnExactPacketText u p0 = some r) : CallOK Tryd.prog 3 [.agg [.t (.int .i64 p0.fFrom), .t (.int .i64 p0.fTo), .t (.sl 1 (p0.fB.map (eInt .u8)))]] (.one (.t (.bool r))) [] := by
  unfold laws_FnExactPacketText at h
  refine CallOK.of_bodyK (fn := Tryd.f3) (m := false) [.agg ((Packet.enc p0).map .t)] kr rfl kr kr kr kr kr ?_
  refine Wp.srg [] [] ?_
  refine Runs.alln ?_
  refine Wp.fg ⟨[(1, .obj 1 0), (2, .t (.bool false))], [(1, ((Packet.enc p0).map .t))], []⟩ ?_
  refine Wp.srg [] [] ?_
  refine Runs.alln ?_
  refine Wp.fg ⟨[(1, .obj 1 0), (2, .t (.bool false)), (3, .t (.int .i64 1048576))], [(1, ((Packet.enc p0).map .t))], []⟩ ?_
  refine Wp.srg [] [] ?_
  refine Runs.batch 2 kr ?_
  obtain ⟨r1, e_r1, h⟩ := bind_some h
  refine Runs.callK false 9 4 [] [.agg ((Packet.enc p0).map .t), .t (.int .i64 1048576)] _ _ _ rfl rfl kr kr kr kr kr (laws_szPacket_ok u p0 1048576 r1 e_r1) kr ?_
  refine Runs.alln ?_
  refine Wp.fg ⟨[(1, .obj 1 0), (2, .t (.bool false)), (3, .t (.int .i64 r1))], [(1, ((Packet.enc p0).map .t))], []⟩ ?_
  refine Wp.seq ?_
  refine Wp.srg [] [] ?_
  refine Runs.alln ?_
  refine Wp.fg ⟨[(1, .obj 1 0), (2, .t (.bool false)), (11, .t (.bool (decide (r1 < 0))))], [(1, ((Packet.enc p0).map .t))], []⟩ ?_
  refine Wp.cond2 (b := decide (r1 < 0)) kr (fun hc => ?_) (fun hc => ?_)
  · have h := cond_t h hc
    refine Wp.srg [] [] ?_
    refine Runs.alln ?_
    refine Wp.fg ⟨[(1, .obj 1 0), (2, .t (.bool true))], [(1, ((Packet.enc p0).map .t))], []⟩ ?_
    refine Wp.ret ?_
    refine thenR ?_
    obtain rfl := Option.some.inj h
    exact RetK [.t (.bool true)] _ [] kr kr (.refl _) .nil
  have h := cond_f h hc
  refine Wp.skip (thenN ?_)
  refine Wp.srg [] [] ?_
  refine Runs.batch 1 kr ?_
  obtain ⟨r2, e_r2, h⟩ := bind_some h
  refine Runs.callK false 13 6 [] [.agg ((Packet.enc p0).map .t)] _ _ _ rfl rfl kr kr kr kr kr (laws_toPacket_ok u p0 r2 e_r2) kr ?_
  obtain ⟨r3, e_r3, h⟩ := bind_some h
  refine Runs.callBK 14 5 [] [.agg [.t (.int .i64 r2.fFrom), .t (.int .i64 r2.fTo), .own 851970]] [.agg ((Packet.enc r2).map .t)] (.one (.t (.str r3))) rfl rfl kr kr kr kr kr (spec_PacketText_ok u r2 r3 e_r3) (by simp [V.plain, V.plains, C.plain, T.sc]) kr ?_
  refine Runs.alln ?_
  refine Wp.fg ⟨[(1, .obj 1 0), (2, .t (.bool false)), (4, .t (.str r3))], [(1, ((Packet.enc p0).map .t))], []⟩ ?_
  refine Wp.srg [] [] ?_
  refine Runs.batch 1 kr ?_
  obtain ⟨r4, e_r4, h⟩ := bind_some h
  refine Runs.callK false 16 6 [] [.agg ((Packet.enc p0).map .t)] _ _ _ rfl rfl kr kr kr kr kr (laws_toPacket_ok u p0 r4 e_r4) kr ?_
  refine Runs.alln ?_
  refine Wp.fg ⟨[(1, .obj 1 0), (2, .t (.bool false)), (4, .t (.str r3)), (5, .obj 5 0)], [(1, ((Packet.enc p0).map .t)), (5, [.t (.int .i64 r4.fFrom), .t (.int .i64 r4.fTo), .own 1048578])], [(1048578, .live 5 1 (r4.fB.map (eInt .u8)))]⟩ ?_
  refine Wp.srg [] [] ?_
  refine Runs.batch 1 kr ?_
  obtain ⟨r5, e_r5, h⟩ := bind_some h
  refine Runs.callBK 18 7 [] [.agg [.t (.int .i64 r4.fFrom), .t (.int .i64 r4.fTo), .own 1048578]] [.agg ((Packet.enc r4).map .t)] (.one (.t (.str r5))) rfl rfl kr kr kr kr kr (impl_PacketText_ok u r4 r5 e_r5) (by simp [V.plain, V.plains, C.plain, T.sc]) kr ?_
  refine Runs.alln ?_
  refine Wp.fg ⟨[(1, .obj 1 0), (2, .t (.bool false)), (4, .t (.str r3)), (5, .obj 5 0), (6, .t (.str r5))], [(1, ((Packet.enc p0).map .t)), (5, [.t (.int .i64 r4.fFrom), .t (.int .i64 r4.fTo), .own 1048578])], [(1048578, .live 5 1 (r4.fB.map (eInt .u8)))]⟩ ?_
  refine Wp.seq ?_
  refine Wp.srg [] [] ?_
  refine Runs.alln ?_
  refine Wp.fg ⟨[(1, .obj 1 0), (2, .t (.bool false)), (5, .obj 5 0), (21, .t (.bool (!(r5.toList == r3.toList))))], [(1, ((Packet.enc p0).map .t)), (5, [.t (.int .i64 r4.fFrom), .t (.int .i64 r4.fTo), .own 1048578])], [(1048578, .live 5 1 (r4.fB.map (eInt .u8)))]⟩ ?_
  refine Wp.cond2 (b := !(r5.toList == r3.toList)) kr (fun hc => ?_) (fun hc => ?_)
  · have h := cond_t h hc
    refine Wp.srg [] [] ?_
    refine Runs.alln ?_
    refine Wp.fg ⟨[(1, .obj 1 0), (2, .t (.bool false)), (5, .obj 5 0)], [(1, ((Packet.enc p0).map .t)), (5, [.t (.int .i64 r4.fFrom), .t (.int .i64 r4.fTo), .own 1048578])], [(1048578, .live 5 1 (r4.fB.map (eInt .u8)))]⟩ ?_
    refine Wp.ret ?_
    refine thenR ?_
    obtain rfl := Option.some.inj h
    exact RetK [.t (.bool false)] _ [] kr kr (.refl _) .nil
  have h := cond_f h hc
  refine Wp.skip (thenN ?_)
  refine Wp.seq ?_
  refine Wp.seq ?_
  refine Wp.le (Le.trans (Le.frzO 5 2 1048578 5 1 [.t (.int .i64 r4.fFrom), .t (.int .i64 r4.fTo), .own 1048578] (r4.fB.map (eInt .u8)) kr kr kr) (Le.of (s := ⟨[(1, .obj 1 0), (2, .t (.bool false)), (5, .obj 5 0)], [(1, ((Packet.enc p0).map .t)), (5, ((Packet.enc r4).map .t))], []⟩) (mo := []) (mr := []) kr kr kr kr)) ?_
  refine Wp.regionA (pOf []) (rhoOf [(1, .obj 1), (5, .obj 5), (22, .frz), (23, .frz), (25, .frz)]) kr kr ?_
  refine Runs.batch 2 kr ?_
  obtain ⟨r6, e_r6, h⟩ := bind_some h
  refine Runs.callK false 24 6 [] [.agg ((Packet.enc p0).map .t)] _ _ _ rfl rfl kr kr kr kr kr (laws_toPacket_ok u p0 r6 e_r6) kr ?_
  obtain ⟨r7, e_r7, h⟩ := bind_some h
  refine Runs.callBK 25 8 [] [.agg ((Packet.enc r4).map .t), .agg [.t (.int .i64 r6.fFrom), .t (.int .i64 r6.fTo), .own 1572866]] [.agg ((Packet.enc r4).map .t), .agg ((Packet.enc r6).map .t)] (.one (.t (.bool r7))) rfl rfl kr kr kr kr kr (laws_eqPacket_ok u r4 r6 r7 e_r7) (by simp [V.plain, V.plains, C.plain, T.sc]) kr ?_
  refine Runs.alln ?_
  refine Wp.fg ⟨[(2, .t (.bool false)), (26, .t (.bool (!r7)))], [], []⟩ ?_
  refine Wp.cond2 (b := !r7) kr (fun hc => ?_) (fun hc => ?_)
  · have h := cond_t h hc
    refine Wp.srg [] [] ?_
    refine Runs.alln ?_
    refine Wp.fg ⟨[(2, .t (.bool false))], [], []⟩ ?_
    refine Wp.ret ?_
    refine thenR ?_
    obtain rfl := Option.some.inj h
    exact RetK [.t (.bool false)] _ [] kr kr (.refl _) .nil
  have h := cond_f h hc
  refine Wp.skip (thenN ?_)
  refine Wp.srg [] [] ?_
  refine Runs.alln ?_
  refine Wp.fg ⟨[(2, .t (.bool true))], [], []⟩ ?_
  refine Wp.ret ?_
  obtain rfl := Option.some.inj h
  exact RetK [.t (.bool true)] _ [] kr kr (.refl _) .nil
end Go.Tm
