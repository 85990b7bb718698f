/- The functions as they are translated do what the pure functions say (printed). -/
import Derived.Test.YtpnakgaocjmikaaGreatDoorCFnPlansK1
import Derived.Test.YtpnakgaocjmikaaGreatDoorTm45
import Derived.Shelf.Strings.OnBuilder
import Derived.Test.YtpnakgaocjmikaaGreatDoorProg
set_option maxRecDepth 100000
set_option maxHeartbeats 20000000
set_option linter.unusedVariables false
set_option linter.unusedSimpArgs false
namespace Go.Tm
open Go.Proofs
theorem spec_ManBytes_ok (u : Nat) (p0 : Manifest) (r : Int) (h : spec_ManBytes u p0 = some r) : CallOK Tryz.prog 19 [.agg [.t (.int .i64 p0.fGen), .t (.int .i64 p0.fSize), .t (.int .i64 p0.fLen), .t (.sl 2 (p0.fSums.map Sum.enc))]] (.one (.t (.int .i64 r))) [] := by
  unfold spec_ManBytes at h
  refine CallOK.of_bodyK (fn := Tryz.f19) (m := false) [.agg ((Manifest.enc p0).map .t)] kr rfl kr kr kr kr kr ?_
  refine Wp.srg [] [] ?_
  refine Runs.alln ?_
  refine Wp.fg ⟨[(1, .obj 1 0), (2, .t (.int .i64 0))], [(1, ((Manifest.enc p0).map .t))], []⟩ ?_
  refine Wp.srg [] [] ?_
  refine Runs.batch 2 kr ?_
  obtain ⟨r1, e_r1, h⟩ := bind_some h
  refine Runs.callDK 5 36 [] [.own 196608, .agg ((Manifest.enc p0).map .t)] [.one (.t (.sl 1 ((([] : List Int)).map (eInt .u8)))), .agg ((Manifest.enc p0).map .t)] (.one (.ow 5 1 (r1.map (eInt .u8)))) rfl rfl kr kr kr kr kr (spec_PutMan_okd u (([] : List Int)) p0 r1 e_r1) kr ?_
  refine Runs.lenT (y := .own 327680) (e := 5) (eInt .u8) r1 1 rfl rfl rfl kr kr kr kr kr ?_
  refine Runs.alln ?_
  refine Wp.fg ⟨[(2, .t (.int .i64 ((r1.length : Int))))], [], []⟩ ?_
  refine Wp.ret ?_
  obtain rfl := Option.some.inj h
  exact RetK [.t (.int .i64 ((r1.length : Int)))] _ [] kr kr (.refl _) .nil
theorem spec_FullSet_ok (u : Nat) (p0 : Int) (r : Int) (h : spec_FullSet u p0 = some r) : CallOK Tryz.prog 74 [.one (.t (.int .i64 p0))] (.one (.t (.int .i64 r))) [] := by
  unfold spec_FullSet at h
  refine CallOK.of_bodyK (fn := Tryz.f74) (m := false) [.t (.int .i64 p0)] kr rfl kr kr kr kr kr ?_
  refine Wp.srg [] [] ?_
  refine Runs.alln ?_
  refine Wp.fg ⟨[(0, .t (.int .i64 p0)), (2, .t (.int .i64 0))], [], []⟩ ?_
  refine Wp.seq ?_
  refine Wp.srg [] [] ?_
  refine Runs.batch 1 kr ?_
  obtain ⟨r1, e_r1, h⟩ := bind_some h
  refine Runs.callK false 4 49 [] [.t (.int .i64 p0), .t (.int .i64 0), .t (.int .i64 40)] _ _ _ rfl rfl kr kr kr kr kr (spec_l1In_ok u p0 0 40 r1 e_r1) kr ?_
  refine Runs.alln ?_
  refine Wp.fg ⟨[(0, .t (.int .i64 p0)), (2, .t (.int .i64 0)), (5, .t (.bool (!r1)))], [], []⟩ ?_
  refine Wp.cond2 (b := !r1) kr (fun hc => ?_) (fun hc => ?_)
  · have h := cond_t h hc
    refine Wp.srg [] [] ?_
    refine Runs.alln ?_
    refine Wp.fg ⟨[(0, .t (.int .i64 p0)), (2, .t (.int .i64 0))], [], []⟩ ?_
    refine Wp.ret ?_
    refine thenR ?_
    obtain rfl := Option.some.inj h
    exact RetK [.t (.int .i64 0)] _ [] kr kr (.refl _) .nil
  have h := cond_f h hc
  refine Wp.skip (thenN ?_)
  refine Wp.srg [] [] ?_
  refine Runs.batch 1 kr ?_
  obtain ⟨_, e_2, h⟩ := bind_some h
  refine Runs.num .shl (.int .i64 1) (.int .i64 p0) (.int .i64 (bShl .i64 1 p0)) rfl kr kr kr kr (bin_shl _ _ _ _ _ (chk_some e_2)) ?_
  refine Runs.alln ?_
  refine Wp.fg ⟨[(2, .t (.int .i64 (bSub .i64 (bShl .i64 1 p0) 1)))], [], []⟩ ?_
  refine Wp.ret ?_
  obtain rfl := Option.some.inj h
  exact RetK [.t (.int .i64 (bSub .i64 (bShl .i64 1 p0) 1))] _ [] kr kr (.refl _) .nil
theorem spec_l3Ok_ok (u : Nat) (p0 : Int) (r : Bool) (h : spec_l3Ok u p0 = some r) : CallOK Tryz.prog 116 [.one (.t (.int .i64 p0))] (.one (.t (.bool r))) [] := by
  unfold spec_l3Ok at h
  refine CallOK.of_bodyK (fn := Tryz.f116) (m := false) [.t (.int .i64 p0)] kr rfl kr kr kr kr kr ?_
  refine Wp.srg [] [] ?_
  refine Runs.alln ?_
  refine Wp.fg ⟨[(0, .t (.int .i64 p0)), (2, .t (.bool false))], [], []⟩ ?_
  refine Wp.srg [] [] ?_
  refine Runs.batch 1 kr ?_
  obtain ⟨r1, e_r1, h⟩ := bind_some h
  refine Runs.callK false 4 49 [] [.t (.int .i64 p0), .t (.int .i64 0), .t (.int .i64 63000)] _ _ _ rfl rfl kr kr kr kr kr (spec_l1In_ok u p0 0 63000 r1 e_r1) kr ?_
  refine Runs.alln ?_
  refine Wp.fg ⟨[(2, .t (.bool r1))], [], []⟩ ?_
  refine Wp.ret ?_
  obtain rfl := Option.some.inj h
  exact RetK [.t (.bool r1)] _ [] kr kr (.refl _) .nil
theorem spec_WeakHalves_ok (u : Nat) (p0 : Int) (r : Int × Int) (h : spec_WeakHalves u p0 = some r) : CallOK Tryz.prog 117 [.one (.t (.int .i64 p0))] (.tup [.one (.t (.int .i64 r.1)), .one (.t (.int .i64 r.2))]) [] := by
  unfold spec_WeakHalves at h
  refine CallOK.of_bodyK (fn := Tryz.f117) (m := false) [.t (.int .i64 p0)] kr rfl kr kr kr kr kr ?_
  refine Wp.srg [] [] ?_
  refine Runs.alln ?_
  refine Wp.fg ⟨[(0, .t (.int .i64 p0)), (2, .t (.int .i64 0)), (3, .t (.int .i64 0))], [], []⟩ ?_
  refine Wp.seq ?_
  refine Wp.srg [] [] ?_
  refine Runs.batch 1 kr ?_
  obtain ⟨r1, e_r1, h⟩ := bind_some h
  refine Runs.callK false 5 116 [] [.t (.int .i64 p0)] _ _ _ rfl rfl kr kr kr kr kr (spec_l3Ok_ok u p0 r1 e_r1) kr ?_
  refine Runs.alln ?_
  refine Wp.fg ⟨[(0, .t (.int .i64 p0)), (2, .t (.int .i64 0)), (3, .t (.int .i64 0)), (6, .t (.bool (!r1)))], [], []⟩ ?_
  refine Wp.cond2 (b := !r1) kr (fun hc => ?_) (fun hc => ?_)
  · have h := cond_t h hc
    refine Wp.srg [] [] ?_
    refine Runs.alln ?_
    refine Wp.fg ⟨[(0, .t (.int .i64 p0)), (2, .t (.int .i64 0)), (3, .t (.int .i64 0))], [], []⟩ ?_
    refine Wp.ret ?_
    refine thenR ?_
    obtain rfl := Option.some.inj h
    exact RetK [.t (.int .i64 0), .t (.int .i64 0)] _ [] kr kr (.refl _) .nil
  have h := cond_f h hc
  refine Wp.skip (thenN ?_)
  refine Wp.srg [] [] ?_
  refine Runs.alln ?_
  refine Wp.fg ⟨[(2, .t (.int .i64 (bRem .i64 p0 251))), (3, .t (.int .i64 (bQuo .i64 p0 251)))], [], []⟩ ?_
  refine Wp.ret ?_
  obtain rfl := Option.some.inj h
  exact RetK [.t (.int .i64 (bRem .i64 p0 251)), .t (.int .i64 (bQuo .i64 p0 251))] _ [] kr kr (.refl _) .nil
theorem spec_Wrap_ok (u : Nat) (p0 : Int) (p1 : Int) (r : Int) (h : spec_Wrap u p0 p1 = some r) : CallOK Tryz.prog 118 [.one (.t (.int .i64 p0)), .one (.t (.int .i64 p1))] (.one (.t (.int .i64 r))) [] := by
  unfold spec_Wrap at h
  refine CallOK.of_bodyK (fn := Tryz.f118) (m := false) [.t (.int .i64 p0), .t (.int .i64 p1)] kr rfl kr kr kr kr kr ?_
  refine Wp.srg [] [] ?_
  refine Runs.alln ?_
  refine Wp.fg ⟨[(0, .t (.int .i64 p0)), (1, .t (.int .i64 p1)), (4, .t (.int .i64 0))], [], []⟩ ?_
  refine Wp.seq ?_
  refine Wp.srg [] [] ?_
  refine Runs.batch 1 kr ?_
  obtain ⟨r1, e_r1, h⟩ := bind_some h
  refine Runs.callK false 6 49 [] [.t (.int .i64 p1), .t (.int .i64 1), .t (.int .i64 1000000000000)] _ _ _ rfl rfl kr kr kr kr kr (spec_l1In_ok u p1 1 1000000000000 r1 e_r1) kr ?_
  refine Runs.alln ?_
  refine Wp.fg ⟨[(0, .t (.int .i64 p0)), (1, .t (.int .i64 p1)), (4, .t (.int .i64 0)), (7, .t (.bool (!r1)))], [], []⟩ ?_
  refine Wp.cond2 (b := !r1) kr (fun hc => ?_) (fun hc => ?_)
  · have h := cond_t h hc
    refine Wp.srg [] [] ?_
    refine Runs.alln ?_
    refine Wp.fg ⟨[(0, .t (.int .i64 p0)), (1, .t (.int .i64 p1)), (4, .t (.int .i64 0))], [], []⟩ ?_
    refine Wp.ret ?_
    refine thenR ?_
    obtain rfl := Option.some.inj h
    exact RetK [.t (.int .i64 0)] _ [] kr kr (.refl _) .nil
  have h := cond_f h hc
  refine Wp.skip (thenN ?_)
  refine Wp.srg [] [] ?_
  refine Runs.batch 2 kr ?_
  obtain ⟨_, e_2, h⟩ := bind_some h
  refine Runs.num .rem (.int .i64 p0) (.int .i64 p1) (.int .i64 (bRem .i64 p0 p1)) rfl kr kr kr kr (bin_rem _ _ _ _ (by simpa using chk_some e_2)) ?_
  refine Runs.batch 3 kr ?_
  obtain ⟨_, e_3, h⟩ := bind_some h
  refine Runs.num .rem (.int .i64 (bAdd .i64 (bRem .i64 p0 p1) p1)) (.int .i64 p1) (.int .i64 (bRem .i64 (bAdd .i64 (bRem .i64 p0 p1) p1) p1)) rfl kr kr kr kr (bin_rem _ _ _ _ (by simpa using chk_some e_3)) ?_
  refine Runs.alln ?_
  refine Wp.fg ⟨[(4, .t (.int .i64 (bRem .i64 (bAdd .i64 (bRem .i64 p0 p1) p1) p1)))], [], []⟩ ?_
  refine Wp.ret ?_
  obtain rfl := Option.some.inj h
  exact RetK [.t (.int .i64 (bRem .i64 (bAdd .i64 (bRem .i64 p0 p1) p1) p1))] _ [] kr kr (.refl _) .nil
theorem spec_Roll_ok (u : Nat) (p0 : Int) (p1 : Int) (p2 : Int) (p3 : Int) (r : Int) (h : spec_Roll u p0 p1 p2 p3 = some r) : CallOK Tryz.prog 110 [.one (.t (.int .i64 p0)), .one (.t (.int .i64 p1)), .one (.t (.int .i64 p2)), .one (.t (.int .i64 p3))] (.one (.t (.int .i64 r))) [] := by
  unfold spec_Roll at h
  refine CallOK.of_bodyK (fn := Tryz.f110) (m := false) [.t (.int .i64 p0), .t (.int .i64 p1), .t (.int .i64 p2), .t (.int .i64 p3)] kr rfl kr kr kr kr kr ?_
  refine Wp.srg [] [] ?_
  refine Runs.alln ?_
  refine Wp.fg ⟨[(0, .t (.int .i64 p0)), (1, .t (.int .i64 p1)), (2, .t (.int .i64 p2)), (3, .t (.int .i64 p3)), (8, .t (.int .i64 0))], [], []⟩ ?_
  refine Wp.seq ?_
  refine Wp.seqJ (α := Int × Int × Int × Int × Bool) (fun a => ⟨[(0, .t (.int .i64 a.1)), (1, .t (.int .i64 a.2.1)), (2, .t (.int .i64 a.2.2.1)), (3, .t (.int .i64 a.2.2.2.1)), (8, .t (.int .i64 0)), (28, .t (.bool a.2.2.2.2))], [], []⟩) (fun a => spec_Roll_j1 u a.1 a.2.1 a.2.2.1 a.2.2.2.1 a.2.2.2.2 = some r) ?_ ?_
  · rintro ⟨p0, p1, p2, p3, x5⟩ h
    change spec_Roll_j1 u p0 p1 p2 p3 x5 = some r at h
    unfold spec_Roll_j1 at h
    refine Wp.cond2 (b := x5) kr (fun hc => ?_) (fun hc => ?_)
    · have h := cond_t h hc
      refine Wp.srg [] [] ?_
      refine Runs.alln ?_
      refine Wp.fg ⟨[(0, .t (.int .i64 p0)), (1, .t (.int .i64 p1)), (2, .t (.int .i64 p2)), (3, .t (.int .i64 p3)), (8, .t (.int .i64 p0))], [], []⟩ ?_
      refine Wp.ret ?_
      refine thenR ?_
      obtain rfl := Option.some.inj h
      exact RetK [.t (.int .i64 p0)] _ [] kr kr (.refl _) .nil
    have h := cond_f h hc
    refine Wp.skip (thenN ?_)
    refine Wp.srg [] [] ?_
    refine Runs.batch 1 kr ?_
    obtain ⟨r6, e_r6, h⟩ := bind_some h
    refine Runs.callK false 32 117 [] [.t (.int .i64 p0)] _ _ _ rfl rfl kr kr kr kr kr (spec_WeakHalves_ok u p0 r6 e_r6) kr ?_
    refine Runs.alln ?_
    refine Wp.fg ⟨[(1, .t (.int .i64 p1)), (2, .t (.int .i64 p2)), (3, .t (.int .i64 p3)), (8, .t (.int .i64 0)), (9, .t (.int .i64 r6.1)), (10, .t (.int .i64 r6.2))], [], []⟩ ?_
    refine Wp.srg [] [] ?_
    refine Runs.batch 6 kr ?_
    obtain ⟨r7, e_r7, h⟩ := bind_some h
    refine Runs.callK false 41 118 [] [.t (.int .i64 (bSub .i64 r6.2 (bMul .i64 (bRem .i64 p1 251) p2))), .t (.int .i64 251)] _ _ _ rfl rfl kr kr kr kr kr (spec_Wrap_ok u (bSub .i64 r6.2 (bMul .i64 (bRem .i64 p1 251) p2)) 251 r7 e_r7) kr ?_
    refine Runs.alln ?_
    refine Wp.fg ⟨[(2, .t (.int .i64 p2)), (3, .t (.int .i64 p3)), (8, .t (.int .i64 0)), (9, .t (.int .i64 r6.1)), (10, .t (.int .i64 r7))], [], []⟩ ?_
    refine Wp.srg [] [] ?_
    refine Runs.batch 5 kr ?_
    obtain ⟨r8, e_r8, h⟩ := bind_some h
    refine Runs.callK false 47 118 [] [.t (.int .i64 (bAdd .i64 (bSub .i64 r6.1 p2) p3)), .t (.int .i64 251)] _ _ _ rfl rfl kr kr kr kr kr (spec_Wrap_ok u (bAdd .i64 (bSub .i64 r6.1 p2) p3) 251 r8 e_r8) kr ?_
    refine Runs.alln ?_
    refine Wp.fg ⟨[(8, .t (.int .i64 0)), (9, .t (.int .i64 r8)), (10, .t (.int .i64 r7))], [], []⟩ ?_
    refine Wp.srg [] [] ?_
    refine Runs.batch 4 kr ?_
    obtain ⟨r9, e_r9, h⟩ := bind_some h
    refine Runs.callK false 52 118 [] [.t (.int .i64 (bAdd .i64 r7 r8)), .t (.int .i64 251)] _ _ _ rfl rfl kr kr kr kr kr (spec_Wrap_ok u (bAdd .i64 r7 r8) 251 r9 e_r9) kr ?_
    refine Runs.alln ?_
    refine Wp.fg ⟨[(8, .t (.int .i64 (bAdd .i64 r8 (bMul .i64 251 r9))))], [], []⟩ ?_
    refine Wp.ret ?_
    obtain rfl := Option.some.inj h
    exact RetK [.t (.int .i64 (bAdd .i64 r8 (bMul .i64 251 r9)))] _ [] kr kr (.refl _) .nil
  · refine Wp.rg [] [] ?_
    refine Runs.batch 1 kr ?_
    obtain ⟨r1, e_r1, h⟩ := bind_some h
    refine Runs.callK false 12 116 [] [.t (.int .i64 p0)] _ _ _ rfl rfl kr kr kr kr kr (spec_l3Ok_ok u p0 r1 e_r1) kr ?_
    refine Runs.batch 2 kr ?_
    rcases tf (!r1) with hc | hc
    · have h := cond_t h hc
      refine Runs.known 14 (v := true) kr hc ?_
      refine Runs.alln ?_
      exact ⟨(p0, p1, p2, p3, true), h, Le.of (mo := []) (mr := []) kr kr kr kr⟩
    have h := cond_f h hc
    refine Runs.known 14 (v := false) kr hc ?_
    refine Runs.batch 1 kr ?_
    obtain ⟨r2, e_r2, h⟩ := bind_some h
    refine Runs.callK false 16 49 [] [.t (.int .i64 p1), .t (.int .i64 1), .t (.int .i64 1000000000000)] _ _ _ rfl rfl kr kr kr kr kr (spec_l1In_ok u p1 1 1000000000000 r2 e_r2) kr ?_
    refine Runs.batch 3 kr ?_
    rcases tf (!r2) with hc | hc
    · have h := cond_t h hc
      refine Runs.known 19 (v := true) kr hc ?_
      refine Runs.alln ?_
      exact ⟨(p0, p1, p2, p3, true), h, Le.of (mo := []) (mr := []) kr kr kr kr⟩
    have h := cond_f h hc
    refine Runs.known 19 (v := false) kr hc ?_
    refine Runs.batch 1 kr ?_
    obtain ⟨r3, e_r3, h⟩ := bind_some h
    refine Runs.callK false 21 49 [] [.t (.int .i64 p2), .t (.int .i64 0), .t (.int .i64 255)] _ _ _ rfl rfl kr kr kr kr kr (spec_l1In_ok u p2 0 255 r3 e_r3) kr ?_
    refine Runs.batch 3 kr ?_
    rcases tf (!r3) with hc | hc
    · have h := cond_t h hc
      refine Runs.known 24 (v := true) kr hc ?_
      refine Runs.alln ?_
      exact ⟨(p0, p1, p2, p3, true), h, Le.of (mo := []) (mr := []) kr kr kr kr⟩
    have h := cond_f h hc
    refine Runs.known 24 (v := false) kr hc ?_
    refine Runs.batch 1 kr ?_
    obtain ⟨r4, e_r4, h⟩ := bind_some h
    refine Runs.callK false 26 49 [] [.t (.int .i64 p3), .t (.int .i64 0), .t (.int .i64 255)] _ _ _ rfl rfl kr kr kr kr kr (spec_l1In_ok u p3 0 255 r4 e_r4) kr ?_
    refine Runs.alln ?_
    exact ⟨(p0, p1, p2, p3, !r4), h, Le.of (mo := []) (mr := []) kr kr kr kr⟩
theorem spec_Windows_ok (u : Nat) (p0 : List Int) (p1 : Int) (r : (List Int)) (h : spec_Windows u p0 p1 = some r) : CallOK Tryz.prog 105 [.one (.t (.sl 1 (p0.map (eInt .u8)))), .one (.t (.int .i64 p1))] (.one (.ow 3 1 (r.map (eInt .i64)))) [] := by
  unfold spec_Windows at h
  refine CallOK.of_bodyK (fn := Tryz.f105) (m := true) [.t (.sl 1 (p0.map (eInt .u8))), .t (.int .i64 p1)] kr rfl kr kr kr kr kr ?_
  refine Wp.srg [] [] ?_
  refine Runs.alln ?_
  refine Wp.fg ⟨[(0, .t (.sl 1 (p0.map (eInt .u8)))), (1, .t (.int .i64 p1)), (4, .nil)], [], []⟩ ?_
  refine Wp.srg [] [] ?_
  refine Runs.alln ?_
  refine Wp.fg ⟨[(0, .t (.sl 1 (p0.map (eInt .u8)))), (1, .t (.int .i64 p1)), (4, .nil), (5, .own 524288)], [], [(524288, .live 3 1 ((([] : List Int)).map (eInt .i64)))]⟩ ?_
  refine Wp.seq ?_
  refine Wp.seqJ (α := (List Int) × Int × Bool) (fun a => ⟨[(0, .t (.sl 1 (a.1.map (eInt .u8)))), (1, .t (.int .i64 a.2.1)), (4, .nil), (5, .own 327681), (16, .t (.bool a.2.2))], [], [(327681, .live 3 1 ((([] : List Int)).map (eInt .i64)))]⟩) (fun a => spec_Windows_j1 u a.1 a.2.1 a.2.2 = some r) ?_ ?_
  · rintro ⟨p0, p1, x1⟩ h
    change spec_Windows_j1 u p0 p1 x1 = some r at h
    unfold spec_Windows_j1 at h
    refine Wp.cond2 (b := x1) kr (fun hc => ?_) (fun hc => ?_)
    · have h := cond_t h hc
      refine Wp.srg [] [] ?_
      refine Runs.alln ?_
      refine Wp.fg ⟨[(0, .t (.sl 1 (p0.map (eInt .u8)))), (1, .t (.int .i64 p1)), (4, .own 327681), (5, .own 327681)], [], [(327681, .live 3 1 ((([] : List Int)).map (eInt .i64)))]⟩ ?_
      refine Wp.ret ?_
      refine thenR ?_
      obtain rfl := Option.some.inj h
      exact RetK [.own 327681] _ [] kr kr (.refl _) .nil
    have h := cond_f h hc
    refine Wp.skip (thenN ?_)
    refine Wp.srg [] [] ?_
    refine Runs.batch 2 kr ?_
    obtain ⟨_, e_2, h⟩ := bind_some h
    refine Runs.subsl (e := 5) (ax := .t (.sl 1 (p0.map (eInt .u8)))) (alo := none) (ahi := (some (.t (.int .i64 p1)))) (eInt .u8) p0 1 0 p1 rfl kr kr kr kr kr kr kr kr kr kr kr (chk_some e_2) ?_
    obtain ⟨r3, e_r3, h⟩ := bind_some h
    refine Runs.callK false 21 91 [] [.t (.sl 1 (((p0.take (Int.toNat p1)).drop (Int.toNat 0)).map (eInt .u8)))] _ _ _ rfl rfl kr kr kr kr kr (spec_WeakOf_ok u ((p0.take (Int.toNat p1)).drop (Int.toNat 0)) r3 e_r3) kr ?_
    refine Runs.alln ?_
    refine Wp.fg ⟨[(0, .t (.sl 1 (p0.map (eInt .u8)))), (1, .t (.int .i64 p1)), (4, .nil), (5, .own 327681), (6, .t (.int .i64 r3))], [], [(327681, .live 3 1 ((([] : List Int)).map (eInt .i64)))]⟩ ?_
    refine Wp.srg [] [] ?_
    refine Runs.batch 3 kr ?_
    obtain ⟨_, e_4, h⟩ := bind_some h
    refine Runs.appT (y := .own 1572864) (eInt .i64) 25 1 3 1 8 327681 (([] : List Int)) ([r3]) rfl rfl rfl rfl kr kr kr kr kr kr (.inl rfl) kr (of_decide_eq_true (chk_some e_4)) kr kr ?_
    refine Runs.alln ?_
    refine Wp.fg ⟨[(0, .t (.sl 1 (p0.map (eInt .u8)))), (1, .t (.int .i64 p1)), (4, .nil), (5, .own 1638400), (6, .t (.int .i64 r3))], [], [(1638400, .live 3 1 (((([] : List Int)) ++ ([r3])).map (eInt .i64)))]⟩ ?_
    refine Wp.seqJ (α := (List Int)) (fun a => ⟨[(4, .nil), (5, .own 327681)], [], [(327681, .live 3 1 (a.map (eInt .i64)))]⟩) (fun a => spec_Windows_j2 u a = some r) ?_ ?_
    · rintro x17 h
      change spec_Windows_j2 u x17 = some r at h
      unfold spec_Windows_j2 at h
      refine Wp.srg [] [] ?_
      refine Runs.alln ?_
      refine Wp.fg ⟨[(4, .own 327681)], [], [(327681, .live 3 1 (x17.map (eInt .i64)))]⟩ ?_
      refine Wp.ret ?_
      obtain rfl := Option.some.inj h
      exact RetK [.own 327681] _ [] kr kr (.refl _) .nil
    · refine Wp.srg [] [] ?_
      refine Runs.alln ?_
      refine Wp.fg ⟨[(0, .t (.sl 1 (p0.map (eInt .u8)))), (1, .t (.int .i64 p1)), (4, .nil), (5, .own 1638400), (6, .t (.int .i64 r3)), (7, .t (.int .i64 p1))], [], [(1638400, .live 3 1 (((([] : List Int)) ++ ([r3])).map (eInt .i64)))]⟩ ?_
      refine Wp.block ?_
      refine Wp.loopF (α := (List Int) × Int × (List Int) × Int × Int) (fun a => ⟨[(0, .t (.sl 1 (a.1.map (eInt .u8)))), (1, .t (.int .i64 a.2.1)), (4, .nil), (5, .own 327681), (6, .t (.int .i64 a.2.2.2.1)), (7, .t (.int .i64 a.2.2.2.2))], [], [(327681, .live 3 1 (a.2.2.1.map (eInt .i64)))]⟩) (fun k_spec_Windows_l3 a => spec_Windows_l3 u k_spec_Windows_l3 a.1 a.2.1 a.2.2.1 a.2.2.2.1 a.2.2.2.2 = some r) ?_ ?_ u (p0, p1, (([] : List Int)) ++ ([r3]), r3, p1) h (Le.of (mo := []) (mr := [(327681, 1638400)]) kr kr kr kr)
      · intro a h; unfold spec_Windows_l3 at h; cases h
      · rintro k_spec_Windows_l3 ⟨p0, p1, x8, x9, x10⟩ h
        change spec_Windows_l3 u (k_spec_Windows_l3 + 1) p0 p1 x8 x9 x10 = some r at h
        rw [spec_Windows_l3] at h
        refine Wp.seq ?_
        refine Wp.srg [] [] ?_
        refine Runs.batch 2 kr ?_
        refine Runs.lenT (y := .t (.sl 1 (p0.map (eInt .u8)))) (e := 5) (eInt .u8) p0 1 rfl rfl rfl kr kr kr kr kr ?_
        refine Runs.alln ?_
        refine Wp.fg ⟨[(0, .t (.sl 1 (p0.map (eInt .u8)))), (1, .t (.int .i64 p1)), (4, .nil), (5, .own 327681), (6, .t (.int .i64 x9)), (7, .t (.int .i64 x10)), (30, .t (.bool (decide (x10 < ((p0.length : Int))))))], [], [(327681, .live 3 1 (x8.map (eInt .i64)))]⟩ ?_
        refine Wp.cond2 (b := decide (x10 < ((p0.length : Int)))) kr (fun hc => ?_) (fun hc => ?_)
        · have h := cond_t h hc
          refine Wp.skip (thenN ?_)
          refine Wp.seq ?_
          refine Wp.block ?_
          refine Wp.seq ?_
          refine Wp.regionA (pOf []) (rhoOf [(0, .frz), (1, .frz), (6, .frz), (7, .frz), (33, .frz), (34, .frz), (35, .frz), (36, .frz), (37, .frz), (38, .frz), (39, .frz), (40, .frz), (41, .frz), (42, .frz), (43, .frz), (44, .frz), (45, .frz), (46, .frz), (47, .frz)]) kr kr ?_
          refine Runs.batch 6 kr ?_
          obtain ⟨y14, e_y14, h⟩ := bind_some h
          refine Runs.idxT (e := 5) (kk := .i64) (sz := 1) (eInt .u8) p0 (bSub .i64 x10 p1) rfl kr kr kr kr kr kr e_y14 ?_
          refine Runs.batch 4 kr ?_
          obtain ⟨y15, e_y15, h⟩ := bind_some h
          refine Runs.idxT (e := 5) (kk := .i64) (sz := 1) (eInt .u8) p0 x10 rfl kr kr kr kr kr kr e_y15 ?_
          refine Runs.batch 2 kr ?_
          obtain ⟨r16, e_r16, h⟩ := bind_some h
          refine Runs.callK false 47 110 [] [.t (.int .i64 x9), .t (.int .i64 p1), .t (.int .i64 (IntKind.wrap .i64 y14)), .t (.int .i64 (IntKind.wrap .i64 y15))] _ _ _ rfl rfl kr kr kr kr kr (spec_Roll_ok u x9 p1 (IntKind.wrap .i64 y14) (IntKind.wrap .i64 y15) r16 e_r16) kr ?_
          refine Runs.alln ?_
          refine Wp.fg ⟨[(0, .t (.sl 1 (p0.map (eInt .u8)))), (1, .t (.int .i64 p1)), (4, .nil), (5, .own 327681), (6, .t (.int .i64 r16)), (7, .t (.int .i64 x10))], [], [(327681, .live 3 1 (x8.map (eInt .i64)))]⟩ ?_
          refine Wp.rg [] [] ?_
          refine Runs.batch 3 kr ?_
          obtain ⟨_, e_17, h⟩ := bind_some h
          refine Runs.appT (y := .own 3276800) (eInt .i64) 51 1 3 1 8 327681 x8 ([r16]) rfl rfl rfl rfl kr kr kr kr kr kr (.inl rfl) kr (of_decide_eq_true (chk_some e_17)) kr kr ?_
          refine Runs.all kr ?_
          refine blkN ?_
          refine thenN ?_
          refine Wp.rg [] [] ?_
          refine Runs.alln ?_
          exact ⟨(p0, p1, x8 ++ ([r16]), r16, bAdd .i64 x10 1), h, Le.of (mo := []) (mr := [(327681, 3342336)]) kr kr kr kr⟩
        have h := cond_f h hc
        refine Wp.exit ?_
        refine thenE ?_
        refine thenE ?_
        refine blkE ?_
        refine thenN ?_
        exact ⟨x8, h, Le.of (mo := []) (mr := []) kr kr kr kr⟩
  · refine Wp.rg [] [] ?_
    refine Runs.batch 3 kr ?_
    rcases tf (decide (p1 < 1)) with hc | hc
    · have h := cond_t h hc
      refine Runs.known 11 (v := true) kr hc ?_
      refine Runs.alln ?_
      exact ⟨(p0, p1, true), h, Le.of (mo := []) (mr := [(327681, 524288)]) kr kr kr kr⟩
    have h := cond_f h hc
    refine Runs.known 11 (v := false) kr hc ?_
    refine Runs.batch 2 kr ?_
    refine Runs.lenT (y := .t (.sl 1 (p0.map (eInt .u8)))) (e := 5) (eInt .u8) p0 1 rfl rfl rfl kr kr kr kr kr ?_
    refine Runs.alln ?_
    exact ⟨(p0, p1, decide (p1 > ((p0.length : Int)))), h, Le.of (mo := []) (mr := [(327681, 524288)]) kr kr kr kr⟩
theorem spec_FindSum_ok (u : Nat) (p0 : List Int) (p1 : Sum) (p2 : Int) (r : Int) (h : spec_FindSum u p0 p1 p2 = some r) : CallOK Tryz.prog 100 [.one (.t (.sl 1 (p0.map (eInt .u8)))), .agg [.t (.int .i64 p1.fW), .t (.int .i64 p1.fS)], .one (.t (.int .i64 p2))] (.one (.t (.int .i64 r))) [] := by
  unfold spec_FindSum at h
  refine CallOK.of_bodyK (fn := Tryz.f100) (m := false) [.t (.sl 1 (p0.map (eInt .u8))), .agg [.t (.int .i64 p1.fW), .t (.int .i64 p1.fS)], .t (.int .i64 p2)] kr rfl kr kr kr kr kr ?_
  refine Wp.srg [] [] ?_
  refine Runs.alln ?_
  refine Wp.fg ⟨[(0, .t (.sl 1 (p0.map (eInt .u8)))), (2, .t (.int .i64 p2)), (4, .obj 4 0), (6, .t (.int .i64 0))], [(4, [.t (.int .i64 p1.fW), .t (.int .i64 p1.fS)])], []⟩ ?_
  refine Wp.seq ?_
  refine Wp.srg [] [] ?_
  refine Runs.batch 1 kr ?_
  obtain ⟨r1, e_r1, h⟩ := bind_some h
  refine Runs.callK false 10 49 [] [.t (.int .i64 p2), .t (.int .i64 1), .t (.int .i64 6)] _ _ _ rfl rfl kr kr kr kr kr (spec_l1In_ok u p2 1 6 r1 e_r1) kr ?_
  refine Runs.alln ?_
  refine Wp.fg ⟨[(0, .t (.sl 1 (p0.map (eInt .u8)))), (2, .t (.int .i64 p2)), (4, .obj 4 0), (6, .t (.int .i64 0)), (11, .t (.bool (!r1)))], [(4, [.t (.int .i64 p1.fW), .t (.int .i64 p1.fS)])], []⟩ ?_
  refine Wp.cond2 (b := !r1) kr (fun hc => ?_) (fun hc => ?_)
  · have h := cond_t h hc
    refine Wp.srg [] [] ?_
    refine Runs.alln ?_
    refine Wp.fg ⟨[(0, .t (.sl 1 (p0.map (eInt .u8)))), (2, .t (.int .i64 p2)), (4, .obj 4 0), (6, .t (.int .i64 (-1)))], [(4, [.t (.int .i64 p1.fW), .t (.int .i64 p1.fS)])], []⟩ ?_
    refine Wp.ret ?_
    refine thenR ?_
    obtain rfl := Option.some.inj h
    exact RetK [.t (.int .i64 (-1))] _ [] kr kr (.refl _) .nil
  have h := cond_f h hc
  refine Wp.skip (thenN ?_)
  refine Wp.srg [] [] ?_
  refine Runs.batch 2 kr ?_
  obtain ⟨r2, e_r2, h⟩ := bind_some h
  refine Runs.callK false 14 105 [] [.t (.sl 1 (p0.map (eInt .u8))), .t (.int .i64 p2)] _ _ _ rfl rfl kr kr kr kr kr (spec_Windows_ok u p0 p2 r2 e_r2) kr ?_
  refine Runs.alln ?_
  refine Wp.fg ⟨[(0, .t (.sl 1 (p0.map (eInt .u8)))), (2, .t (.int .i64 p2)), (4, .obj 4 0), (6, .t (.int .i64 0)), (7, .own 917504)], [(4, [.t (.int .i64 p1.fW), .t (.int .i64 p1.fS)])], [(917504, .live 3 1 (r2.map (eInt .i64)))]⟩ ?_
  refine Wp.seqJ (α := Unit) (fun a => ⟨[(6, .t (.int .i64 0))], [], []⟩) (fun a => spec_FindSum_j1 u = some r) ?_ ?_
  · rintro ⟨⟩ h
    change spec_FindSum_j1 u = some r at h
    unfold spec_FindSum_j1 at h
    refine Wp.srg [] [] ?_
    refine Runs.alln ?_
    refine Wp.fg ⟨[(6, .t (.int .i64 (-1)))], [], []⟩ ?_
    refine Wp.ret ?_
    obtain rfl := Option.some.inj h
    exact RetK [.t (.int .i64 (-1))] _ [] kr kr (.refl _) .nil
  · refine Wp.srg [] [] ?_
    refine Runs.alln ?_
    refine Wp.fg ⟨[(0, .t (.sl 1 (p0.map (eInt .u8)))), (2, .t (.int .i64 p2)), (4, .obj 4 0), (6, .t (.int .i64 0)), (7, .own 917504), (8, .t (.int .i64 0))], [(4, [.t (.int .i64 p1.fW), .t (.int .i64 p1.fS)])], [(917504, .live 3 1 (r2.map (eInt .i64)))]⟩ ?_
    refine Wp.block ?_
    refine Wp.loopF (α := (List Int) × Int × ((List Int)) × Int × Sum) (fun a => ⟨[(0, .t (.sl 1 (a.1.map (eInt .u8)))), (2, .t (.int .i64 a.2.1)), (4, .obj 4 0), (6, .t (.int .i64 0)), (7, .own 458753), (8, .t (.int .i64 a.2.2.2.1))], [(4, [.t (.int .i64 a.2.2.2.2.fW), .t (.int .i64 a.2.2.2.2.fS)])], [(458753, .live 3 1 (a.2.2.1.map (eInt .i64)))]⟩) (fun k_spec_FindSum_l2 a => spec_FindSum_l2 u k_spec_FindSum_l2 a.1 a.2.1 a.2.2.1 a.2.2.2.1 a.2.2.2.2 = some r) ?_ ?_ u (p0, p2, r2, 0, p1) h (Le.of (mo := []) (mr := [(458753, 917504)]) kr kr kr kr)
    · intro a h; unfold spec_FindSum_l2 at h; cases h
    · rintro k_spec_FindSum_l2 ⟨p0, p2, r2, x4, p1⟩ h
      change spec_FindSum_l2 u (k_spec_FindSum_l2 + 1) p0 p2 r2 x4 p1 = some r at h
      rw [spec_FindSum_l2] at h
      refine Wp.seq ?_
      refine Wp.srg [] [] ?_
      refine Runs.batch 2 kr ?_
      refine Runs.lenT (y := .own 458753) (e := 3) (eInt .i64) r2 1 rfl rfl rfl kr kr kr kr kr ?_
      refine Runs.alln ?_
      refine Wp.fg ⟨[(0, .t (.sl 1 (p0.map (eInt .u8)))), (2, .t (.int .i64 p2)), (4, .obj 4 0), (6, .t (.int .i64 0)), (7, .own 458753), (8, .t (.int .i64 x4)), (18, .t (.bool (decide (x4 < ((r2.length : Int))))))], [(4, [.t (.int .i64 p1.fW), .t (.int .i64 p1.fS)])], [(458753, .live 3 1 (r2.map (eInt .i64)))]⟩ ?_
      refine Wp.cond2 (b := decide (x4 < ((r2.length : Int)))) kr (fun hc => ?_) (fun hc => ?_)
      · have h := cond_t h hc
        refine Wp.skip (thenN ?_)
        refine Wp.seq ?_
        refine Wp.block ?_
        refine Wp.seqJ (α := (List Int) × Int × ((List Int)) × Int × Bool × Sum) (fun a => ⟨[(0, .t (.sl 1 (a.1.map (eInt .u8)))), (2, .t (.int .i64 a.2.1)), (4, .obj 4 0), (6, .t (.int .i64 0)), (7, .own 458753), (8, .t (.int .i64 a.2.2.2.1)), (38, .t (.bool a.2.2.2.2.1))], [(4, [.t (.int .i64 a.2.2.2.2.2.fW), .t (.int .i64 a.2.2.2.2.2.fS)])], [(458753, .live 3 1 (a.2.2.1.map (eInt .i64)))]⟩) (fun a => spec_FindSum_j3 u (fun z0 z1 z2 z3 z4 => spec_FindSum_l2 u k_spec_FindSum_l2 z0 z1 z2 z3 z4) a.1 a.2.1 a.2.2.1 a.2.2.2.1 a.2.2.2.2.1 a.2.2.2.2.2 = some r) ?_ ?_
        · rintro ⟨p0, p2, r2, x4, x9, p1⟩ h
          change spec_FindSum_j3 u (fun z0 z1 z2 z3 z4 => spec_FindSum_l2 u k_spec_FindSum_l2 z0 z1 z2 z3 z4) p0 p2 r2 x4 x9 p1 = some r at h
          unfold spec_FindSum_j3 at h
          refine Wp.cond2 (b := x9) kr (fun hc => ?_) (fun hc => ?_)
          · have h := cond_t h hc
            refine Wp.srg [] [] ?_
            refine Runs.alln ?_
            refine Wp.fg ⟨[(0, .t (.sl 1 (p0.map (eInt .u8)))), (2, .t (.int .i64 p2)), (4, .obj 4 0), (6, .t (.int .i64 x4)), (7, .own 458753), (8, .t (.int .i64 x4))], [(4, [.t (.int .i64 p1.fW), .t (.int .i64 p1.fS)])], [(458753, .live 3 1 (r2.map (eInt .i64)))]⟩ ?_
            refine Wp.ret ?_
            refine blkR ?_
            refine thenR ?_
            refine thenR ?_
            refine blkR ?_
            refine thenR ?_
            obtain rfl := Option.some.inj h
            exact RetK [.t (.int .i64 x4)] _ [] kr kr (.refl _) .nil
          have h := cond_f h hc
          refine Wp.skip ?_
          refine blkN ?_
          refine thenN ?_
          refine Wp.rg [] [] ?_
          refine Runs.alln ?_
          exact ⟨(p0, p2, r2, bAdd .i64 x4 1, p1), h, Le.of (mo := []) (mr := []) kr kr kr kr⟩
        · refine Wp.regionA (pOf []) (rhoOf [(0, .frz), (2, .frz), (4, .obj 4), (7, .own 7), (8, .frz), (21, .own 7), (22, .frz), (23, .el 7), (24, .frz), (25, .obj 4), (26, .frz), (27, .frz), (28, .frz), (29, .frz), (30, .frz), (31, .frz), (32, .frz), (33, .frz), (34, .frz), (35, .frz), (36, .frz)]) kr kr ?_
          refine Runs.batch 2 kr ?_
          obtain ⟨y6, e_y6, h⟩ := bind_some h
          refine Runs.idxO (e := 3) (e' := 3) (kk := .i64) (sz := 1) (eInt .i64) r2 x4 458753 rfl kr kr kr kr kr kr kr e_y6 ?_
          refine Runs.loadE (e' := 3) (sz := 1) (m := 1) (gg := false) (eInt .i64) r2 458753 (Int.toNat x4) 0 (.t (.int .i64 y6)) rfl kr kr kr kr kr kr (idx_some e_y6).2 kr ?_
          refine Runs.batch 4 kr ?_
          rcases tf (y6 == p1.fW) with hc | hc
          · have h := cond_t h hc
            refine Runs.known 28 (v := true) kr hc ?_
            refine Runs.batch 5 kr ?_
            obtain ⟨_, e_7, h⟩ := bind_some h
            refine Runs.subsl (e := 5) (ax := .t (.sl 1 (p0.map (eInt .u8)))) (alo := (some (.t (.int .i64 x4)))) (ahi := (some (.t (.int .i64 (bAdd .i64 x4 p2))))) (eInt .u8) p0 1 x4 (bAdd .i64 x4 p2) rfl kr kr kr kr kr kr kr kr kr kr kr (chk_some e_7) ?_
            obtain ⟨r8, e_r8, h⟩ := bind_some h
            refine Runs.callK false 35 71 [] [.t (.sl 1 (((p0.take (Int.toNat (bAdd .i64 x4 p2))).drop (Int.toNat x4)).map (eInt .u8)))] _ _ _ rfl rfl kr kr kr kr kr (spec_SumOf_ok u ((p0.take (Int.toNat (bAdd .i64 x4 p2))).drop (Int.toNat x4)) r8 e_r8) kr ?_
            refine Runs.alln ?_
            exact ⟨(p0, p2, r2, x4, [r8.fW, r8.fS] == [p1.fW, p1.fS], p1), h, Le.of (mo := []) (mr := []) kr kr kr kr⟩
          have h := cond_f h hc
          refine Runs.known 28 (v := false) kr hc ?_
          refine Runs.alln ?_
          exact ⟨(p0, p2, r2, x4, false, p1), h, Le.of (mo := []) (mr := []) kr kr kr kr⟩
      have h := cond_f h hc
      refine Wp.exit ?_
      refine thenE ?_
      refine thenE ?_
      refine blkE ?_
      refine thenN ?_
      exact ⟨(), h, Le.of (mo := []) (mr := []) kr kr kr kr⟩
theorem spec_PlaceOf_ok (u : Nat) (p0 : List Int) (p1 : Manifest) (p2 : Int) (r : Int) (h : spec_PlaceOf u p0 p1 p2 = some r) : CallOK Tryz.prog 93 [.one (.t (.sl 1 (p0.map (eInt .u8)))), .agg [.t (.int .i64 p1.fGen), .t (.int .i64 p1.fSize), .t (.int .i64 p1.fLen), .t (.sl 2 (p1.fSums.map Sum.enc))], .one (.t (.int .i64 p2))] (.one (.t (.int .i64 r))) [] := by
  unfold spec_PlaceOf at h
  refine CallOK.of_bodyK (fn := Tryz.f93) (m := false) [.t (.sl 1 (p0.map (eInt .u8))), .agg ((Manifest.enc p1).map .t), .t (.int .i64 p2)] kr rfl kr kr kr kr kr ?_
  refine Wp.srg [] [] ?_
  refine Runs.alln ?_
  refine Wp.fg ⟨[(0, .t (.sl 1 (p0.map (eInt .u8)))), (2, .t (.int .i64 p2)), (4, .obj 4 0), (6, .t (.int .i64 0))], [(4, ((Manifest.enc p1).map .t))], []⟩ ?_
  refine Wp.srg [] [] ?_
  refine Runs.batch 5 kr ?_
  obtain ⟨r1, e_r1, h⟩ := bind_some h
  refine Runs.callK false 15 53 [] [.t (.int .i64 p1.fSize), .t (.int .i64 p1.fLen), .t (.int .i64 p2)] _ _ _ rfl rfl kr kr kr kr kr (spec_SpanOf_ok u p1.fSize p1.fLen p2 r1 e_r1) kr ?_
  refine Runs.alln ?_
  refine Wp.fg ⟨[(0, .t (.sl 1 (p0.map (eInt .u8)))), (2, .t (.int .i64 p2)), (4, .obj 4 0), (6, .t (.int .i64 0)), (8, .t (.int .i64 r1.2))], [(4, ((Manifest.enc p1).map .t))], []⟩ ?_
  refine Wp.seq ?_
  refine Wp.seqJ (α := (List Int) × Int × (Int × Int) × Bool × Manifest) (fun a => ⟨[(0, .t (.sl 1 (a.1.map (eInt .u8)))), (2, .t (.int .i64 a.2.1)), (4, .obj 4 0), (6, .t (.int .i64 0)), (8, .t (.int .i64 a.2.2.1.2)), (26, .t (.bool a.2.2.2.1))], [(4, ((Manifest.enc a.2.2.2.2).map .t))], []⟩) (fun a => spec_PlaceOf_j1 u a.1 a.2.1 a.2.2.1 a.2.2.2.1 a.2.2.2.2 = some r) ?_ ?_
  · rintro ⟨p0, p2, r1, x2, p1⟩ h
    change spec_PlaceOf_j1 u p0 p2 r1 x2 p1 = some r at h
    unfold spec_PlaceOf_j1 at h
    refine Wp.cond2 (b := x2) kr (fun hc => ?_) (fun hc => ?_)
    · have h := cond_t h hc
      refine Wp.srg [] [] ?_
      refine Runs.alln ?_
      refine Wp.fg ⟨[(0, .t (.sl 1 (p0.map (eInt .u8)))), (2, .t (.int .i64 p2)), (4, .obj 4 0), (6, .t (.int .i64 (-1))), (8, .t (.int .i64 r1.2))], [(4, ((Manifest.enc p1).map .t))], []⟩ ?_
      refine Wp.ret ?_
      refine thenR ?_
      obtain rfl := Option.some.inj h
      exact RetK [.t (.int .i64 (-1))] _ [] kr kr (.refl _) .nil
    have h := cond_f h hc
    refine Wp.skip (thenN ?_)
    refine Wp.srg [] [] ?_
    refine Runs.batch 4 kr ?_
    obtain ⟨y3, e_y3, h⟩ := bind_some h
    refine Runs.idxT (e := 69) (kk := .i64) (sz := 2) Sum.enc p1.fSums p2 rfl kr kr kr kr kr kr e_y3 ?_
    refine Runs.batch 2 kr ?_
    obtain ⟨r4, e_r4, h⟩ := bind_some h
    refine Runs.callK false 34 100 [] [.t (.sl 1 (p0.map (eInt .u8))), .agg [.t (.int .i64 y3.fW), .t (.int .i64 y3.fS)], .t (.int .i64 r1.2)] _ _ _ rfl rfl kr kr kr kr kr (spec_FindSum_ok u p0 y3 r1.2 r4 e_r4) kr ?_
    refine Runs.alln ?_
    refine Wp.fg ⟨[(6, .t (.int .i64 r4))], [], []⟩ ?_
    refine Wp.ret ?_
    obtain rfl := Option.some.inj h
    exact RetK [.t (.int .i64 r4)] _ [] kr kr (.refl _) .nil
  · refine Wp.rg [] [] ?_
    refine Runs.batch 3 kr ?_
    rcases tf (r1.2 == 0) with hc | hc
    · have h := cond_t h hc
      refine Runs.known 20 (v := true) kr hc ?_
      refine Runs.alln ?_
      exact ⟨(p0, p2, r1, true, p1), h, Le.of (mo := []) (mr := []) kr kr kr kr⟩
    have h := cond_f h hc
    refine Runs.known 20 (v := false) kr hc ?_
    refine Runs.batch 3 kr ?_
    refine Runs.lenT (y := .t (.sl 2 (p1.fSums.map Sum.enc))) (e := 69) Sum.enc p1.fSums 2 rfl rfl rfl kr kr kr kr kr ?_
    refine Runs.alln ?_
    exact ⟨(p0, p2, r1, decide (p2 ≥ ((p1.fSums.length : Int))), p1), h, Le.of (mo := []) (mr := []) kr kr kr kr⟩
theorem spec_SetOk_ok (u : Nat) (p0 : Int) (r : Bool) (h : spec_SetOk u p0 = some r) : CallOK Tryz.prog 92 [.one (.t (.int .i64 p0))] (.one (.t (.bool r))) [] := by
  unfold spec_SetOk at h
  refine CallOK.of_bodyK (fn := Tryz.f92) (m := false) [.t (.int .i64 p0)] kr rfl kr kr kr kr kr ?_
  refine Wp.srg [] [] ?_
  refine Runs.alln ?_
  refine Wp.fg ⟨[(0, .t (.int .i64 p0)), (2, .t (.bool false))], [], []⟩ ?_
  refine Wp.srg [] [] ?_
  refine Runs.batch 1 kr ?_
  obtain ⟨r1, e_r1, h⟩ := bind_some h
  refine Runs.callK false 4 49 [] [.t (.int .i64 p0), .t (.int .i64 0), .t (.int .i64 1099511627775)] _ _ _ rfl rfl kr kr kr kr kr (spec_l1In_ok u p0 0 1099511627775 r1 e_r1) kr ?_
  refine Runs.alln ?_
  refine Wp.fg ⟨[(2, .t (.bool r1))], [], []⟩ ?_
  refine Wp.ret ?_
  obtain rfl := Option.some.inj h
  exact RetK [.t (.bool r1)] _ [] kr kr (.refl _) .nil
theorem spec_WithPart_ok (u : Nat) (p0 : Int) (p1 : Int) (r : Int) (h : spec_WithPart u p0 p1 = some r) : CallOK Tryz.prog 94 [.one (.t (.int .i64 p0)), .one (.t (.int .i64 p1))] (.one (.t (.int .i64 r))) [] := by
  unfold spec_WithPart at h
  refine CallOK.of_bodyK (fn := Tryz.f94) (m := false) [.t (.int .i64 p0), .t (.int .i64 p1)] kr rfl kr kr kr kr kr ?_
  refine Wp.srg [] [] ?_
  refine Runs.alln ?_
  refine Wp.fg ⟨[(0, .t (.int .i64 p0)), (1, .t (.int .i64 p1)), (4, .t (.int .i64 0))], [], []⟩ ?_
  refine Wp.seq ?_
  refine Wp.seqJ (α := Int × Int × Bool) (fun a => ⟨[(0, .t (.int .i64 a.1)), (1, .t (.int .i64 a.2.1)), (4, .t (.int .i64 0)), (12, .t (.bool a.2.2))], [], []⟩) (fun a => spec_WithPart_j1 u a.1 a.2.1 a.2.2 = some r) ?_ ?_
  · rintro ⟨p0, p1, x3⟩ h
    change spec_WithPart_j1 u p0 p1 x3 = some r at h
    unfold spec_WithPart_j1 at h
    refine Wp.cond2 (b := x3) kr (fun hc => ?_) (fun hc => ?_)
    · have h := cond_t h hc
      refine Wp.srg [] [] ?_
      refine Runs.alln ?_
      refine Wp.fg ⟨[(0, .t (.int .i64 p0)), (1, .t (.int .i64 p1)), (4, .t (.int .i64 p0))], [], []⟩ ?_
      refine Wp.ret ?_
      refine thenR ?_
      obtain rfl := Option.some.inj h
      exact RetK [.t (.int .i64 p0)] _ [] kr kr (.refl _) .nil
    have h := cond_f h hc
    refine Wp.skip (thenN ?_)
    refine Wp.srg [] [] ?_
    refine Runs.batch 2 kr ?_
    obtain ⟨_, e_4, h⟩ := bind_some h
    refine Runs.num .shl (.int .i64 1) (.int .i64 p1) (.int .i64 (bShl .i64 1 p1)) rfl kr kr kr kr (bin_shl _ _ _ _ _ (chk_some e_4)) ?_
    refine Runs.alln ?_
    refine Wp.fg ⟨[(4, .t (.int .i64 (bOr .i64 p0 (bShl .i64 1 p1))))], [], []⟩ ?_
    refine Wp.ret ?_
    obtain rfl := Option.some.inj h
    exact RetK [.t (.int .i64 (bOr .i64 p0 (bShl .i64 1 p1)))] _ [] kr kr (.refl _) .nil
  · refine Wp.rg [] [] ?_
    refine Runs.batch 1 kr ?_
    obtain ⟨r1, e_r1, h⟩ := bind_some h
    refine Runs.callK false 6 92 [] [.t (.int .i64 p0)] _ _ _ rfl rfl kr kr kr kr kr (spec_SetOk_ok u p0 r1 e_r1) kr ?_
    refine Runs.batch 2 kr ?_
    rcases tf (!r1) with hc | hc
    · have h := cond_t h hc
      refine Runs.known 8 (v := true) kr hc ?_
      refine Runs.alln ?_
      exact ⟨(p0, p1, true), h, Le.of (mo := []) (mr := []) kr kr kr kr⟩
    have h := cond_f h hc
    refine Runs.known 8 (v := false) kr hc ?_
    refine Runs.batch 1 kr ?_
    obtain ⟨r2, e_r2, h⟩ := bind_some h
    refine Runs.callK false 10 49 [] [.t (.int .i64 p1), .t (.int .i64 0), .t (.int .i64 39)] _ _ _ rfl rfl kr kr kr kr kr (spec_l1In_ok u p1 0 39 r2 e_r2) kr ?_
    refine Runs.alln ?_
    exact ⟨(p0, p1, !r2), h, Le.of (mo := []) (mr := []) kr kr kr kr⟩
theorem spec_Found_ok (u : Nat) (p0 : List Int) (p1 : Manifest) (r : Int) (h : spec_Found u p0 p1 = some r) : CallOK Tryz.prog 76 [.one (.t (.sl 1 (p0.map (eInt .u8)))), .agg [.t (.int .i64 p1.fGen), .t (.int .i64 p1.fSize), .t (.int .i64 p1.fLen), .t (.sl 2 (p1.fSums.map Sum.enc))]] (.one (.t (.int .i64 r))) [] := by
  unfold spec_Found at h
  refine CallOK.of_bodyK (fn := Tryz.f76) (m := false) [.t (.sl 1 (p0.map (eInt .u8))), .agg ((Manifest.enc p1).map .t)] kr rfl kr kr kr kr kr ?_
  refine Wp.srg [] [] ?_
  refine Runs.alln ?_
  refine Wp.fg ⟨[(0, .t (.sl 1 (p0.map (eInt .u8)))), (3, .obj 3 0), (4, .t (.int .i64 0))], [(3, ((Manifest.enc p1).map .t))], []⟩ ?_
  refine Wp.srg [] [] ?_
  refine Runs.alln ?_
  refine Wp.fg ⟨[(0, .t (.sl 1 (p0.map (eInt .u8)))), (3, .obj 3 0), (4, .t (.int .i64 0)), (5, .t (.int .i64 0))], [(3, ((Manifest.enc p1).map .t))], []⟩ ?_
  refine Wp.seqJ (α := Int) (fun a => ⟨[(4, .t (.int .i64 0)), (5, .t (.int .i64 a))], [], []⟩) (fun a => spec_Found_j1 u a = some r) ?_ ?_
  · rintro x11 h
    change spec_Found_j1 u x11 = some r at h
    unfold spec_Found_j1 at h
    refine Wp.srg [] [] ?_
    refine Runs.alln ?_
    refine Wp.fg ⟨[(4, .t (.int .i64 x11))], [], []⟩ ?_
    refine Wp.ret ?_
    obtain rfl := Option.some.inj h
    exact RetK [.t (.int .i64 x11)] _ [] kr kr (.refl _) .nil
  · refine Wp.srg [] [] ?_
    refine Runs.alln ?_
    refine Wp.fg ⟨[(0, .t (.sl 1 (p0.map (eInt .u8)))), (3, .obj 3 0), (4, .t (.int .i64 0)), (5, .t (.int .i64 0)), (6, .t (.int .i64 0))], [(3, ((Manifest.enc p1).map .t))], []⟩ ?_
    refine Wp.block ?_
    refine Wp.loopF (α := (List Int) × Int × Int × Manifest) (fun a => ⟨[(0, .t (.sl 1 (a.1.map (eInt .u8)))), (3, .obj 3 0), (4, .t (.int .i64 0)), (5, .t (.int .i64 a.2.1)), (6, .t (.int .i64 a.2.2.1))], [(3, ((Manifest.enc a.2.2.2).map .t))], []⟩) (fun k_spec_Found_l2 a => spec_Found_l2 u k_spec_Found_l2 a.1 a.2.1 a.2.2.1 a.2.2.2 = some r) ?_ ?_ u (p0, 0, 0, p1) h (Le.of (mo := []) (mr := []) kr kr kr kr)
    · intro a h; unfold spec_Found_l2 at h; cases h
    · rintro k_spec_Found_l2 ⟨p0, x3, x4, p1⟩ h
      change spec_Found_l2 u (k_spec_Found_l2 + 1) p0 x3 x4 p1 = some r at h
      rw [spec_Found_l2] at h
      refine Wp.seq ?_
      refine Wp.seqJ (α := (List Int) × Int × Int × Bool × Manifest) (fun a => ⟨[(0, .t (.sl 1 (a.1.map (eInt .u8)))), (3, .obj 3 0), (4, .t (.int .i64 0)), (5, .t (.int .i64 a.2.1)), (6, .t (.int .i64 a.2.2.1)), (15, .t (.bool a.2.2.2.1))], [(3, ((Manifest.enc a.2.2.2.2).map .t))], []⟩) (fun a => spec_Found_j3 u (fun z0 z1 z2 z3 => spec_Found_l2 u k_spec_Found_l2 z0 z1 z2 z3) a.1 a.2.1 a.2.2.1 a.2.2.2.1 a.2.2.2.2 = some r) ?_ ?_
      · rintro ⟨p0, x3, x4, x7, p1⟩ h
        change spec_Found_j3 u (fun z0 z1 z2 z3 => spec_Found_l2 u k_spec_Found_l2 z0 z1 z2 z3) p0 x3 x4 x7 p1 = some r at h
        unfold spec_Found_j3 at h
        refine Wp.cond2 (b := x7) kr (fun hc => ?_) (fun hc => ?_)
        · have h := cond_t h hc
          refine Wp.skip (thenN ?_)
          refine Wp.seqJ (α := (List Int) × Int × Int × Manifest) (fun a => ⟨[(0, .t (.sl 1 (a.1.map (eInt .u8)))), (3, .obj 3 0), (4, .t (.int .i64 0)), (5, .t (.int .i64 a.2.1)), (6, .t (.int .i64 a.2.2.1))], [(3, ((Manifest.enc a.2.2.2).map .t))], []⟩) (fun a => spec_Found_j4 u (fun z0 z1 z2 z3 => spec_Found_l2 u k_spec_Found_l2 z0 z1 z2 z3) a.1 a.2.1 a.2.2.1 a.2.2.2 = some r) ?_ ?_
          · rintro ⟨p0, x10, x4, p1⟩ h
            change spec_Found_j4 u (fun z0 z1 z2 z3 => spec_Found_l2 u k_spec_Found_l2 z0 z1 z2 z3) p0 x10 x4 p1 = some r at h
            unfold spec_Found_j4 at h
            refine Wp.rg [] [] ?_
            refine Runs.alln ?_
            exact ⟨(p0, x10, bAdd .i64 x4 1, p1), h, Le.of (mo := []) (mr := []) kr kr kr kr⟩
          · refine Wp.block ?_
            refine Wp.srg [] [] ?_
            refine Runs.batch 3 kr ?_
            obtain ⟨r8, e_r8, h⟩ := bind_some h
            refine Runs.callK false 21 93 [] [.t (.sl 1 (p0.map (eInt .u8))), .agg ((Manifest.enc p1).map .t), .t (.int .i64 x4)] _ _ _ rfl rfl kr kr kr kr kr (spec_PlaceOf_ok u p0 p1 x4 r8 e_r8) kr ?_
            refine Runs.alln ?_
            refine Wp.fg ⟨[(0, .t (.sl 1 (p0.map (eInt .u8)))), (3, .obj 3 0), (4, .t (.int .i64 0)), (5, .t (.int .i64 x3)), (6, .t (.int .i64 x4)), (22, .t (.bool (decide (r8 ≥ 0))))], [(3, ((Manifest.enc p1).map .t))], []⟩ ?_
            refine Wp.cond2 (b := decide (r8 ≥ 0)) kr (fun hc => ?_) (fun hc => ?_)
            · have h := cond_t h hc
              refine Wp.rg [] [] ?_
              refine Runs.batch 2 kr ?_
              obtain ⟨r9, e_r9, h⟩ := bind_some h
              refine Runs.callK false 25 94 [] [.t (.int .i64 x3), .t (.int .i64 x4)] _ _ _ rfl rfl kr kr kr kr kr (spec_WithPart_ok u x3 x4 r9 e_r9) kr ?_
              refine Runs.all kr ?_
              refine blkN ?_
              refine thenN ?_
              exact ⟨(p0, r9, x4, p1), h, Le.of (mo := []) (mr := []) kr kr kr kr⟩
            have h := cond_f h hc
            refine Wp.skip ?_
            refine blkN ?_
            refine thenN ?_
            exact ⟨(p0, x3, x4, p1), h, Le.of (mo := []) (mr := []) kr kr kr kr⟩
        have h := cond_f h hc
        refine Wp.exit ?_
        refine thenE ?_
        refine thenE ?_
        refine blkE ?_
        refine thenN ?_
        exact ⟨x3, h, Le.of (mo := []) (mr := []) kr kr kr kr⟩
      · refine Wp.rg [] [] ?_
        refine Runs.batch 3 kr ?_
        refine Runs.lenT (y := .t (.sl 2 (p1.fSums.map Sum.enc))) (e := 69) Sum.enc p1.fSums 2 rfl rfl rfl kr kr kr kr kr ?_
        refine Runs.batch 2 kr ?_
        rcases tf (decide (x4 < ((p1.fSums.length : Int)))) with hc | hc
        · have h := cond_t h hc
          refine Runs.known 12 (v := true) kr hc ?_
          refine Runs.alln ?_
          exact ⟨(p0, x3, x4, decide (x4 < 40), p1), h, Le.of (mo := []) (mr := []) kr kr kr kr⟩
        have h := cond_f h hc
        refine Runs.known 12 (v := false) kr hc ?_
        refine Runs.alln ?_
        exact ⟨(p0, x3, x4, false, p1), h, Le.of (mo := []) (mr := []) kr kr kr kr⟩
theorem spec_Without_ok (u : Nat) (p0 : Int) (p1 : Int) (r : Int) (h : spec_Without u p0 p1 = some r) : CallOK Tryz.prog 73 [.one (.t (.int .i64 p0)), .one (.t (.int .i64 p1))] (.one (.t (.int .i64 r))) [] := by
  unfold spec_Without at h
  refine CallOK.of_bodyK (fn := Tryz.f73) (m := false) [.t (.int .i64 p0), .t (.int .i64 p1)] kr rfl kr kr kr kr kr ?_
  refine Wp.srg [] [] ?_
  refine Runs.alln ?_
  refine Wp.fg ⟨[(0, .t (.int .i64 p0)), (1, .t (.int .i64 p1)), (4, .t (.int .i64 0))], [], []⟩ ?_
  refine Wp.seq ?_
  refine Wp.seqJ (α := Int × Int × Bool) (fun a => ⟨[(0, .t (.int .i64 a.1)), (1, .t (.int .i64 a.2.1)), (4, .t (.int .i64 0)), (12, .t (.bool a.2.2))], [], []⟩) (fun a => spec_Without_j1 u a.1 a.2.1 a.2.2 = some r) ?_ ?_
  · rintro ⟨p0, p1, x3⟩ h
    change spec_Without_j1 u p0 p1 x3 = some r at h
    unfold spec_Without_j1 at h
    refine Wp.cond2 (b := x3) kr (fun hc => ?_) (fun hc => ?_)
    · have h := cond_t h hc
      refine Wp.srg [] [] ?_
      refine Runs.alln ?_
      refine Wp.fg ⟨[(0, .t (.int .i64 p0)), (1, .t (.int .i64 p1)), (4, .t (.int .i64 0))], [], []⟩ ?_
      refine Wp.ret ?_
      refine thenR ?_
      obtain rfl := Option.some.inj h
      exact RetK [.t (.int .i64 0)] _ [] kr kr (.refl _) .nil
    have h := cond_f h hc
    refine Wp.skip (thenN ?_)
    refine Wp.srg [] [] ?_
    refine Runs.alln ?_
    refine Wp.fg ⟨[(4, .t (.int .i64 (bAndNot .i64 p0 p1)))], [], []⟩ ?_
    refine Wp.ret ?_
    obtain rfl := Option.some.inj h
    exact RetK [.t (.int .i64 (bAndNot .i64 p0 p1))] _ [] kr kr (.refl _) .nil
  · refine Wp.rg [] [] ?_
    refine Runs.batch 1 kr ?_
    obtain ⟨r1, e_r1, h⟩ := bind_some h
    refine Runs.callK false 6 92 [] [.t (.int .i64 p0)] _ _ _ rfl rfl kr kr kr kr kr (spec_SetOk_ok u p0 r1 e_r1) kr ?_
    refine Runs.batch 2 kr ?_
    rcases tf (!r1) with hc | hc
    · have h := cond_t h hc
      refine Runs.known 8 (v := true) kr hc ?_
      refine Runs.alln ?_
      exact ⟨(p0, p1, true), h, Le.of (mo := []) (mr := []) kr kr kr kr⟩
    have h := cond_f h hc
    refine Runs.known 8 (v := false) kr hc ?_
    refine Runs.batch 1 kr ?_
    obtain ⟨r2, e_r2, h⟩ := bind_some h
    refine Runs.callK false 10 92 [] [.t (.int .i64 p1)] _ _ _ rfl rfl kr kr kr kr kr (spec_SetOk_ok u p1 r2 e_r2) kr ?_
    refine Runs.alln ?_
    exact ⟨(p0, p1, !r2), h, Le.of (mo := []) (mr := []) kr kr kr kr⟩
theorem spec_Lacking_ok (u : Nat) (p0 : List Int) (p1 : Manifest) (r : Int) (h : spec_Lacking u p0 p1 = some r) : CallOK Tryz.prog 52 [.one (.t (.sl 1 (p0.map (eInt .u8)))), .agg [.t (.int .i64 p1.fGen), .t (.int .i64 p1.fSize), .t (.int .i64 p1.fLen), .t (.sl 2 (p1.fSums.map Sum.enc))]] (.one (.t (.int .i64 r))) [] := by
  unfold spec_Lacking at h
  refine CallOK.of_bodyK (fn := Tryz.f52) (m := false) [.t (.sl 1 (p0.map (eInt .u8))), .agg ((Manifest.enc p1).map .t)] kr rfl kr kr kr kr kr ?_
  refine Wp.srg [] [] ?_
  refine Runs.alln ?_
  refine Wp.fg ⟨[(0, .t (.sl 1 (p0.map (eInt .u8)))), (3, .obj 3 0), (4, .t (.int .i64 0))], [(3, ((Manifest.enc p1).map .t))], []⟩ ?_
  refine Wp.seq ?_
  refine Wp.regionA (pOf []) (rhoOf [(0, .frz), (3, .obj 3), (5, .obj 3), (6, .frz), (7, .frz), (8, .frz), (9, .frz), (10, .frz), (11, .frz), (12, .frz), (13, .frz)]) kr kr ?_
  refine Runs.batch 2 kr ?_
  refine Runs.lenT (y := .t (.sl 2 (p1.fSums.map Sum.enc))) (e := 69) Sum.enc p1.fSums 2 rfl rfl rfl kr kr kr kr kr ?_
  obtain ⟨r1, e_r1, h⟩ := bind_some h
  refine Runs.callK false 8 75 [] [.t (.int .i64 ((p1.fSums.length : Int))), .t (.int .i64 40)] _ _ _ rfl rfl kr kr kr kr kr (spec_Least_ok u ((p1.fSums.length : Int)) 40 r1 e_r1) kr ?_
  obtain ⟨r2, e_r2, h⟩ := bind_some h
  refine Runs.callK false 9 74 [] [.t (.int .i64 r1)] _ _ _ rfl rfl kr kr kr kr kr (spec_FullSet_ok u r1 r2 e_r2) kr ?_
  refine Runs.batch 2 kr ?_
  obtain ⟨r3, e_r3, h⟩ := bind_some h
  refine Runs.callK false 12 76 [] [.t (.sl 1 (p0.map (eInt .u8))), .agg ((Manifest.enc p1).map .t)] _ _ _ rfl rfl kr kr kr kr kr (spec_Found_ok u p0 p1 r3 e_r3) kr ?_
  obtain ⟨r4, e_r4, h⟩ := bind_some h
  refine Runs.callK false 13 73 [] [.t (.int .i64 r2), .t (.int .i64 r3)] _ _ _ rfl rfl kr kr kr kr kr (spec_Without_ok u r2 r3 r4 e_r4) kr ?_
  refine Runs.alln ?_
  refine Wp.fg ⟨[(4, .t (.int .i64 r4))], [], []⟩ ?_
  refine Wp.ret ?_
  obtain rfl := Option.some.inj h
  exact RetK [.t (.int .i64 r4)] _ [] kr kr (.refl _) .nil
theorem spec_InSet_ok (u : Nat) (p0 : Int) (p1 : Int) (r : Bool) (h : spec_InSet u p0 p1 = some r) : CallOK Tryz.prog 72 [.one (.t (.int .i64 p0)), .one (.t (.int .i64 p1))] (.one (.t (.bool r))) [] := by
  unfold spec_InSet at h
  refine CallOK.of_bodyK (fn := Tryz.f72) (m := false) [.t (.int .i64 p0), .t (.int .i64 p1)] kr rfl kr kr kr kr kr ?_
  refine Wp.srg [] [] ?_
  refine Runs.alln ?_
  refine Wp.fg ⟨[(0, .t (.int .i64 p0)), (1, .t (.int .i64 p1)), (4, .t (.bool false))], [], []⟩ ?_
  refine Wp.srg [] [] ?_
  refine Runs.batch 1 kr ?_
  obtain ⟨r1, e_r1, h⟩ := bind_some h
  refine Runs.callK false 6 92 [] [.t (.int .i64 p0)] _ _ _ rfl rfl kr kr kr kr kr (spec_SetOk_ok u p0 r1 e_r1) kr ?_
  refine Runs.batch 1 kr ?_
  rcases tf (r1) with hc | hc
  · have h := cond_t h hc
    refine Runs.known 7 (v := true) kr hc ?_
    refine Runs.batch 1 kr ?_
    obtain ⟨r2, e_r2, h⟩ := bind_some h
    refine Runs.callK false 9 49 [] [.t (.int .i64 p1), .t (.int .i64 0), .t (.int .i64 39)] _ _ _ rfl rfl kr kr kr kr kr (spec_l1In_ok u p1 0 39 r2 e_r2) kr ?_
    refine Runs.batch 2 kr ?_
    rcases tf (r2) with hc | hc
    · have h := cond_t h hc
      refine Runs.known 11 (v := true) kr hc ?_
      refine Runs.batch 2 kr ?_
      obtain ⟨_, e_3, h⟩ := bind_some h
      refine Runs.num .shr (.int .i64 p0) (.int .i64 p1) (.int .i64 (bShr .i64 p0 p1)) rfl kr kr kr kr (bin_shr _ _ _ _ _ (chk_some e_3)) ?_
      refine Runs.alln ?_
      refine Wp.fg ⟨[(4, .t (.bool ((bAnd .i64 (bShr .i64 p0 p1) 1) == 1)))], [], []⟩ ?_
      refine Wp.ret ?_
      obtain rfl := Option.some.inj h
      exact RetK [.t (.bool ((bAnd .i64 (bShr .i64 p0 p1) 1) == 1))] _ [] kr kr (.refl _) .nil
    have h := cond_f h hc
    refine Runs.known 11 (v := false) kr hc ?_
    refine Runs.alln ?_
    refine Wp.fg ⟨[(4, .t (.bool false))], [], []⟩ ?_
    refine Wp.ret ?_
    obtain rfl := Option.some.inj h
    exact RetK [.t (.bool false)] _ [] kr kr (.refl _) .nil
  have h := cond_f h hc
  refine Runs.known 7 (v := false) kr hc ?_
  refine Runs.alln ?_
  refine Wp.fg ⟨[(4, .t (.bool false))], [], []⟩ ?_
  refine Wp.ret ?_
  obtain rfl := Option.some.inj h
  exact RetK [.t (.bool false)] _ [] kr kr (.refl _) .nil
theorem spec_PartsIn_ok (u : Nat) (p0 : Int) (r : (List Int)) (h : spec_PartsIn u p0 = some r) : CallOK Tryz.prog 51 [.one (.t (.int .i64 p0))] (.one (.ow 3 1 (r.map (eInt .i64)))) [] := by
  unfold spec_PartsIn at h
  refine CallOK.of_bodyK (fn := Tryz.f51) (m := true) [.t (.int .i64 p0)] kr rfl kr kr kr kr kr ?_
  refine Wp.srg [] [] ?_
  refine Runs.alln ?_
  refine Wp.fg ⟨[(0, .t (.int .i64 p0)), (2, .nil)], [], []⟩ ?_
  refine Wp.srg [] [] ?_
  refine Runs.alln ?_
  refine Wp.fg ⟨[(0, .t (.int .i64 p0)), (2, .nil), (3, .own 327680)], [], [(327680, .live 3 1 ((([] : List Int)).map (eInt .i64)))]⟩ ?_
  refine Wp.seqJ (α := (List Int)) (fun a => ⟨[(2, .nil), (3, .own 196609)], [], [(196609, .live 3 1 (a.map (eInt .i64)))]⟩) (fun a => spec_PartsIn_j1 u a = some r) ?_ ?_
  · rintro x9 h
    change spec_PartsIn_j1 u x9 = some r at h
    unfold spec_PartsIn_j1 at h
    refine Wp.srg [] [] ?_
    refine Runs.alln ?_
    refine Wp.fg ⟨[(2, .own 196609)], [], [(196609, .live 3 1 (x9.map (eInt .i64)))]⟩ ?_
    refine Wp.ret ?_
    obtain rfl := Option.some.inj h
    exact RetK [.own 196609] _ [] kr kr (.refl _) .nil
  · refine Wp.srg [] [] ?_
    refine Runs.alln ?_
    refine Wp.fg ⟨[(0, .t (.int .i64 p0)), (2, .nil), (3, .own 327680), (4, .t (.int .i64 0))], [], [(327680, .live 3 1 ((([] : List Int)).map (eInt .i64)))]⟩ ?_
    refine Wp.block ?_
    refine Wp.loopF (α := Int × (List Int) × Int) (fun a => ⟨[(0, .t (.int .i64 a.1)), (2, .nil), (3, .own 196609), (4, .t (.int .i64 a.2.2))], [], [(196609, .live 3 1 (a.2.1.map (eInt .i64)))]⟩) (fun k_spec_PartsIn_l2 a => spec_PartsIn_l2 u k_spec_PartsIn_l2 a.1 a.2.1 a.2.2 = some r) ?_ ?_ u (p0, ([] : List Int), 0) h (Le.of (mo := []) (mr := [(196609, 327680)]) kr kr kr kr)
    · intro a h; unfold spec_PartsIn_l2 at h; cases h
    · rintro k_spec_PartsIn_l2 ⟨p0, x3, x4⟩ h
      change spec_PartsIn_l2 u (k_spec_PartsIn_l2 + 1) p0 x3 x4 = some r at h
      rw [spec_PartsIn_l2] at h
      refine Wp.seq ?_
      refine Wp.srg [] [] ?_
      refine Runs.alln ?_
      refine Wp.fg ⟨[(0, .t (.int .i64 p0)), (2, .nil), (3, .own 196609), (4, .t (.int .i64 x4)), (7, .t (.bool (decide (x4 < 40))))], [], [(196609, .live 3 1 (x3.map (eInt .i64)))]⟩ ?_
      refine Wp.cond2 (b := decide (x4 < 40)) kr (fun hc => ?_) (fun hc => ?_)
      · have h := cond_t h hc
        refine Wp.skip (thenN ?_)
        refine Wp.seqJ (α := Int × (List Int) × Int) (fun a => ⟨[(0, .t (.int .i64 a.1)), (2, .nil), (3, .own 196609), (4, .t (.int .i64 a.2.2))], [], [(196609, .live 3 1 (a.2.1.map (eInt .i64)))]⟩) (fun a => spec_PartsIn_j3 u (fun z0 z1 z2 => spec_PartsIn_l2 u k_spec_PartsIn_l2 z0 z1 z2) a.1 a.2.1 a.2.2 = some r) ?_ ?_
        · rintro ⟨p0, x8, x4⟩ h
          change spec_PartsIn_j3 u (fun z0 z1 z2 => spec_PartsIn_l2 u k_spec_PartsIn_l2 z0 z1 z2) p0 x8 x4 = some r at h
          unfold spec_PartsIn_j3 at h
          refine Wp.rg [] [] ?_
          refine Runs.alln ?_
          exact ⟨(p0, x8, bAdd .i64 x4 1), h, Le.of (mo := []) (mr := []) kr kr kr kr⟩
        · refine Wp.block ?_
          refine Wp.srg [] [] ?_
          refine Runs.batch 2 kr ?_
          obtain ⟨r7, e_r7, h⟩ := bind_some h
          refine Runs.callK false 12 72 [] [.t (.int .i64 p0), .t (.int .i64 x4)] _ _ _ rfl rfl kr kr kr kr kr (spec_InSet_ok u p0 x4 r7 e_r7) kr ?_
          refine Runs.done ?_
          refine thenN ?_
          refine Wp.fg ⟨[(0, .t (.int .i64 p0)), (2, .nil), (3, .own 196609), (4, .t (.int .i64 x4)), (12, .t (.bool r7))], [], [(196609, .live 3 1 (x3.map (eInt .i64)))]⟩ ?_
          refine Wp.cond2 (b := r7) kr (fun hc => ?_) (fun hc => ?_)
          · have h := cond_t h hc
            refine Wp.rg [] [] ?_
            refine Runs.batch 3 kr ?_
            obtain ⟨_, e_8, h⟩ := bind_some h
            refine Runs.appT (y := .own 983040) (eInt .i64) 16 1 3 1 8 196609 x3 ([x4]) rfl rfl rfl rfl kr kr kr kr kr kr (.inl rfl) kr (of_decide_eq_true (chk_some e_8)) kr kr ?_
            refine Runs.all kr ?_
            refine blkN ?_
            refine thenN ?_
            exact ⟨(p0, x3 ++ ([x4]), x4), h, Le.of (mo := []) (mr := [(196609, 1048576)]) kr kr kr kr⟩
          have h := cond_f h hc
          refine Wp.skip ?_
          refine blkN ?_
          refine thenN ?_
          exact ⟨(p0, x3, x4), h, Le.of (mo := []) (mr := []) kr kr kr kr⟩
      have h := cond_f h hc
      refine Wp.exit ?_
      refine thenE ?_
      refine thenE ?_
      refine blkE ?_
      refine thenN ?_
      exact ⟨x3, h, Le.of (mo := []) (mr := []) kr kr kr kr⟩
theorem spec_BytesLacking_ok (u : Nat) (p0 : List Int) (p1 : Manifest) (r : Int) (h : spec_BytesLacking u p0 p1 = some r) : CallOK Tryz.prog 33 [.one (.t (.sl 1 (p0.map (eInt .u8)))), .agg [.t (.int .i64 p1.fGen), .t (.int .i64 p1.fSize), .t (.int .i64 p1.fLen), .t (.sl 2 (p1.fSums.map Sum.enc))]] (.one (.t (.int .i64 r))) [] := by
  unfold spec_BytesLacking at h
  refine CallOK.of_bodyK (fn := Tryz.f33) (m := false) [.t (.sl 1 (p0.map (eInt .u8))), .agg ((Manifest.enc p1).map .t)] kr rfl kr kr kr kr kr ?_
  refine Wp.srg [] [] ?_
  refine Runs.alln ?_
  refine Wp.fg ⟨[(0, .t (.sl 1 (p0.map (eInt .u8)))), (3, .obj 3 0), (4, .t (.int .i64 0))], [(3, ((Manifest.enc p1).map .t))], []⟩ ?_
  refine Wp.srg [] [] ?_
  refine Runs.alln ?_
  refine Wp.fg ⟨[(0, .t (.sl 1 (p0.map (eInt .u8)))), (3, .obj 3 0), (4, .t (.int .i64 0)), (5, .t (.int .i64 0))], [(3, ((Manifest.enc p1).map .t))], []⟩ ?_
  refine Wp.srg [] [] ?_
  refine Runs.batch 2 kr ?_
  obtain ⟨r1, e_r1, h⟩ := bind_some h
  refine Runs.callK false 12 52 [] [.t (.sl 1 (p0.map (eInt .u8))), .agg ((Manifest.enc p1).map .t)] _ _ _ rfl rfl kr kr kr kr kr (spec_Lacking_ok u p0 p1 r1 e_r1) kr ?_
  obtain ⟨r2, e_r2, h⟩ := bind_some h
  refine Runs.callK false 13 51 [] [.t (.int .i64 r1)] _ _ _ rfl rfl kr kr kr kr kr (spec_PartsIn_ok u r1 r2 e_r2) kr ?_
  refine Runs.alln ?_
  refine Wp.fg ⟨[(3, .obj 3 0), (4, .t (.int .i64 0)), (5, .t (.int .i64 0)), (6, .own 851968)], [(3, ((Manifest.enc p1).map .t))], [(851968, .live 3 1 (r2.map (eInt .i64)))]⟩ ?_
  refine Wp.seqJ (α := Int) (fun a => ⟨[(4, .t (.int .i64 0)), (5, .t (.int .i64 a))], [], []⟩) (fun a => spec_BytesLacking_j1 u a = some r) ?_ ?_
  · rintro x11 h
    change spec_BytesLacking_j1 u x11 = some r at h
    unfold spec_BytesLacking_j1 at h
    refine Wp.srg [] [] ?_
    refine Runs.alln ?_
    refine Wp.fg ⟨[(4, .t (.int .i64 x11))], [], []⟩ ?_
    refine Wp.ret ?_
    obtain rfl := Option.some.inj h
    exact RetK [.t (.int .i64 x11)] _ [] kr kr (.refl _) .nil
  · refine Wp.srg [] [] ?_
    refine Runs.alln ?_
    refine Wp.fg ⟨[(3, .obj 3 0), (4, .t (.int .i64 0)), (5, .t (.int .i64 0)), (6, .own 851968), (7, .t (.int .i64 0))], [(3, ((Manifest.enc p1).map .t))], [(851968, .live 3 1 (r2.map (eInt .i64)))]⟩ ?_
    refine Wp.block ?_
    refine Wp.loopF (α := Int × ((List Int)) × Int × Manifest) (fun a => ⟨[(3, .obj 3 0), (4, .t (.int .i64 0)), (5, .t (.int .i64 a.1)), (6, .own 393217), (7, .t (.int .i64 a.2.2.1))], [(3, ((Manifest.enc a.2.2.2).map .t))], [(393217, .live 3 1 (a.2.1.map (eInt .i64)))]⟩) (fun k_spec_BytesLacking_l2 a => spec_BytesLacking_l2 u k_spec_BytesLacking_l2 a.1 a.2.1 a.2.2.1 a.2.2.2 = some r) ?_ ?_ u (0, r2, 0, p1) h (Le.of (mo := []) (mr := [(393217, 851968)]) kr kr kr kr)
    · intro a h; unfold spec_BytesLacking_l2 at h; cases h
    · rintro k_spec_BytesLacking_l2 ⟨x5, r2, x6, p1⟩ h
      change spec_BytesLacking_l2 u (k_spec_BytesLacking_l2 + 1) x5 r2 x6 p1 = some r at h
      rw [spec_BytesLacking_l2] at h
      refine Wp.seq ?_
      refine Wp.srg [] [] ?_
      refine Runs.batch 2 kr ?_
      refine Runs.lenT (y := .own 393217) (e := 3) (eInt .i64) r2 1 rfl rfl rfl kr kr kr kr kr ?_
      refine Runs.alln ?_
      refine Wp.fg ⟨[(3, .obj 3 0), (4, .t (.int .i64 0)), (5, .t (.int .i64 x5)), (6, .own 393217), (7, .t (.int .i64 x6)), (17, .t (.bool (decide (x6 < ((r2.length : Int))))))], [(3, ((Manifest.enc p1).map .t))], [(393217, .live 3 1 (r2.map (eInt .i64)))]⟩ ?_
      refine Wp.cond2 (b := decide (x6 < ((r2.length : Int)))) kr (fun hc => ?_) (fun hc => ?_)
      · have h := cond_t h hc
        refine Wp.skip (thenN ?_)
        refine Wp.seq ?_
        refine Wp.block ?_
        refine Wp.seq ?_
        refine Wp.regionA (pOf []) (rhoOf [(3, .obj 3), (6, .own 6), (7, .frz), (21, .obj 3), (22, .frz), (23, .obj 3), (24, .frz), (25, .own 6), (26, .frz), (27, .el 6), (28, .frz), (30, .frz), (31, .frz)]) kr kr ?_
        refine Runs.batch 6 kr ?_
        obtain ⟨y9, e_y9, h⟩ := bind_some h
        refine Runs.idxO (e := 3) (e' := 3) (kk := .i64) (sz := 1) (eInt .i64) r2 x6 393217 rfl kr kr kr kr kr kr kr e_y9 ?_
        refine Runs.loadE (e' := 3) (sz := 1) (m := 1) (gg := false) (eInt .i64) r2 393217 (Int.toNat x6) 0 (.t (.int .i64 y9)) rfl kr kr kr kr kr kr (idx_some e_y9).2 kr ?_
        obtain ⟨r10, e_r10, h⟩ := bind_some h
        refine Runs.callK false 29 53 [] [.t (.int .i64 p1.fSize), .t (.int .i64 p1.fLen), .t (.int .i64 y9)] _ _ _ rfl rfl kr kr kr kr kr (spec_SpanOf_ok u p1.fSize p1.fLen y9 r10 e_r10) kr ?_
        refine Runs.alln ?_
        refine Wp.fg ⟨[(3, .obj 3 0), (4, .t (.int .i64 0)), (5, .t (.int .i64 x5)), (6, .own 393217), (7, .t (.int .i64 x6)), (9, .t (.int .i64 r10.2))], [(3, ((Manifest.enc p1).map .t))], [(393217, .live 3 1 (r2.map (eInt .i64)))]⟩ ?_
        refine Wp.rg [] [] ?_
        refine Runs.all kr ?_
        refine blkN ?_
        refine thenN ?_
        refine Wp.rg [] [] ?_
        refine Runs.alln ?_
        exact ⟨(bAdd .i64 x5 r10.2, r2, bAdd .i64 x6 1, p1), h, Le.of (mo := []) (mr := []) kr kr kr kr⟩
      have h := cond_f h hc
      refine Wp.exit ?_
      refine thenE ?_
      refine thenE ?_
      refine blkE ?_
      refine thenN ?_
      exact ⟨x5, h, Le.of (mo := []) (mr := []) kr kr kr kr⟩
theorem spec_CostOf_ok (u : Nat) (p0 : List Int) (p1 : List Image) (p2 : Int) (r : Int) (h : spec_CostOf u p0 p1 p2 = some r) : CallOK Tryz.prog 13 [.one (.t (.sl 1 (p0.map (eInt .u8)))), .one (.t (.sl 1 (p1.map Image.enc))), .one (.t (.int .i64 p2))] (.one (.t (.int .i64 r))) [] := by
  unfold spec_CostOf at h
  refine CallOK.of_bodyK (fn := Tryz.f13) (m := false) [.t (.sl 1 (p0.map (eInt .u8))), .t (.sl 1 (p1.map Image.enc)), .t (.int .i64 p2)] kr rfl kr kr kr kr kr ?_
  refine Wp.srg [] [] ?_
  refine Runs.alln ?_
  refine Wp.fg ⟨[(0, .t (.sl 1 (p0.map (eInt .u8)))), (1, .t (.sl 1 (p1.map Image.enc))), (2, .t (.int .i64 p2)), (6, .t (.int .i64 0))], [], []⟩ ?_
  refine Wp.seq ?_
  refine Wp.srg [] [] ?_
  refine Runs.batch 2 kr ?_
  refine Runs.lenT (y := .t (.sl 1 (p0.map (eInt .u8)))) (e := 5) (eInt .u8) p0 1 rfl rfl rfl kr kr kr kr kr ?_
  obtain ⟨r1, e_r1, h⟩ := bind_some h
  refine Runs.callK false 13 31 [] [.t (.int .i64 p2), .t (.int .i64 ((p0.length : Int)))] _ _ _ rfl rfl kr kr kr kr kr (spec_SizeOk_ok u p2 ((p0.length : Int)) r1 e_r1) kr ?_
  refine Runs.alln ?_
  refine Wp.fg ⟨[(0, .t (.sl 1 (p0.map (eInt .u8)))), (1, .t (.sl 1 (p1.map Image.enc))), (2, .t (.int .i64 p2)), (6, .t (.int .i64 0)), (14, .t (.bool (!r1)))], [], []⟩ ?_
  refine Wp.cond2 (b := !r1) kr (fun hc => ?_) (fun hc => ?_)
  · have h := cond_t h hc
    refine Wp.srg [] [] ?_
    refine Runs.alln ?_
    refine Wp.fg ⟨[(0, .t (.sl 1 (p0.map (eInt .u8)))), (1, .t (.sl 1 (p1.map Image.enc))), (2, .t (.int .i64 p2)), (6, .t (.int .i64 (-1)))], [], []⟩ ?_
    refine Wp.ret ?_
    refine thenR ?_
    obtain rfl := Option.some.inj h
    exact RetK [.t (.int .i64 (-1))] _ [] kr kr (.refl _) .nil
  have h := cond_f h hc
  refine Wp.skip (thenN ?_)
  refine Wp.srg [] [] ?_
  refine Runs.batch 2 kr ?_
  obtain ⟨r2, e_r2, h⟩ := bind_some h
  refine Runs.callK false 17 32 [] [.t (.int .i64 1), .t (.sl 1 (p0.map (eInt .u8))), .t (.int .i64 p2)] _ _ _ rfl rfl kr kr kr kr kr (spec_ManOf_ok u 1 p0 p2 r2 e_r2) kr ?_
  refine Runs.alln ?_
  refine Wp.fg ⟨[(1, .t (.sl 1 (p1.map Image.enc))), (6, .t (.int .i64 0)), (7, .obj 7 0)], [(7, [.t (.int .i64 r2.fGen), .t (.int .i64 r2.fSize), .t (.int .i64 r2.fLen), .own 1114115])], [(1114115, .live 69 2 (r2.fSums.map Sum.enc))]⟩ ?_
  refine Wp.srg [] [] ?_
  refine Runs.alln ?_
  refine Wp.fg ⟨[(1, .t (.sl 1 (p1.map Image.enc))), (6, .t (.int .i64 0)), (7, .obj 7 0), (8, .t (.int .i64 0))], [(7, [.t (.int .i64 r2.fGen), .t (.int .i64 r2.fSize), .t (.int .i64 r2.fLen), .own 1114115])], [(1114115, .live 69 2 (r2.fSums.map Sum.enc))]⟩ ?_
  refine Wp.seqJ (α := Int) (fun a => ⟨[(6, .t (.int .i64 0)), (8, .t (.int .i64 a))], [], []⟩) (fun a => spec_CostOf_j1 u a = some r) ?_ ?_
  · rintro x12 h
    change spec_CostOf_j1 u x12 = some r at h
    unfold spec_CostOf_j1 at h
    refine Wp.srg [] [] ?_
    refine Runs.alln ?_
    refine Wp.fg ⟨[(6, .t (.int .i64 x12))], [], []⟩ ?_
    refine Wp.ret ?_
    obtain rfl := Option.some.inj h
    exact RetK [.t (.int .i64 x12)] _ [] kr kr (.refl _) .nil
  · refine Wp.srg [] [] ?_
    refine Runs.alln ?_
    refine Wp.fg ⟨[(1, .t (.sl 1 (p1.map Image.enc))), (6, .t (.int .i64 0)), (7, .obj 7 0), (8, .t (.int .i64 0)), (9, .t (.int .i64 0))], [(7, [.t (.int .i64 r2.fGen), .t (.int .i64 r2.fSize), .t (.int .i64 r2.fLen), .own 1114115])], [(1114115, .live 69 2 (r2.fSums.map Sum.enc))]⟩ ?_
    refine Wp.block ?_
    refine Wp.loopF (α := (List Image) × Int × Int × Manifest) (fun a => ⟨[(1, .t (.sl 1 (a.1.map Image.enc))), (6, .t (.int .i64 0)), (7, .obj 7 0), (8, .t (.int .i64 a.2.1)), (9, .t (.int .i64 a.2.2.1))], [(7, ((Manifest.enc a.2.2.2).map .t))], []⟩) (fun k_spec_CostOf_l2 a => spec_CostOf_l2 u k_spec_CostOf_l2 a.1 a.2.1 a.2.2.1 a.2.2.2 = some r) ?_ ?_ u (p1, 0, 0, r2) h (Le.trans (Le.frzO 7 3 1114115 69 2 [.t (.int .i64 r2.fGen), .t (.int .i64 r2.fSize), .t (.int .i64 r2.fLen), .own 1114115] (r2.fSums.map Sum.enc) kr kr kr) (Le.of (mo := []) (mr := []) kr kr kr kr))
    · intro a h; unfold spec_CostOf_l2 at h; cases h
    · rintro k_spec_CostOf_l2 ⟨p1, x5, x6, r2⟩ h
      change spec_CostOf_l2 u (k_spec_CostOf_l2 + 1) p1 x5 x6 r2 = some r at h
      rw [spec_CostOf_l2] at h
      refine Wp.seq ?_
      refine Wp.srg [] [] ?_
      refine Runs.batch 2 kr ?_
      refine Runs.lenT (y := .t (.sl 1 (p1.map Image.enc))) (e := 54) Image.enc p1 1 rfl rfl rfl kr kr kr kr kr ?_
      refine Runs.alln ?_
      refine Wp.fg ⟨[(1, .t (.sl 1 (p1.map Image.enc))), (6, .t (.int .i64 0)), (7, .obj 7 0), (8, .t (.int .i64 x5)), (9, .t (.int .i64 x6)), (21, .t (.bool (decide (x6 < ((p1.length : Int))))))], [(7, ((Manifest.enc r2).map .t))], []⟩ ?_
      refine Wp.cond2 (b := decide (x6 < ((p1.length : Int)))) kr (fun hc => ?_) (fun hc => ?_)
      · have h := cond_t h hc
        refine Wp.skip (thenN ?_)
        refine Wp.seq ?_
        refine Wp.block ?_
        refine Wp.regionA (pOf []) (rhoOf [(1, .frz), (7, .obj 7), (8, .frz), (9, .frz), (24, .frz), (25, .frz), (26, .frz), (27, .frz), (28, .frz), (29, .frz), (30, .frz), (31, .frz), (32, .frz), (33, .frz), (34, .frz), (35, .frz)]) kr kr ?_
        refine Runs.batch 2 kr ?_
        obtain ⟨r9, e_r9, h⟩ := bind_some h
        refine Runs.callK false 26 19 [] [.agg ((Manifest.enc r2).map .t)] _ _ _ rfl rfl kr kr kr kr kr (spec_ManBytes_ok u r2 r9 e_r9) kr ?_
        refine Runs.batch 3 kr ?_
        obtain ⟨y10, e_y10, h⟩ := bind_some h
        refine Runs.idxT (e := 54) (kk := .i64) (sz := 1) Image.enc p1 x6 rfl kr kr kr kr kr kr e_y10 ?_
        refine Runs.batch 3 kr ?_
        obtain ⟨r11, e_r11, h⟩ := bind_some h
        refine Runs.callK false 34 33 [] [.t (.sl 1 (y10.fB.map (eInt .u8))), .agg ((Manifest.enc r2).map .t)] _ _ _ rfl rfl kr kr kr kr kr (spec_BytesLacking_ok u y10.fB r2 r11 e_r11) kr ?_
        refine Runs.all kr ?_
        refine blkN ?_
        refine thenN ?_
        refine Wp.rg [] [] ?_
        refine Runs.alln ?_
        exact ⟨(p1, bAdd .i64 (bAdd .i64 x5 r9) r11, bAdd .i64 x6 1, r2), h, Le.of (mo := []) (mr := []) kr kr kr kr⟩
      have h := cond_f h hc
      refine Wp.exit ?_
      refine thenE ?_
      refine thenE ?_
      refine blkE ?_
      refine thenN ?_
      exact ⟨x5, h, Le.of (mo := []) (mr := []) kr kr kr kr⟩
theorem spec_BestSize_ok (u : Nat) (p0 : List Int) (p1 : List Image) (r : Int) (h : spec_BestSize u p0 p1 = some r) : CallOK Tryz.prog 11 [.one (.t (.sl 1 (p0.map (eInt .u8)))), .one (.t (.sl 1 (p1.map Image.enc)))] (.one (.t (.int .i64 r))) [] := by
  unfold spec_BestSize at h
  refine CallOK.of_bodyK (fn := Tryz.f11) (m := false) [.t (.sl 1 (p0.map (eInt .u8))), .t (.sl 1 (p1.map Image.enc))] kr rfl kr kr kr kr kr ?_
  refine Wp.srg [] [] ?_
  refine Runs.alln ?_
  refine Wp.fg ⟨[(0, .t (.sl 1 (p0.map (eInt .u8)))), (1, .t (.sl 1 (p1.map Image.enc))), (4, .t (.int .i64 0))], [], []⟩ ?_
  refine Wp.srg [] [] ?_
  refine Runs.alln ?_
  refine Wp.fg ⟨[(0, .t (.sl 1 (p0.map (eInt .u8)))), (1, .t (.sl 1 (p1.map Image.enc))), (4, .t (.int .i64 0)), (5, .t (.int .i64 0))], [], []⟩ ?_
  refine Wp.seqJ (α := Int) (fun a => ⟨[(4, .t (.int .i64 0)), (5, .t (.int .i64 a))], [], []⟩) (fun a => spec_BestSize_j1 u a = some r) ?_ ?_
  · rintro x11 h
    change spec_BestSize_j1 u x11 = some r at h
    unfold spec_BestSize_j1 at h
    refine Wp.srg [] [] ?_
    refine Runs.alln ?_
    refine Wp.fg ⟨[(4, .t (.int .i64 x11))], [], []⟩ ?_
    refine Wp.ret ?_
    obtain rfl := Option.some.inj h
    exact RetK [.t (.int .i64 x11)] _ [] kr kr (.refl _) .nil
  · refine Wp.srg [] [] ?_
    refine Runs.alln ?_
    refine Wp.fg ⟨[(0, .t (.sl 1 (p0.map (eInt .u8)))), (1, .t (.sl 1 (p1.map Image.enc))), (4, .t (.int .i64 0)), (5, .t (.int .i64 0)), (6, .t (.int .i64 2))], [], []⟩ ?_
    refine Wp.block ?_
    refine Wp.loopF (α := (List Int) × (List Image) × Int × Int) (fun a => ⟨[(0, .t (.sl 1 (a.1.map (eInt .u8)))), (1, .t (.sl 1 (a.2.1.map Image.enc))), (4, .t (.int .i64 0)), (5, .t (.int .i64 a.2.2.1)), (6, .t (.int .i64 a.2.2.2))], [], []⟩) (fun k_spec_BestSize_l2 a => spec_BestSize_l2 u k_spec_BestSize_l2 a.1 a.2.1 a.2.2.1 a.2.2.2 = some r) ?_ ?_ u (p0, p1, 0, 2) h (Le.of (mo := []) (mr := []) kr kr kr kr)
    · intro a h; unfold spec_BestSize_l2 at h; cases h
    · rintro k_spec_BestSize_l2 ⟨p0, p1, x3, x4⟩ h
      change spec_BestSize_l2 u (k_spec_BestSize_l2 + 1) p0 p1 x3 x4 = some r at h
      rw [spec_BestSize_l2] at h
      refine Wp.seq ?_
      refine Wp.srg [] [] ?_
      refine Runs.alln ?_
      refine Wp.fg ⟨[(0, .t (.sl 1 (p0.map (eInt .u8)))), (1, .t (.sl 1 (p1.map Image.enc))), (4, .t (.int .i64 0)), (5, .t (.int .i64 x3)), (6, .t (.int .i64 x4)), (9, .t (.bool (decide (x4 ≤ 6))))], [], []⟩ ?_
      refine Wp.cond2 (b := decide (x4 ≤ 6)) kr (fun hc => ?_) (fun hc => ?_)
      · have h := cond_t h hc
        refine Wp.skip (thenN ?_)
        refine Wp.seqJ (α := (List Int) × (List Image) × Int × Int) (fun a => ⟨[(0, .t (.sl 1 (a.1.map (eInt .u8)))), (1, .t (.sl 1 (a.2.1.map Image.enc))), (4, .t (.int .i64 0)), (5, .t (.int .i64 a.2.2.1)), (6, .t (.int .i64 a.2.2.2))], [], []⟩) (fun a => spec_BestSize_j3 u (fun z0 z1 z2 z3 => spec_BestSize_l2 u k_spec_BestSize_l2 z0 z1 z2 z3) a.1 a.2.1 a.2.2.1 a.2.2.2 = some r) ?_ ?_
        · rintro ⟨p0, p1, x10, x4⟩ h
          change spec_BestSize_j3 u (fun z0 z1 z2 z3 => spec_BestSize_l2 u k_spec_BestSize_l2 z0 z1 z2 z3) p0 p1 x10 x4 = some r at h
          unfold spec_BestSize_j3 at h
          refine Wp.rg [] [] ?_
          refine Runs.alln ?_
          exact ⟨(p0, p1, x10, bAdd .i64 x4 1), h, Le.of (mo := []) (mr := []) kr kr kr kr⟩
        · refine Wp.block ?_
          refine Wp.srg [] [] ?_
          refine Runs.batch 3 kr ?_
          obtain ⟨r7, e_r7, h⟩ := bind_some h
          refine Runs.callK false 15 13 [] [.t (.sl 1 (p0.map (eInt .u8))), .t (.sl 1 (p1.map Image.enc)), .t (.int .i64 x4)] _ _ _ rfl rfl kr kr kr kr kr (spec_CostOf_ok u p0 p1 x4 r7 e_r7) kr ?_
          refine Runs.alln ?_
          refine Wp.fg ⟨[(0, .t (.sl 1 (p0.map (eInt .u8)))), (1, .t (.sl 1 (p1.map Image.enc))), (4, .t (.int .i64 0)), (5, .t (.int .i64 x3)), (6, .t (.int .i64 x4)), (7, .t (.int .i64 r7))], [], []⟩ ?_
          refine Wp.seqJ (α := (List Int) × (List Image) × Int × Int × Bool) (fun a => ⟨[(0, .t (.sl 1 (a.1.map (eInt .u8)))), (1, .t (.sl 1 (a.2.1.map Image.enc))), (4, .t (.int .i64 0)), (5, .t (.int .i64 a.2.2.1)), (6, .t (.int .i64 a.2.2.2.1)), (29, .t (.bool a.2.2.2.2))], [], []⟩) (fun a => spec_BestSize_j4 u (fun z0 z1 z2 z3 => spec_BestSize_l2 u k_spec_BestSize_l2 z0 z1 z2 z3) a.1 a.2.1 a.2.2.1 a.2.2.2.1 a.2.2.2.2 = some r) ?_ ?_
          · rintro ⟨p0, p1, x3, x4, x9⟩ h
            change spec_BestSize_j4 u (fun z0 z1 z2 z3 => spec_BestSize_l2 u k_spec_BestSize_l2 z0 z1 z2 z3) p0 p1 x3 x4 x9 = some r at h
            unfold spec_BestSize_j4 at h
            refine Wp.cond2 (b := x9) kr (fun hc => ?_) (fun hc => ?_)
            · have h := cond_t h hc
              refine Wp.rg [] [] ?_
              refine Runs.all kr ?_
              refine blkN ?_
              refine thenN ?_
              exact ⟨(p0, p1, x4, x4), h, Le.of (mo := []) (mr := []) kr kr kr kr⟩
            have h := cond_f h hc
            refine Wp.skip ?_
            refine blkN ?_
            refine thenN ?_
            exact ⟨(p0, p1, x3, x4), h, Le.of (mo := []) (mr := []) kr kr kr kr⟩
          · refine Wp.rg [] [] ?_
            refine Runs.batch 3 kr ?_
            rcases tf (decide (r7 ≥ 0)) with hc | hc
            · have h := cond_t h hc
              refine Runs.known 18 (v := true) kr hc ?_
              refine Runs.batch 3 kr ?_
              rcases tf (x3 == 0) with hc | hc
              · have h := cond_t h hc
                refine Runs.known 21 (v := true) kr hc ?_
                refine Runs.alln ?_
                exact ⟨(p0, p1, x3, x4, true), h, Le.of (mo := []) (mr := []) kr kr kr kr⟩
              have h := cond_f h hc
              refine Runs.known 21 (v := false) kr hc ?_
              refine Runs.batch 4 kr ?_
              obtain ⟨r8, e_r8, h⟩ := bind_some h
              refine Runs.callK false 26 13 [] [.t (.sl 1 (p0.map (eInt .u8))), .t (.sl 1 (p1.map Image.enc)), .t (.int .i64 x3)] _ _ _ rfl rfl kr kr kr kr kr (spec_CostOf_ok u p0 p1 x3 r8 e_r8) kr ?_
              refine Runs.alln ?_
              exact ⟨(p0, p1, x3, x4, decide (r7 < r8)), h, Le.of (mo := []) (mr := []) kr kr kr kr⟩
            have h := cond_f h hc
            refine Runs.known 18 (v := false) kr hc ?_
            refine Runs.alln ?_
            exact ⟨(p0, p1, x3, x4, false), h, Le.of (mo := []) (mr := []) kr kr kr kr⟩
      have h := cond_f h hc
      refine Wp.exit ?_
      refine thenE ?_
      refine thenE ?_
      refine blkE ?_
      refine thenN ?_
      exact ⟨x3, h, Le.of (mo := []) (mr := []) kr kr kr kr⟩
theorem impl_SavedBy_ok (u : Nat) (p0 : List Int) (p1 : List Int) (p2 : Int) (r : Int) (h : impl_SavedBy u p0 p1 p2 = some r) : CallOK Tryz.prog 14 [.one (.t (.sl 1 (p0.map (eInt .u8)))), .one (.t (.sl 1 (p1.map (eInt .u8)))), .one (.t (.int .i64 p2))] (.one (.t (.int .i64 r))) [] := by
  unfold impl_SavedBy at h
  refine CallOK.of_bodyK (fn := Tryz.f14) (m := false) [.t (.sl 1 (p0.map (eInt .u8))), .t (.sl 1 (p1.map (eInt .u8))), .t (.int .i64 p2)] kr rfl kr kr kr kr kr ?_
  refine Wp.srg [] [] ?_
  refine Runs.alln ?_
  refine Wp.fg ⟨[(0, .t (.sl 1 (p0.map (eInt .u8)))), (1, .t (.sl 1 (p1.map (eInt .u8)))), (2, .t (.int .i64 p2)), (6, .t (.int .i64 0))], [], []⟩ ?_
  refine Wp.seq ?_
  refine Wp.srg [] [] ?_
  refine Runs.batch 2 kr ?_
  refine Runs.lenT (y := .t (.sl 1 (p0.map (eInt .u8)))) (e := 5) (eInt .u8) p0 1 rfl rfl rfl kr kr kr kr kr ?_
  obtain ⟨r1, e_r1, h⟩ := bind_some h
  refine Runs.callK false 10 22 [] [.t (.int .i64 p2), .t (.int .i64 ((p0.length : Int)))] _ _ _ rfl rfl kr kr kr kr kr (impl_SizeOk_ok u p2 ((p0.length : Int)) r1 e_r1) kr ?_
  refine Runs.alln ?_
  refine Wp.fg ⟨[(0, .t (.sl 1 (p0.map (eInt .u8)))), (1, .t (.sl 1 (p1.map (eInt .u8)))), (2, .t (.int .i64 p2)), (6, .t (.int .i64 0)), (11, .t (.bool (!r1)))], [], []⟩ ?_
  refine Wp.cond2 (b := !r1) kr (fun hc => ?_) (fun hc => ?_)
  · have h := cond_t h hc
    refine Wp.srg [] [] ?_
    refine Runs.alln ?_
    refine Wp.fg ⟨[(0, .t (.sl 1 (p0.map (eInt .u8)))), (1, .t (.sl 1 (p1.map (eInt .u8)))), (2, .t (.int .i64 p2)), (6, .t (.int .i64 0))], [], []⟩ ?_
    refine Wp.ret ?_
    refine thenR ?_
    obtain rfl := Option.some.inj h
    exact RetK [.t (.int .i64 0)] _ [] kr kr (.refl _) .nil
  have h := cond_f h hc
  refine Wp.skip (thenN ?_)
  refine Wp.srg [] [] ?_
  refine Runs.batch 1 kr ?_
  refine Runs.lenT (y := .t (.sl 1 (p0.map (eInt .u8)))) (e := 5) (eInt .u8) p0 1 rfl rfl rfl kr kr kr kr kr ?_
  refine Runs.batch 3 kr ?_
  obtain ⟨r2, e_r2, h⟩ := bind_some h
  refine Runs.callK false 17 29 [] [.t (.int .i64 1), .t (.sl 1 (p0.map (eInt .u8))), .t (.int .i64 p2)] _ _ _ rfl rfl kr kr kr kr kr (impl_ManOf_ok u 1 p0 p2 r2 e_r2) kr ?_
  obtain ⟨r3, e_r3, h⟩ := bind_some h
  refine Runs.callBK 18 30 [] [.t (.sl 1 (p1.map (eInt .u8))), .agg [.t (.int .i64 r2.fGen), .t (.int .i64 r2.fSize), .t (.int .i64 r2.fLen), .own 1114115]] [.one (.t (.sl 1 (p1.map (eInt .u8)))), .agg ((Manifest.enc r2).map .t)] (.one (.t (.int .i64 r3))) rfl rfl kr kr kr kr kr (impl_BytesLacking_ok u p1 r2 r3 e_r3) (by simp [V.plain, V.plains, C.plain, T.sc]) kr ?_
  refine Runs.alln ?_
  refine Wp.fg ⟨[(6, .t (.int .i64 (bSub .i64 ((p0.length : Int)) r3)))], [], []⟩ ?_
  refine Wp.ret ?_
  obtain rfl := Option.some.inj h
  exact RetK [.t (.int .i64 (bSub .i64 ((p0.length : Int)) r3))] _ [] kr kr (.refl _) .nil
theorem spec_SavedBy_ok (u : Nat) (p0 : List Int) (p1 : List Int) (p2 : Int) (r : Int) (h : spec_SavedBy u p0 p1 p2 = some r) : CallOK Tryz.prog 15 [.one (.t (.sl 1 (p0.map (eInt .u8)))), .one (.t (.sl 1 (p1.map (eInt .u8)))), .one (.t (.int .i64 p2))] (.one (.t (.int .i64 r))) [] := by
  unfold spec_SavedBy at h
  refine CallOK.of_bodyK (fn := Tryz.f15) (m := false) [.t (.sl 1 (p0.map (eInt .u8))), .t (.sl 1 (p1.map (eInt .u8))), .t (.int .i64 p2)] kr rfl kr kr kr kr kr ?_
  refine Wp.srg [] [] ?_
  refine Runs.alln ?_
  refine Wp.fg ⟨[(0, .t (.sl 1 (p0.map (eInt .u8)))), (1, .t (.sl 1 (p1.map (eInt .u8)))), (2, .t (.int .i64 p2)), (6, .t (.int .i64 0))], [], []⟩ ?_
  refine Wp.seq ?_
  refine Wp.srg [] [] ?_
  refine Runs.batch 2 kr ?_
  refine Runs.lenT (y := .t (.sl 1 (p0.map (eInt .u8)))) (e := 5) (eInt .u8) p0 1 rfl rfl rfl kr kr kr kr kr ?_
  obtain ⟨r1, e_r1, h⟩ := bind_some h
  refine Runs.callK false 10 31 [] [.t (.int .i64 p2), .t (.int .i64 ((p0.length : Int)))] _ _ _ rfl rfl kr kr kr kr kr (spec_SizeOk_ok u p2 ((p0.length : Int)) r1 e_r1) kr ?_
  refine Runs.alln ?_
  refine Wp.fg ⟨[(0, .t (.sl 1 (p0.map (eInt .u8)))), (1, .t (.sl 1 (p1.map (eInt .u8)))), (2, .t (.int .i64 p2)), (6, .t (.int .i64 0)), (11, .t (.bool (!r1)))], [], []⟩ ?_
  refine Wp.cond2 (b := !r1) kr (fun hc => ?_) (fun hc => ?_)
  · have h := cond_t h hc
    refine Wp.srg [] [] ?_
    refine Runs.alln ?_
    refine Wp.fg ⟨[(0, .t (.sl 1 (p0.map (eInt .u8)))), (1, .t (.sl 1 (p1.map (eInt .u8)))), (2, .t (.int .i64 p2)), (6, .t (.int .i64 0))], [], []⟩ ?_
    refine Wp.ret ?_
    refine thenR ?_
    obtain rfl := Option.some.inj h
    exact RetK [.t (.int .i64 0)] _ [] kr kr (.refl _) .nil
  have h := cond_f h hc
  refine Wp.skip (thenN ?_)
  refine Wp.srg [] [] ?_
  refine Runs.batch 1 kr ?_
  refine Runs.lenT (y := .t (.sl 1 (p0.map (eInt .u8)))) (e := 5) (eInt .u8) p0 1 rfl rfl rfl kr kr kr kr kr ?_
  refine Runs.batch 3 kr ?_
  obtain ⟨r2, e_r2, h⟩ := bind_some h
  refine Runs.callK false 17 32 [] [.t (.int .i64 1), .t (.sl 1 (p0.map (eInt .u8))), .t (.int .i64 p2)] _ _ _ rfl rfl kr kr kr kr kr (spec_ManOf_ok u 1 p0 p2 r2 e_r2) kr ?_
  obtain ⟨r3, e_r3, h⟩ := bind_some h
  refine Runs.callBK 18 33 [] [.t (.sl 1 (p1.map (eInt .u8))), .agg [.t (.int .i64 r2.fGen), .t (.int .i64 r2.fSize), .t (.int .i64 r2.fLen), .own 1114115]] [.one (.t (.sl 1 (p1.map (eInt .u8)))), .agg ((Manifest.enc r2).map .t)] (.one (.t (.int .i64 r3))) rfl rfl kr kr kr kr kr (spec_BytesLacking_ok u p1 r2 r3 e_r3) (by simp [V.plain, V.plains, C.plain, T.sc]) kr ?_
  refine Runs.alln ?_
  refine Wp.fg ⟨[(6, .t (.int .i64 (bSub .i64 ((p0.length : Int)) r3)))], [], []⟩ ?_
  refine Wp.ret ?_
  obtain rfl := Option.some.inj h
  exact RetK [.t (.int .i64 (bSub .i64 ((p0.length : Int)) r3))] _ [] kr kr (.refl _) .nil
theorem impl_WorstFor_ok (u : Nat) (p0 : List Int) (p1 : Int) (p2 : Int) (r : Int) (h : impl_WorstFor u p0 p1 p2 = some r) : CallOK Tryz.prog 16 [.one (.t (.sl 1 (p0.map (eInt .u8)))), .one (.t (.int .i64 p1)), .one (.t (.int .i64 p2))] (.one (.t (.int .i64 r))) [] := by
  unfold impl_WorstFor at h
  refine CallOK.of_bodyK (fn := Tryz.f16) (m := false) [.t (.sl 1 (p0.map (eInt .u8))), .t (.int .i64 p1), .t (.int .i64 p2)] kr rfl kr kr kr kr kr ?_
  refine Wp.srg [] [] ?_
  refine Runs.alln ?_
  refine Wp.fg ⟨[(0, .t (.sl 1 (p0.map (eInt .u8)))), (1, .t (.int .i64 p1)), (2, .t (.int .i64 p2)), (6, .t (.int .i64 0))], [], []⟩ ?_
  refine Wp.seqJ (α := (List Int) × Int × Int) (fun a => ⟨[(0, .t (.sl 1 (a.1.map (eInt .u8)))), (1, .t (.int .i64 a.2.1)), (2, .t (.int .i64 a.2.2)), (6, .t (.int .i64 0))], [], []⟩) (fun a => impl_WorstFor_j1 u a.1 a.2.1 a.2.2 = some r) ?_ ?_
  · rintro ⟨p0, x2, p2⟩ h
    change impl_WorstFor_j1 u p0 x2 p2 = some r at h
    unfold impl_WorstFor_j1 at h
    refine Wp.srg [] [] ?_
    refine Runs.batch 2 kr ?_
    obtain ⟨_, e_3, h⟩ := bind_some h
    obtain ⟨_, e_4, h⟩ := bind_some h
    refine Runs.mkS Image.enc ((Image.mk ([])) : Image) 12 54 1 24 x2 x2 rfl rfl kr kr kr kr kr kr (chk_some e_3) (of_decide_eq_true (chk_some e_4)) kr ?_
    refine Runs.batch 1 kr ?_
    obtain ⟨r5, e_r5, h⟩ := bind_some h
    refine Runs.callBK 14 12 [] [.t (.sl 1 (p0.map (eInt .u8))), .own 786432, .t (.int .i64 p2)] [.one (.t (.sl 1 (p0.map (eInt .u8)))), .one (.t (.sl 1 ((List.replicate (Int.toNat x2) ((Image.mk ([])) : Image)).map Image.enc))), .one (.t (.int .i64 p2))] (.one (.t (.int .i64 r5))) rfl rfl kr kr kr kr kr (impl_CostOf_ok u p0 (List.replicate (Int.toNat x2) ((Image.mk ([])) : Image)) p2 r5 e_r5) (by simp [V.plain, V.plains, C.plain, T.sc]) kr ?_
    refine Runs.alln ?_
    refine Wp.fg ⟨[(6, .t (.int .i64 r5))], [], []⟩ ?_
    refine Wp.ret ?_
    obtain rfl := Option.some.inj h
    exact RetK [.t (.int .i64 r5)] _ [] kr kr (.refl _) .nil
  · refine Wp.srg [] [] ?_
    refine Runs.batch 1 kr ?_
    obtain ⟨r1, e_r1, h⟩ := bind_some h
    refine Runs.callK false 8 34 [] [.t (.int .i64 p1), .t (.int .i64 0), .t (.int .i64 7)] _ _ _ rfl rfl kr kr kr kr kr (impl_within_ok u p1 0 7 r1 e_r1) kr ?_
    refine Runs.alln ?_
    refine Wp.fg ⟨[(0, .t (.sl 1 (p0.map (eInt .u8)))), (1, .t (.int .i64 p1)), (2, .t (.int .i64 p2)), (6, .t (.int .i64 0)), (9, .t (.bool (!r1)))], [], []⟩ ?_
    refine Wp.cond2 (b := !r1) kr (fun hc => ?_) (fun hc => ?_)
    · have h := cond_t h hc
      refine Wp.rg [] [] ?_
      refine Runs.alln ?_
      exact ⟨(p0, 0, p2), h, Le.of (mo := []) (mr := []) kr kr kr kr⟩
    have h := cond_f h hc
    refine Wp.skip (thenN ?_)
    exact ⟨(p0, p1, p2), h, Le.of (mo := []) (mr := []) kr kr kr kr⟩
theorem spec_WorstFor_ok (u : Nat) (p0 : List Int) (p1 : Int) (p2 : Int) (r : Int) (h : spec_WorstFor u p0 p1 p2 = some r) : CallOK Tryz.prog 17 [.one (.t (.sl 1 (p0.map (eInt .u8)))), .one (.t (.int .i64 p1)), .one (.t (.int .i64 p2))] (.one (.t (.int .i64 r))) [] := by
  unfold spec_WorstFor at h
  refine CallOK.of_bodyK (fn := Tryz.f17) (m := false) [.t (.sl 1 (p0.map (eInt .u8))), .t (.int .i64 p1), .t (.int .i64 p2)] kr rfl kr kr kr kr kr ?_
  refine Wp.srg [] [] ?_
  refine Runs.alln ?_
  refine Wp.fg ⟨[(0, .t (.sl 1 (p0.map (eInt .u8)))), (1, .t (.int .i64 p1)), (2, .t (.int .i64 p2)), (6, .t (.int .i64 0))], [], []⟩ ?_
  refine Wp.srg [] [] ?_
  refine Runs.alln ?_
  refine Wp.fg ⟨[(0, .t (.sl 1 (p0.map (eInt .u8)))), (1, .t (.int .i64 p1)), (2, .t (.int .i64 p2)), (6, .t (.int .i64 0)), (7, .own 589824)], [], [(589824, .live 54 1 ((([] : List Image)).map Image.enc))]⟩ ?_
  refine Wp.seqJ (α := (List Int) × Int × (List Image)) (fun a => ⟨[(0, .t (.sl 1 (a.1.map (eInt .u8)))), (2, .t (.int .i64 a.2.1)), (6, .t (.int .i64 0)), (7, .own 458753)], [], [(458753, .live 54 1 (a.2.2.map Image.enc))]⟩) (fun a => spec_WorstFor_j1 u a.1 a.2.1 a.2.2 = some r) ?_ ?_
  · rintro ⟨p0, p2, x8⟩ h
    change spec_WorstFor_j1 u p0 p2 x8 = some r at h
    unfold spec_WorstFor_j1 at h
    refine Wp.srg [] [] ?_
    refine Runs.batch 3 kr ?_
    obtain ⟨r9, e_r9, h⟩ := bind_some h
    refine Runs.callBK 26 13 [] [.t (.sl 1 (p0.map (eInt .u8))), .own 458753, .t (.int .i64 p2)] [.one (.t (.sl 1 (p0.map (eInt .u8)))), .one (.t (.sl 1 (x8.map Image.enc))), .one (.t (.int .i64 p2))] (.one (.t (.int .i64 r9))) rfl rfl kr kr kr kr kr (spec_CostOf_ok u p0 x8 p2 r9 e_r9) (by simp [V.plain, V.plains, C.plain, T.sc]) kr ?_
    refine Runs.alln ?_
    refine Wp.fg ⟨[(6, .t (.int .i64 r9))], [], []⟩ ?_
    refine Wp.ret ?_
    obtain rfl := Option.some.inj h
    exact RetK [.t (.int .i64 r9)] _ [] kr kr (.refl _) .nil
  · refine Wp.srg [] [] ?_
    refine Runs.alln ?_
    refine Wp.fg ⟨[(0, .t (.sl 1 (p0.map (eInt .u8)))), (1, .t (.int .i64 p1)), (2, .t (.int .i64 p2)), (6, .t (.int .i64 0)), (7, .own 589824), (8, .t (.int .i64 0))], [], [(589824, .live 54 1 ((([] : List Image)).map Image.enc))]⟩ ?_
    refine Wp.block ?_
    refine Wp.loopF (α := (List Int) × Int × Int × (List Image) × Int) (fun a => ⟨[(0, .t (.sl 1 (a.1.map (eInt .u8)))), (1, .t (.int .i64 a.2.1)), (2, .t (.int .i64 a.2.2.1)), (6, .t (.int .i64 0)), (7, .own 458753), (8, .t (.int .i64 a.2.2.2.2))], [], [(458753, .live 54 1 (a.2.2.2.1.map Image.enc))]⟩) (fun k_spec_WorstFor_l2 a => spec_WorstFor_l2 u k_spec_WorstFor_l2 a.1 a.2.1 a.2.2.1 a.2.2.2.1 a.2.2.2.2 = some r) ?_ ?_ u (p0, p1, p2, ([] : List Image), 0) h (Le.of (mo := []) (mr := [(458753, 589824)]) kr kr kr kr)
    · intro a h; unfold spec_WorstFor_l2 at h; cases h
    · rintro k_spec_WorstFor_l2 ⟨p0, p1, p2, x3, x4⟩ h
      change spec_WorstFor_l2 u (k_spec_WorstFor_l2 + 1) p0 p1 p2 x3 x4 = some r at h
      rw [spec_WorstFor_l2] at h
      refine Wp.seq ?_
      refine Wp.seqJ (α := (List Int) × Int × Int × (List Image) × Int × Bool) (fun a => ⟨[(0, .t (.sl 1 (a.1.map (eInt .u8)))), (1, .t (.int .i64 a.2.1)), (2, .t (.int .i64 a.2.2.1)), (6, .t (.int .i64 0)), (7, .own 458753), (8, .t (.int .i64 a.2.2.2.2.1)), (16, .t (.bool a.2.2.2.2.2))], [], [(458753, .live 54 1 (a.2.2.2.1.map Image.enc))]⟩) (fun a => spec_WorstFor_j3 u (fun z0 z1 z2 z3 z4 => spec_WorstFor_l2 u k_spec_WorstFor_l2 z0 z1 z2 z3 z4) a.1 a.2.1 a.2.2.1 a.2.2.2.1 a.2.2.2.2.1 a.2.2.2.2.2 = some r) ?_ ?_
      · rintro ⟨p0, p1, p2, x3, x4, x7⟩ h
        change spec_WorstFor_j3 u (fun z0 z1 z2 z3 z4 => spec_WorstFor_l2 u k_spec_WorstFor_l2 z0 z1 z2 z3 z4) p0 p1 p2 x3 x4 x7 = some r at h
        unfold spec_WorstFor_j3 at h
        refine Wp.cond2 (b := x7) kr (fun hc => ?_) (fun hc => ?_)
        · have h := cond_t h hc
          refine Wp.skip (thenN ?_)
          refine Wp.seq ?_
          refine Wp.block ?_
          refine Wp.rg [] [] ?_
          refine Runs.batch 3 kr ?_
          obtain ⟨_, e_8, h⟩ := bind_some h
          refine Runs.appT (y := .own 1376256) Image.enc 22 1 54 1 24 458753 x3 ([(Image.mk ([]))]) rfl rfl rfl rfl kr kr kr kr kr kr (.inl rfl) kr (of_decide_eq_true (chk_some e_8)) kr kr ?_
          refine Runs.all kr ?_
          refine blkN ?_
          refine thenN ?_
          refine Wp.rg [] [] ?_
          refine Runs.alln ?_
          exact ⟨(p0, p1, p2, x3 ++ ([(Image.mk ([]))]), bAdd .i64 x4 1), h, Le.of (mo := []) (mr := [(458753, 1441792)]) kr kr kr kr⟩
        have h := cond_f h hc
        refine Wp.exit ?_
        refine thenE ?_
        refine thenE ?_
        refine blkE ?_
        refine thenN ?_
        exact ⟨(p0, p2, x3), h, Le.of (mo := []) (mr := []) kr kr kr kr⟩
      · refine Wp.rg [] [] ?_
        refine Runs.batch 4 kr ?_
        rcases tf (decide (x4 < p1)) with hc | hc
        · have h := cond_t h hc
          refine Runs.known 13 (v := true) kr hc ?_
          refine Runs.alln ?_
          exact ⟨(p0, p1, p2, x3, x4, decide (p1 ≤ 7)), h, Le.of (mo := []) (mr := []) kr kr kr kr⟩
        have h := cond_f h hc
        refine Runs.known 13 (v := false) kr hc ?_
        refine Runs.alln ?_
        exact ⟨(p0, p1, p2, x3, x4, false), h, Le.of (mo := []) (mr := []) kr kr kr kr⟩
def laysItoa_ren : Go.Shelf.Ren := ⟨fun | 171 => 81 | 243 => 96 | 246 => 102 | 283 => 106 | 284 => 107 | 285 => 108 | 286 => 109 | 129 => 112 | 317 => 111 | 318 => 113 | 319 => 114 | 320 => 115 | 337 => 119 | 338 => 120 | n => n, fun | 3 => 3 | 9 => 9 | 2 => 2 | 4 => 4 | 171 => 106 | 0 => 0 | 53 => 107 | 37 => 22 | 5 => 5 | 173 => 110 | 212 => 114 | 51 => 115 | 20 => 20 | 213 => 116 | 46 => 87 | 232 => 120 | 233 => 121 | n => n, fun | 17 => 1 | 18 => 2 | 19 => 3 | n => n⟩
theorem laysItoa : Go.Proofs.LaysM.n171 Tryz.prog laysItoa_ren := {
  mixed := by kernel_rfl,
  f129 := Tryz.func112.trans (congrArg some kr),
  f171 := Tryz.func81.trans (congrArg some kr),
  f243 := Tryz.func96.trans (congrArg some kr),
  f246 := Tryz.func102.trans (congrArg some kr),
  f283 := Tryz.func106.trans (congrArg some kr),
  f284 := Tryz.func107.trans (congrArg some kr),
  f285 := Tryz.func108.trans (congrArg some kr),
  f286 := Tryz.func109.trans (congrArg some kr),
  f317 := Tryz.func111.trans (congrArg some kr),
  f318 := Tryz.func113.trans (congrArg some kr),
  f319 := Tryz.func114.trans (congrArg some kr),
  f320 := Tryz.func115.trans (congrArg some kr),
  f337 := Tryz.func119.trans (congrArg some kr),
  f338 := Tryz.func120.trans (congrArg some kr),
  t0 := Tryz.underlying0,
  a0 := Tryz.isAgg0,
  z0 := Tryz.sizeOf0,
  v0 := Tryz.zeroValue0,
  t2 := Tryz.underlying2,
  a2 := Tryz.isAgg2,
  z2 := Tryz.sizeOf2,
  v2 := Tryz.zeroValue2,
  t3 := Tryz.underlying3,
  a3 := Tryz.isAgg3,
  z3 := Tryz.sizeOf3,
  v3 := Tryz.zeroValue3,
  t4 := Tryz.underlying4,
  a4 := Tryz.isAgg4,
  z4 := Tryz.sizeOf4,
  v4 := Tryz.zeroValue4,
  t5 := Tryz.underlying5,
  a5 := Tryz.isAgg5,
  z5 := Tryz.sizeOf5,
  v5 := Tryz.zeroValue5,
  t9 := Tryz.underlying9,
  a9 := Tryz.isAgg9,
  z9 := Tryz.sizeOf9,
  v9 := Tryz.zeroValue9,
  t20 := Tryz.underlying20,
  a20 := Tryz.isAgg20,
  z20 := Tryz.sizeOf20,
  v20 := Tryz.zeroValue20,
  t37 := Tryz.underlying22,
  a37 := Tryz.isAgg22,
  z37 := Tryz.sizeOf22,
  v37 := Tryz.zeroValue22,
  t46 := Tryz.underlying87,
  a46 := Tryz.isAgg87,
  z46 := Tryz.sizeOf87,
  v46 := Tryz.zeroValue87,
  t51 := Tryz.underlying115,
  a51 := Tryz.isAgg115,
  z51 := Tryz.sizeOf115,
  v51 := Tryz.zeroValue115,
  t53 := Tryz.underlying107,
  a53 := Tryz.isAgg107,
  z53 := Tryz.sizeOf107,
  v53 := Tryz.zeroValue107,
  t171 := Tryz.underlying106,
  a171 := Tryz.isAgg106,
  z171 := Tryz.sizeOf106,
  v171 := Tryz.zeroValue106,
  t173 := Tryz.underlying110,
  a173 := Tryz.isAgg110,
  z173 := Tryz.sizeOf110,
  v173 := Tryz.zeroValue110,
  t212 := Tryz.underlying114,
  a212 := Tryz.isAgg114,
  z212 := Tryz.sizeOf114,
  v212 := Tryz.zeroValue114,
  t213 := Tryz.underlying116,
  a213 := Tryz.isAgg116,
  z213 := Tryz.sizeOf116,
  t232 := Tryz.underlying120,
  a232 := Tryz.isAgg120,
  z232 := Tryz.sizeOf120,
  v232 := Tryz.zeroValue120,
  t233 := Tryz.underlying121,
  a233 := Tryz.isAgg121,
  z233 := Tryz.sizeOf121,
  v233 := Tryz.zeroValue121,
  g17 := by kernel_rfl,
  g18 := by kernel_rfl,
  g19 := by kernel_rfl,
  i0 := by kernel_rfl,
  i2 := by kernel_rfl,
  i3 := by kernel_rfl,
  i4 := by kernel_rfl,
  i5 := by kernel_rfl,
  i9 := by kernel_rfl,
  i20 := by kernel_rfl,
  i37 := by kernel_rfl,
  i46 := by kernel_rfl,
  i51 := by kernel_rfl,
  i53 := by kernel_rfl,
  i171 := by kernel_rfl,
  i173 := by kernel_rfl,
  i212 := by kernel_rfl,
  i232 := by kernel_rfl,
  i233 := by kernel_rfl,
  m17 := by kernel_rfl,
  m18 := by kernel_rfl,
  m19 := by kernel_rfl }
theorem strconv_Itoa_ok (u : Nat) (p0 : Int) (r : ByteArray) (h : strconv_Itoa u p0 = some r) : CallOK Tryz.prog 81 [.one (.t (.int .i64 p0))] (.one (.t (.str r))) [] :=
  itoa_call ⟨_, Tryz.func81, by kernel_rfl, by kernel_rfl⟩ (k := 1) kr (fun n h0 h1 w ht => Go.Proofs.Any.strconv_Itoa laysItoa n h0 h1 w ht) h
theorem impl_NumText_ok (u : Nat) (p0 : Int) (r : ByteArray) (h : impl_NumText u p0 = some r) : CallOK Tryz.prog 61 [.one (.t (.int .i64 p0))] (.one (.t (.str r))) [] := by
  unfold impl_NumText at h
  refine CallOK.of_bodyK (fn := Tryz.f61) (m := false) [.t (.int .i64 p0)] kr rfl kr kr kr kr kr ?_
  refine Wp.srg [] [] ?_
  refine Runs.alln ?_
  refine Wp.fg ⟨[(0, .t (.int .i64 p0)), (2, .t (.str ((ByteArray.mk #[]))))], [], []⟩ ?_
  refine Wp.srg [] [] ?_
  refine Runs.batch 1 kr ?_
  obtain ⟨r1, e_r1, h⟩ := bind_some h
  refine Runs.callK false 4 81 [] [.t (.int .i64 p0)] _ _ _ rfl rfl kr kr kr kr kr (strconv_Itoa_ok u p0 r1 e_r1) kr ?_
  refine Runs.alln ?_
  refine Wp.fg ⟨[(2, .t (.str r1))], [], []⟩ ?_
  refine Wp.ret ?_
  obtain rfl := Option.some.inj h
  exact RetK [.t (.str r1)] _ [] kr kr (.refl _) .nil
def laysJoin_ren : Go.Shelf.Ren := ⟨fun | 156 => 62 | 165 => 82 | 166 => 83 | 169 => 84 | 240 => 97 | 241 => 98 | 276 => 103 | 277 => 104 | n => n, fun | 31 => 77 | 9 => 9 | 3 => 3 | 4 => 4 | 0 => 0 | 20 => 20 | 72 => 90 | 76 => 94 | 70 => 88 | 37 => 22 | 75 => 93 | 127 => 99 | 164 => 102 | 5 => 5 | 80 => 96 | n => n, fun | n => n⟩
theorem laysJoin : Go.Proofs.Lays.n156 Tryz.prog laysJoin_ren := {
  mixed := by kernel_rfl,
  f156 := Tryz.func62.trans (congrArg some kr),
  f165 := Tryz.func82.trans (congrArg some kr),
  f166 := Tryz.func83.trans (congrArg some kr),
  f169 := Tryz.func84.trans (congrArg some kr),
  f240 := Tryz.func97.trans (congrArg some kr),
  f241 := Tryz.func98.trans (congrArg some kr),
  f276 := Tryz.func103.trans (congrArg some kr),
  f277 := Tryz.func104.trans (congrArg some kr),
  t0 := Tryz.underlying0,
  a0 := Tryz.isAgg0,
  z0 := Tryz.sizeOf0,
  v0 := Tryz.zeroValue0,
  t3 := Tryz.underlying3,
  a3 := Tryz.isAgg3,
  z3 := Tryz.sizeOf3,
  v3 := Tryz.zeroValue3,
  t4 := Tryz.underlying4,
  a4 := Tryz.isAgg4,
  z4 := Tryz.sizeOf4,
  v4 := Tryz.zeroValue4,
  t9 := Tryz.underlying9,
  a9 := Tryz.isAgg9,
  z9 := Tryz.sizeOf9,
  v9 := Tryz.zeroValue9,
  t20 := Tryz.underlying20,
  a20 := Tryz.isAgg20,
  z20 := Tryz.sizeOf20,
  v20 := Tryz.zeroValue20,
  t31 := Tryz.underlying77,
  a31 := Tryz.isAgg77,
  z31 := Tryz.sizeOf77,
  v31 := Tryz.zeroValue77,
  t37 := Tryz.underlying22,
  a37 := Tryz.isAgg22,
  z37 := Tryz.sizeOf22,
  v37 := Tryz.zeroValue22,
  t70 := Tryz.underlying88,
  a70 := Tryz.isAgg88,
  z70 := Tryz.sizeOf88,
  v70 := Tryz.zeroValue88,
  t72 := Tryz.underlying90,
  a72 := Tryz.isAgg90,
  z72 := Tryz.sizeOf90,
  v72 := Tryz.zeroValue90,
  t75 := Tryz.underlying93,
  a75 := Tryz.isAgg93,
  z75 := Tryz.sizeOf93,
  v75 := Tryz.zeroValue93,
  t76 := Tryz.underlying94,
  a76 := Tryz.isAgg94,
  z76 := Tryz.sizeOf94,
  v76 := Tryz.zeroValue94,
  t127 := Tryz.underlying99,
  a127 := Tryz.isAgg99,
  z127 := Tryz.sizeOf99,
  v127 := Tryz.zeroValue99,
  t164 := Tryz.underlying102,
  a164 := Tryz.isAgg102,
  z164 := Tryz.sizeOf102,
  v164 := Tryz.zeroValue102 }
theorem laysJoinX : Go.Proofs.Builder.Extra Tryz.prog laysJoin_ren := {
  sizeBuilder := by kernel_rfl,
  liesBuilder := by kernel_rfl,
  t5 := Tryz.underlying5,
  a5 := Tryz.isAgg5,
  z5 := Tryz.sizeOf5,
  v5 := Tryz.zeroValue5,
  infoByte := by kernel_rfl,
  cellsByte := by kernel_rfl,
  sizeByte := by kernel_rfl,
  neB5 := by decide }
theorem strings_Join_ok (u : Nat) (p0 : List ByteArray) (p1 : ByteArray) (r : ByteArray) (h : strings_Join u p0 p1 = some r) : CallOK Tryz.prog 62 [.one (.t (.sl 1 (p0.map eStr))), .one (.t (.str p1))] (.one (.t (.str r))) [] :=
  join_call ⟨_, Tryz.func62, by kernel_rfl, by kernel_rfl⟩ (fun a c sep w => Go.Proofs.Any.strings_Join_none laysJoin laysJoinX a c sep w) (fun bk o c xs sep w h1 h2 h3 h4 h5 => Go.Proofs.Any.strings_Join laysJoin laysJoinX bk o c xs sep w h1 h2 h3 h4 h5) h
theorem impl_joined_ok (u : Nat) (p0 : List Int) (r : ByteArray) (h : impl_joined u p0 = some r) : CallOK Tryz.prog 37 [.one (.t (.sl 1 (p0.map (eInt .i64))))] (.one (.t (.str r))) [] := by
  unfold impl_joined at h
  refine CallOK.of_bodyK (fn := Tryz.f37) (m := false) [.t (.sl 1 (p0.map (eInt .i64)))] kr rfl kr kr kr kr kr ?_
  refine Wp.srg [] [] ?_
  refine Runs.alln ?_
  refine Wp.fg ⟨[(0, .t (.sl 1 (p0.map (eInt .i64)))), (2, .t (.str ((ByteArray.mk #[]))))], [], []⟩ ?_
  refine Wp.srg [] [] ?_
  refine Runs.alln ?_
  refine Wp.fg ⟨[(0, .t (.sl 1 (p0.map (eInt .i64)))), (2, .t (.str ((ByteArray.mk #[])))), (3, .own 393216)], [], [(393216, .live 9 1 ((([] : List ByteArray)).map eStr))]⟩ ?_
  refine Wp.seqJ (α := (List ByteArray)) (fun a => ⟨[(2, .t (.str ((ByteArray.mk #[])))), (3, .own 196609)], [], [(196609, .live 9 1 (a.map eStr))]⟩) (fun a => impl_joined_j1 u a = some r) ?_ ?_
  · rintro x9 h
    change impl_joined_j1 u x9 = some r at h
    unfold impl_joined_j1 at h
    refine Wp.srg [] [] ?_
    refine Runs.batch 1 kr ?_
    obtain ⟨r10, e_r10, h⟩ := bind_some h
    refine Runs.callBK 20 62 [] [.own 196609, .t (.str ((ByteArray.mk #[32])))] [.one (.t (.sl 1 (x9.map eStr))), .one (.t (.str ((ByteArray.mk #[32]))))] (.one (.t (.str r10))) rfl rfl kr kr kr kr kr (strings_Join_ok u x9 ((ByteArray.mk #[32])) r10 e_r10) (by simp [V.plain, V.plains, C.plain, T.sc]) kr ?_
    refine Runs.alln ?_
    refine Wp.fg ⟨[(2, .t (.str r10))], [], []⟩ ?_
    refine Wp.ret ?_
    obtain rfl := Option.some.inj h
    exact RetK [.t (.str r10)] _ [] kr kr (.refl _) .nil
  · refine Wp.srg [] [] ?_
    refine Runs.batch 1 kr ?_
    refine Runs.lenT (y := .t (.sl 1 (p0.map (eInt .i64)))) (e := 3) (eInt .i64) p0 1 rfl rfl rfl kr kr kr kr kr ?_
    refine Runs.alln ?_
    refine Wp.fg ⟨[(2, .t (.str ((ByteArray.mk #[])))), (3, .own 393216), (7, .t (.sl 1 (p0.map (eInt .i64)))), (8, .t (.int .i64 ((p0.length : Int)))), (9, .t (.int .i64 0))], [], [(393216, .live 9 1 ((([] : List ByteArray)).map eStr))]⟩ ?_
    refine Wp.block ?_
    refine Wp.loopF (α := (List ByteArray) × (List Int) × Int) (fun a => ⟨[(2, .t (.str ((ByteArray.mk #[])))), (3, .own 196609), (7, .t (.sl 1 (a.2.1.map (eInt .i64)))), (8, .t (.int .i64 ((a.2.1.length : Int)))), (9, .t (.int .i64 a.2.2))], [], [(196609, .live 9 1 (a.1.map eStr))]⟩) (fun k_impl_joined_l2 a => impl_joined_l2 u k_impl_joined_l2 a.1 a.2.1 a.2.2 = some r) ?_ ?_ u (([] : List ByteArray), p0, 0) h (Le.of (mo := []) (mr := [(196609, 393216)]) kr kr kr kr)
    · intro a h; unfold impl_joined_l2 at h; cases h
    · rintro k_impl_joined_l2 ⟨x3, p0, x4⟩ h
      change impl_joined_l2 u (k_impl_joined_l2 + 1) x3 p0 x4 = some r at h
      rw [impl_joined_l2] at h
      refine Wp.srg [] [] ?_
      refine Runs.alln ?_
      refine Wp.fg ⟨[(2, .t (.str ((ByteArray.mk #[])))), (3, .own 196609), (7, .t (.sl 1 (p0.map (eInt .i64)))), (8, .t (.int .i64 ((p0.length : Int)))), (9, .t (.int .i64 x4)), (10, .t (.bool (decide (x4 < ((p0.length : Int))))))], [], [(196609, .live 9 1 (x3.map eStr))]⟩ ?_
      refine Wp.seq ?_
      refine Wp.cond2 (b := decide (x4 < ((p0.length : Int)))) kr (fun hc => ?_) (fun hc => ?_)
      · have h := cond_t h hc
        refine Wp.skip (thenN ?_)
        refine Wp.seq ?_
        refine Wp.block ?_
        refine Wp.srg [] [] ?_
        obtain ⟨y7, e_y7, h⟩ := bind_some h
        refine Runs.idxT (e := 3) (kk := .i64) (sz := 1) (eInt .i64) p0 x4 rfl kr kr kr kr kr kr e_y7 ?_
        refine Runs.alln ?_
        refine Wp.fg ⟨[(2, .t (.str ((ByteArray.mk #[])))), (3, .own 196609), (5, .t (.int .i64 y7)), (7, .t (.sl 1 (p0.map (eInt .i64)))), (8, .t (.int .i64 ((p0.length : Int)))), (9, .t (.int .i64 x4))], [], [(196609, .live 9 1 (x3.map eStr))]⟩ ?_
        refine Wp.rg [] [] ?_
        refine Runs.batch 2 kr ?_
        obtain ⟨r8, e_r8, h⟩ := bind_some h
        refine Runs.callK false 15 61 [] [.t (.int .i64 y7)] _ _ _ rfl rfl kr kr kr kr kr (impl_NumText_ok u y7 r8 e_r8) kr ?_
        refine Runs.batch 1 kr ?_
        obtain ⟨_, e_9, h⟩ := bind_some h
        refine Runs.appT (y := .own 1048576) eStr 17 1 9 1 16 196609 x3 ([r8]) rfl rfl rfl rfl kr kr kr kr kr kr (.inl rfl) kr (of_decide_eq_true (chk_some e_9)) kr kr ?_
        refine Runs.all kr ?_
        refine blkN ?_
        refine thenN ?_
        refine Wp.rg [] [] ?_
        refine Runs.alln ?_
        exact ⟨(x3 ++ ([r8]), p0, bAdd .i64 x4 1), h, Le.of (mo := []) (mr := [(196609, 1114112)]) kr kr kr kr⟩
      have h := cond_f h hc
      refine Wp.exit ?_
      refine thenE ?_
      refine thenE ?_
      refine blkE ?_
      refine thenN ?_
      exact ⟨x3, h, Le.of (mo := []) (mr := []) kr kr kr kr⟩
theorem impl_CostTable_ok (u : Nat) (p0 : List Int) (p1 : List Image) (r : ByteArray) (h : impl_CostTable u p0 p1 = some r) : CallOK Tryz.prog 20 [.one (.t (.sl 1 (p0.map (eInt .u8)))), .one (.t (.sl 1 (p1.map Image.enc)))] (.one (.t (.str r))) [] := by
  unfold impl_CostTable at h
  refine CallOK.of_bodyK (fn := Tryz.f20) (m := false) [.t (.sl 1 (p0.map (eInt .u8))), .t (.sl 1 (p1.map Image.enc))] kr rfl kr kr kr kr kr ?_
  refine Wp.srg [] [] ?_
  refine Runs.alln ?_
  refine Wp.fg ⟨[(0, .t (.sl 1 (p0.map (eInt .u8)))), (1, .t (.sl 1 (p1.map Image.enc))), (4, .t (.str ((ByteArray.mk #[]))))], [], []⟩ ?_
  refine Wp.srg [] [] ?_
  refine Runs.alln ?_
  refine Wp.fg ⟨[(0, .t (.sl 1 (p0.map (eInt .u8)))), (1, .t (.sl 1 (p1.map Image.enc))), (4, .t (.str ((ByteArray.mk #[])))), (5, .own 458752)], [], [(458752, .live 3 1 ((([] : List Int)).map (eInt .i64)))]⟩ ?_
  refine Wp.seqJ (α := (List Int)) (fun a => ⟨[(4, .t (.str ((ByteArray.mk #[])))), (5, .own 327681)], [], [(327681, .live 3 1 (a.map (eInt .i64)))]⟩) (fun a => impl_CostTable_j1 u a = some r) ?_ ?_
  · rintro x8 h
    change impl_CostTable_j1 u x8 = some r at h
    unfold impl_CostTable_j1 at h
    refine Wp.srg [] [] ?_
    refine Runs.batch 1 kr ?_
    obtain ⟨r9, e_r9, h⟩ := bind_some h
    refine Runs.callBK 20 37 [] [.own 327681] [.one (.t (.sl 1 (x8.map (eInt .i64))))] (.one (.t (.str r9))) rfl rfl kr kr kr kr kr (impl_joined_ok u x8 r9 e_r9) (by simp [V.plain, V.plains, C.plain, T.sc]) kr ?_
    refine Runs.alln ?_
    refine Wp.fg ⟨[(4, .t (.str r9))], [], []⟩ ?_
    refine Wp.ret ?_
    obtain rfl := Option.some.inj h
    exact RetK [.t (.str r9)] _ [] kr kr (.refl _) .nil
  · refine Wp.srg [] [] ?_
    refine Runs.alln ?_
    refine Wp.fg ⟨[(0, .t (.sl 1 (p0.map (eInt .u8)))), (1, .t (.sl 1 (p1.map Image.enc))), (4, .t (.str ((ByteArray.mk #[])))), (5, .own 458752), (6, .t (.int .i64 2))], [], [(458752, .live 3 1 ((([] : List Int)).map (eInt .i64)))]⟩ ?_
    refine Wp.block ?_
    refine Wp.loopF (α := (List Int) × (List Image) × (List Int) × Int) (fun a => ⟨[(0, .t (.sl 1 (a.1.map (eInt .u8)))), (1, .t (.sl 1 (a.2.1.map Image.enc))), (4, .t (.str ((ByteArray.mk #[])))), (5, .own 327681), (6, .t (.int .i64 a.2.2.2))], [], [(327681, .live 3 1 (a.2.2.1.map (eInt .i64)))]⟩) (fun k_impl_CostTable_l2 a => impl_CostTable_l2 u k_impl_CostTable_l2 a.1 a.2.1 a.2.2.1 a.2.2.2 = some r) ?_ ?_ u (p0, p1, ([] : List Int), 2) h (Le.of (mo := []) (mr := [(327681, 458752)]) kr kr kr kr)
    · intro a h; unfold impl_CostTable_l2 at h; cases h
    · rintro k_impl_CostTable_l2 ⟨p0, p1, x3, x4⟩ h
      change impl_CostTable_l2 u (k_impl_CostTable_l2 + 1) p0 p1 x3 x4 = some r at h
      rw [impl_CostTable_l2] at h
      refine Wp.seq ?_
      refine Wp.srg [] [] ?_
      refine Runs.alln ?_
      refine Wp.fg ⟨[(0, .t (.sl 1 (p0.map (eInt .u8)))), (1, .t (.sl 1 (p1.map Image.enc))), (4, .t (.str ((ByteArray.mk #[])))), (5, .own 327681), (6, .t (.int .i64 x4)), (9, .t (.bool (decide (x4 ≤ 6))))], [], [(327681, .live 3 1 (x3.map (eInt .i64)))]⟩ ?_
      refine Wp.cond2 (b := decide (x4 ≤ 6)) kr (fun hc => ?_) (fun hc => ?_)
      · have h := cond_t h hc
        refine Wp.skip (thenN ?_)
        refine Wp.seq ?_
        refine Wp.block ?_
        refine Wp.rg [] [] ?_
        refine Runs.batch 4 kr ?_
        obtain ⟨r7, e_r7, h⟩ := bind_some h
        refine Runs.callK false 16 12 [] [.t (.sl 1 (p0.map (eInt .u8))), .t (.sl 1 (p1.map Image.enc)), .t (.int .i64 x4)] _ _ _ rfl rfl kr kr kr kr kr (impl_CostOf_ok u p0 p1 x4 r7 e_r7) kr ?_
        refine Runs.batch 1 kr ?_
        obtain ⟨_, e_8, h⟩ := bind_some h
        refine Runs.appT (y := .own 1114112) (eInt .i64) 18 1 3 1 8 327681 x3 ([r7]) rfl rfl rfl rfl kr kr kr kr kr kr (.inl rfl) kr (of_decide_eq_true (chk_some e_8)) kr kr ?_
        refine Runs.all kr ?_
        refine blkN ?_
        refine thenN ?_
        refine Wp.rg [] [] ?_
        refine Runs.alln ?_
        exact ⟨(p0, p1, x3 ++ ([r7]), bAdd .i64 x4 1), h, Le.of (mo := []) (mr := [(327681, 1179648)]) kr kr kr kr⟩
      have h := cond_f h hc
      refine Wp.exit ?_
      refine thenE ?_
      refine thenE ?_
      refine blkE ?_
      refine thenN ?_
      exact ⟨x3, h, Le.of (mo := []) (mr := []) kr kr kr kr⟩
theorem spec_NumText_ok (u : Nat) (p0 : Int) (r : ByteArray) (h : spec_NumText u p0 = some r) : CallOK Tryz.prog 38 [.one (.t (.int .i64 p0))] (.one (.t (.str r))) [] := by
  unfold spec_NumText at h
  refine CallOK.of_bodyK (fn := Tryz.f38) (m := false) [.t (.int .i64 p0)] kr rfl kr kr kr kr kr ?_
  refine Wp.srg [] [] ?_
  refine Runs.alln ?_
  refine Wp.fg ⟨[(0, .t (.int .i64 p0)), (2, .t (.str ((ByteArray.mk #[]))))], [], []⟩ ?_
  refine Wp.seq ?_
  refine Wp.srg [] [] ?_
  refine Runs.alln ?_
  refine Wp.fg ⟨[(0, .t (.int .i64 p0)), (2, .t (.str ((ByteArray.mk #[])))), (7, .t (.bool (p0 == 0)))], [], []⟩ ?_
  refine Wp.cond2 (b := p0 == 0) kr (fun hc => ?_) (fun hc => ?_)
  · have h := cond_t h hc
    refine Wp.srg [] [] ?_
    refine Runs.alln ?_
    refine Wp.fg ⟨[(0, .t (.int .i64 p0)), (2, .t (.str ((ByteArray.mk #[48]))))], [], []⟩ ?_
    refine Wp.ret ?_
    refine thenR ?_
    obtain rfl := Option.some.inj h
    exact RetK [.t (.str ((ByteArray.mk #[48])))] _ [] kr kr (.refl _) .nil
  have h := cond_f h hc
  refine Wp.skip (thenN ?_)
  refine Wp.srg [] [] ?_
  refine Runs.alln ?_
  refine Wp.fg ⟨[(0, .t (.int .i64 p0)), (2, .t (.str ((ByteArray.mk #[])))), (3, .t (.str ((ByteArray.mk #[]))))], [], []⟩ ?_
  refine Wp.seqJ (α := Int × ByteArray) (fun a => ⟨[(0, .t (.int .i64 a.1)), (2, .t (.str ((ByteArray.mk #[])))), (3, .t (.str a.2))], [], []⟩) (fun a => spec_NumText_j1 u a.1 a.2 = some r) ?_ ?_
  · rintro ⟨p0, x8⟩ h
    change spec_NumText_j1 u p0 x8 = some r at h
    unfold spec_NumText_j1 at h
    refine Wp.seq ?_
    refine Wp.srg [] [] ?_
    refine Runs.alln ?_
    refine Wp.fg ⟨[(2, .t (.str ((ByteArray.mk #[])))), (3, .t (.str x8)), (27, .t (.bool (decide (p0 < 0))))], [], []⟩ ?_
    refine Wp.cond2 (b := decide (p0 < 0)) kr (fun hc => ?_) (fun hc => ?_)
    · have h := cond_t h hc
      refine Wp.srg [] [] ?_
      refine Runs.batch 1 kr ?_
      obtain ⟨_, e_9, h⟩ := bind_some h
      refine Runs.cat ((ByteArray.mk #[45])) x8 rfl kr kr kr kr (of_decide_eq_true (chk_some e_9)) ?_
      refine Runs.alln ?_
      refine Wp.fg ⟨[(2, .t (.str (((ByteArray.mk #[45])) ++ x8))), (3, .t (.str x8))], [], []⟩ ?_
      refine Wp.ret ?_
      refine thenR ?_
      obtain rfl := Option.some.inj h
      exact RetK [.t (.str (((ByteArray.mk #[45])) ++ x8))] _ [] kr kr (.refl _) .nil
    have h := cond_f h hc
    refine Wp.skip (thenN ?_)
    refine Wp.srg [] [] ?_
    refine Runs.alln ?_
    refine Wp.fg ⟨[(2, .t (.str x8))], [], []⟩ ?_
    refine Wp.ret ?_
    obtain rfl := Option.some.inj h
    exact RetK [.t (.str x8)] _ [] kr kr (.refl _) .nil
  · refine Wp.srg [] [] ?_
    refine Runs.alln ?_
    refine Wp.fg ⟨[(0, .t (.int .i64 p0)), (2, .t (.str ((ByteArray.mk #[])))), (3, .t (.str ((ByteArray.mk #[])))), (4, .t (.int .i64 p0))], [], []⟩ ?_
    refine Wp.block ?_
    refine Wp.loopF (α := Int × ByteArray × Int) (fun a => ⟨[(0, .t (.int .i64 a.1)), (2, .t (.str ((ByteArray.mk #[])))), (3, .t (.str a.2.1)), (4, .t (.int .i64 a.2.2))], [], []⟩) (fun k_spec_NumText_l2 a => spec_NumText_l2 u k_spec_NumText_l2 a.1 a.2.1 a.2.2 = some r) ?_ ?_ u (p0, (ByteArray.mk #[]), p0) h (Le.of (mo := []) (mr := []) kr kr kr kr)
    · intro a h; unfold spec_NumText_l2 at h; cases h
    · rintro k_spec_NumText_l2 ⟨p0, x3, x4⟩ h
      change spec_NumText_l2 u (k_spec_NumText_l2 + 1) p0 x3 x4 = some r at h
      rw [spec_NumText_l2] at h
      refine Wp.seq ?_
      refine Wp.srg [] [] ?_
      refine Runs.alln ?_
      refine Wp.fg ⟨[(0, .t (.int .i64 p0)), (2, .t (.str ((ByteArray.mk #[])))), (3, .t (.str x3)), (4, .t (.int .i64 x4)), (10, .t (.bool (x4 != 0)))], [], []⟩ ?_
      refine Wp.cond2 (b := x4 != 0) kr (fun hc => ?_) (fun hc => ?_)
      · have h := cond_t h hc
        refine Wp.skip (thenN ?_)
        refine Wp.seq ?_
        refine Wp.block ?_
        refine Wp.srg [] [] ?_
        refine Runs.alln ?_
        refine Wp.fg ⟨[(0, .t (.int .i64 p0)), (2, .t (.str ((ByteArray.mk #[])))), (3, .t (.str x3)), (4, .t (.int .i64 x4)), (5, .t (.int .i64 (bRem .i64 x4 10)))], [], []⟩ ?_
        refine Wp.seqJ (α := Int × ByteArray × Int × Int) (fun a => ⟨[(0, .t (.int .i64 a.1)), (2, .t (.str ((ByteArray.mk #[])))), (3, .t (.str a.2.1)), (4, .t (.int .i64 a.2.2.1)), (5, .t (.int .i64 a.2.2.2))], [], []⟩) (fun a => spec_NumText_j3 u (fun z0 z1 z2 => spec_NumText_l2 u k_spec_NumText_l2 z0 z1 z2) a.1 a.2.1 a.2.2.1 a.2.2.2 = some r) ?_ ?_
        · rintro ⟨p0, x3, x4, x7⟩ h
          change spec_NumText_j3 u (fun z0 z1 z2 => spec_NumText_l2 u k_spec_NumText_l2 z0 z1 z2) p0 x3 x4 x7 = some r at h
          unfold spec_NumText_j3 at h
          refine Wp.rg [] [] ?_
          refine Runs.batch 4 kr ?_
          refine Runs.bytesStr (y := .own 1441792) (e := 5) ([IntKind.wrap .u8 (bAdd .i64 48 x7)]) 1 rfl kr kr kr kr kr kr kr ?_
          refine Runs.batch 1 kr ?_
          obtain ⟨_, e_8, h⟩ := bind_some h
          refine Runs.cat (strOfNums ([IntKind.wrap .u8 (bAdd .i64 48 x7)])) x3 rfl kr kr kr kr (of_decide_eq_true (chk_some e_8)) ?_
          refine Runs.all kr ?_
          refine blkN ?_
          refine thenN ?_
          refine Wp.rg [] [] ?_
          refine Runs.alln ?_
          exact ⟨(p0, (strOfNums ([IntKind.wrap .u8 (bAdd .i64 48 x7)])) ++ x3, bQuo .i64 x4 10), h, Le.of (mo := []) (mr := []) kr kr kr kr⟩
        · refine Wp.srg [] [] ?_
          refine Runs.alln ?_
          refine Wp.fg ⟨[(0, .t (.int .i64 p0)), (2, .t (.str ((ByteArray.mk #[])))), (3, .t (.str x3)), (4, .t (.int .i64 x4)), (5, .t (.int .i64 (bRem .i64 x4 10))), (16, .t (.bool (decide ((bRem .i64 x4 10) < 0))))], [], []⟩ ?_
          refine Wp.cond2 (b := decide ((bRem .i64 x4 10) < 0)) kr (fun hc => ?_) (fun hc => ?_)
          · have h := cond_t h hc
            refine Wp.rg [] [] ?_
            refine Runs.alln ?_
            exact ⟨(p0, x3, x4, bSub .i64 0 (bRem .i64 x4 10)), h, Le.of (mo := []) (mr := []) kr kr kr kr⟩
          have h := cond_f h hc
          refine Wp.skip (thenN ?_)
          exact ⟨(p0, x3, x4, bRem .i64 x4 10), h, Le.of (mo := []) (mr := []) kr kr kr kr⟩
      have h := cond_f h hc
      refine Wp.exit ?_
      refine thenE ?_
      refine thenE ?_
      refine blkE ?_
      refine thenN ?_
      exact ⟨(p0, x3), h, Le.of (mo := []) (mr := []) kr kr kr kr⟩
theorem spec_CostTable_ok (u : Nat) (p0 : List Int) (p1 : List Image) (r : ByteArray) (h : spec_CostTable u p0 p1 = some r) : CallOK Tryz.prog 21 [.one (.t (.sl 1 (p0.map (eInt .u8)))), .one (.t (.sl 1 (p1.map Image.enc)))] (.one (.t (.str r))) [] := by
  unfold spec_CostTable at h
  refine CallOK.of_bodyK (fn := Tryz.f21) (m := false) [.t (.sl 1 (p0.map (eInt .u8))), .t (.sl 1 (p1.map Image.enc))] kr rfl kr kr kr kr kr ?_
  refine Wp.srg [] [] ?_
  refine Runs.alln ?_
  refine Wp.fg ⟨[(0, .t (.sl 1 (p0.map (eInt .u8)))), (1, .t (.sl 1 (p1.map Image.enc))), (4, .t (.str ((ByteArray.mk #[]))))], [], []⟩ ?_
  refine Wp.srg [] [] ?_
  refine Runs.alln ?_
  refine Wp.fg ⟨[(0, .t (.sl 1 (p0.map (eInt .u8)))), (1, .t (.sl 1 (p1.map Image.enc))), (4, .t (.str ((ByteArray.mk #[])))), (5, .t (.str ((ByteArray.mk #[]))))], [], []⟩ ?_
  refine Wp.seqJ (α := ByteArray) (fun a => ⟨[(4, .t (.str ((ByteArray.mk #[])))), (5, .t (.str a))], [], []⟩) (fun a => spec_CostTable_j1 u a = some r) ?_ ?_
  · rintro x10 h
    change spec_CostTable_j1 u x10 = some r at h
    unfold spec_CostTable_j1 at h
    refine Wp.srg [] [] ?_
    refine Runs.alln ?_
    refine Wp.fg ⟨[(4, .t (.str x10))], [], []⟩ ?_
    refine Wp.ret ?_
    obtain rfl := Option.some.inj h
    exact RetK [.t (.str x10)] _ [] kr kr (.refl _) .nil
  · refine Wp.srg [] [] ?_
    refine Runs.alln ?_
    refine Wp.fg ⟨[(0, .t (.sl 1 (p0.map (eInt .u8)))), (1, .t (.sl 1 (p1.map Image.enc))), (4, .t (.str ((ByteArray.mk #[])))), (5, .t (.str ((ByteArray.mk #[])))), (6, .t (.int .i64 2))], [], []⟩ ?_
    refine Wp.block ?_
    refine Wp.loopF (α := (List Int) × (List Image) × ByteArray × Int) (fun a => ⟨[(0, .t (.sl 1 (a.1.map (eInt .u8)))), (1, .t (.sl 1 (a.2.1.map Image.enc))), (4, .t (.str ((ByteArray.mk #[])))), (5, .t (.str a.2.2.1)), (6, .t (.int .i64 a.2.2.2))], [], []⟩) (fun k_spec_CostTable_l2 a => spec_CostTable_l2 u k_spec_CostTable_l2 a.1 a.2.1 a.2.2.1 a.2.2.2 = some r) ?_ ?_ u (p0, p1, (ByteArray.mk #[]), 2) h (Le.of (mo := []) (mr := []) kr kr kr kr)
    · intro a h; unfold spec_CostTable_l2 at h; cases h
    · rintro k_spec_CostTable_l2 ⟨p0, p1, x3, x4⟩ h
      change spec_CostTable_l2 u (k_spec_CostTable_l2 + 1) p0 p1 x3 x4 = some r at h
      rw [spec_CostTable_l2] at h
      refine Wp.seq ?_
      refine Wp.srg [] [] ?_
      refine Runs.alln ?_
      refine Wp.fg ⟨[(0, .t (.sl 1 (p0.map (eInt .u8)))), (1, .t (.sl 1 (p1.map Image.enc))), (4, .t (.str ((ByteArray.mk #[])))), (5, .t (.str x3)), (6, .t (.int .i64 x4)), (8, .t (.bool (decide (x4 ≤ 6))))], [], []⟩ ?_
      refine Wp.cond2 (b := decide (x4 ≤ 6)) kr (fun hc => ?_) (fun hc => ?_)
      · have h := cond_t h hc
        refine Wp.skip (thenN ?_)
        refine Wp.seq ?_
        refine Wp.block ?_
        refine Wp.seqJ (α := (List Int) × (List Image) × ByteArray × Int) (fun a => ⟨[(0, .t (.sl 1 (a.1.map (eInt .u8)))), (1, .t (.sl 1 (a.2.1.map Image.enc))), (4, .t (.str ((ByteArray.mk #[])))), (5, .t (.str a.2.2.1)), (6, .t (.int .i64 a.2.2.2))], [], []⟩) (fun a => spec_CostTable_j3 u (fun z0 z1 z2 z3 => spec_CostTable_l2 u k_spec_CostTable_l2 z0 z1 z2 z3) a.1 a.2.1 a.2.2.1 a.2.2.2 = some r) ?_ ?_
        · rintro ⟨p0, p1, x7, x4⟩ h
          change spec_CostTable_j3 u (fun z0 z1 z2 z3 => spec_CostTable_l2 u k_spec_CostTable_l2 z0 z1 z2 z3) p0 p1 x7 x4 = some r at h
          unfold spec_CostTable_j3 at h
          refine Wp.rg [] [] ?_
          refine Runs.batch 4 kr ?_
          obtain ⟨r8, e_r8, h⟩ := bind_some h
          refine Runs.callK false 19 13 [] [.t (.sl 1 (p0.map (eInt .u8))), .t (.sl 1 (p1.map Image.enc)), .t (.int .i64 x4)] _ _ _ rfl rfl kr kr kr kr kr (spec_CostOf_ok u p0 p1 x4 r8 e_r8) kr ?_
          obtain ⟨r9, e_r9, h⟩ := bind_some h
          refine Runs.callK false 20 38 [] [.t (.int .i64 r8)] _ _ _ rfl rfl kr kr kr kr kr (spec_NumText_ok u r8 r9 e_r9) kr ?_
          obtain ⟨_, e_10, h⟩ := bind_some h
          refine Runs.cat x7 r9 rfl kr kr kr kr (of_decide_eq_true (chk_some e_10)) ?_
          refine Runs.all kr ?_
          refine blkN ?_
          refine thenN ?_
          refine Wp.rg [] [] ?_
          refine Runs.alln ?_
          exact ⟨(p0, p1, x7 ++ r9, bAdd .i64 x4 1), h, Le.of (mo := []) (mr := []) kr kr kr kr⟩
        · refine Wp.srg [] [] ?_
          refine Runs.alln ?_
          refine Wp.fg ⟨[(0, .t (.sl 1 (p0.map (eInt .u8)))), (1, .t (.sl 1 (p1.map Image.enc))), (4, .t (.str ((ByteArray.mk #[])))), (5, .t (.str x3)), (6, .t (.int .i64 x4)), (12, .t (.bool (decide (x4 > 2))))], [], []⟩ ?_
          refine Wp.cond2 (b := decide (x4 > 2)) kr (fun hc => ?_) (fun hc => ?_)
          · have h := cond_t h hc
            refine Wp.rg [] [] ?_
            refine Runs.batch 1 kr ?_
            obtain ⟨_, e_7, h⟩ := bind_some h
            refine Runs.cat x3 ((ByteArray.mk #[32])) rfl kr kr kr kr (of_decide_eq_true (chk_some e_7)) ?_
            refine Runs.alln ?_
            exact ⟨(p0, p1, x3 ++ ((ByteArray.mk #[32])), x4), h, Le.of (mo := []) (mr := []) kr kr kr kr⟩
          have h := cond_f h hc
          refine Wp.skip (thenN ?_)
          exact ⟨(p0, p1, x3, x4), h, Le.of (mo := []) (mr := []) kr kr kr kr⟩
      have h := cond_f h hc
      refine Wp.exit ?_
      refine thenE ?_
      refine thenE ?_
      refine blkE ?_
      refine thenN ?_
      exact ⟨x3, h, Le.of (mo := []) (mr := []) kr kr kr kr⟩
theorem laws_FnPlans_ok (u : Nat) (p0 : List Int) (r : Bool) (h : laws_FnPlans u p0 = some r) : CallOK Tryz.prog 3 [.one (.t (.sl 1 (p0.map (eInt .u8))))] (.one (.t (.bool r))) [] := by
  unfold laws_FnPlans at h
  refine CallOK.of_bodyK (fn := Tryz.f3) (m := false) [.t (.sl 1 (p0.map (eInt .u8)))] kr rfl kr kr kr kr kr ?_
  refine Wp.srg [] [] ?_
  refine Runs.alln ?_
  refine Wp.fg ⟨[(0, .t (.sl 1 (p0.map (eInt .u8)))), (2, .t (.bool false))], [], []⟩ ?_
  refine Wp.seq ?_
  refine Wp.srg [] [] ?_
  refine Runs.batch 1 kr ?_
  obtain ⟨r1, e_r1, h⟩ := bind_some h
  refine Runs.callK false 19 4 [] [.t (.sl 1 (p0.map (eInt .u8)))] _ _ _ rfl rfl kr kr kr kr kr (laws_big_ok u p0 r1 e_r1) kr ?_
  refine Runs.done ?_
  refine thenN ?_
  refine Wp.fg ⟨[(0, .t (.sl 1 (p0.map (eInt .u8)))), (2, .t (.bool false)), (19, .t (.bool r1))], [], []⟩ ?_
  refine Wp.cond2 (b := r1) kr (fun hc => ?_) (fun hc => ?_)
  · have h := cond_t h hc
    refine Wp.srg [] [] ?_
    refine Runs.alln ?_
    refine Wp.fg ⟨[(0, .t (.sl 1 (p0.map (eInt .u8)))), (2, .t (.bool true))], [], []⟩ ?_
    refine Wp.ret ?_
    refine thenR ?_
    obtain rfl := Option.some.inj h
    exact RetK [.t (.bool true)] _ [] kr kr (.refl _) .nil
  have h := cond_f h hc
  refine Wp.skip (thenN ?_)
  refine Wp.srg [] [] ?_
  refine Runs.batch 1 kr ?_
  obtain ⟨r2, e_r2, h⟩ := bind_some h
  refine Runs.callK false 22 5 [] [.t (.sl 1 (p0.map (eInt .u8)))] _ _ _ rfl rfl kr kr kr kr kr (spec_DrawBestSize_ok u p0 r2 e_r2) kr ?_
  refine Runs.alln ?_
  refine Wp.fg ⟨[(0, .t (.sl 1 (p0.map (eInt .u8)))), (2, .t (.bool false)), (3, .t (.sl 1 (r2.1.map (eInt .u8)))), (4, .own 1442816)], [], [(1442816, .live 54 1 (r2.2.map Image.enc))]⟩ ?_
  refine Wp.srg [] [] ?_
  refine Runs.batch 1 kr ?_
  obtain ⟨r3, e_r3, h⟩ := bind_some h
  refine Runs.callK false 27 6 [] [.t (.sl 1 (p0.map (eInt .u8)))] _ _ _ rfl rfl kr kr kr kr kr (spec_DrawCostOf_ok u p0 r3 e_r3) kr ?_
  refine Runs.alln ?_
  refine Wp.fg ⟨[(0, .t (.sl 1 (p0.map (eInt .u8)))), (2, .t (.bool false)), (3, .t (.sl 1 (r2.1.map (eInt .u8)))), (4, .own 1442816), (5, .t (.sl 1 (r3.1.map (eInt .u8)))), (6, .own 1770496), (7, .t (.int .i64 r3.2.2))], [], [(1442816, .live 54 1 (r2.2.map Image.enc)), (1770496, .live 54 1 (r3.2.1.map Image.enc))]⟩ ?_
  refine Wp.srg [] [] ?_
  refine Runs.batch 1 kr ?_
  obtain ⟨r4, e_r4, h⟩ := bind_some h
  refine Runs.callK false 33 7 [] [.t (.sl 1 (p0.map (eInt .u8)))] _ _ _ rfl rfl kr kr kr kr kr (spec_DrawSavedBy_ok u p0 r4 e_r4) kr ?_
  refine Runs.alln ?_
  refine Wp.fg ⟨[(0, .t (.sl 1 (p0.map (eInt .u8)))), (2, .t (.bool false)), (3, .t (.sl 1 (r2.1.map (eInt .u8)))), (4, .own 1442816), (5, .t (.sl 1 (r3.1.map (eInt .u8)))), (6, .own 1770496), (7, .t (.int .i64 r3.2.2)), (8, .t (.sl 1 (r4.1.map (eInt .u8)))), (9, .own 2163712), (10, .t (.int .i64 r4.2.2))], [], [(1442816, .live 54 1 (r2.2.map Image.enc)), (1770496, .live 54 1 (r3.2.1.map Image.enc)), (2163712, .live 5 1 (r4.2.1.map (eInt .u8)))]⟩ ?_
  refine Wp.srg [] [] ?_
  refine Runs.batch 1 kr ?_
  obtain ⟨r5, e_r5, h⟩ := bind_some h
  refine Runs.callK false 39 8 [] [.t (.sl 1 (p0.map (eInt .u8)))] _ _ _ rfl rfl kr kr kr kr kr (spec_DrawWorstFor_ok u p0 r5 e_r5) kr ?_
  refine Runs.alln ?_
  refine Wp.fg ⟨[(0, .t (.sl 1 (p0.map (eInt .u8)))), (2, .t (.bool false)), (3, .t (.sl 1 (r2.1.map (eInt .u8)))), (4, .own 1442816), (5, .t (.sl 1 (r3.1.map (eInt .u8)))), (6, .own 1770496), (7, .t (.int .i64 r3.2.2)), (8, .t (.sl 1 (r4.1.map (eInt .u8)))), (9, .own 2163712), (10, .t (.int .i64 r4.2.2)), (11, .t (.sl 1 (r5.1.map (eInt .u8)))), (12, .t (.int .i64 r5.2.1)), (13, .t (.int .i64 r5.2.2))], [], [(1442816, .live 54 1 (r2.2.map Image.enc)), (1770496, .live 54 1 (r3.2.1.map Image.enc)), (2163712, .live 5 1 (r4.2.1.map (eInt .u8)))]⟩ ?_
  refine Wp.srg [] [] ?_
  refine Runs.batch 1 kr ?_
  obtain ⟨r6, e_r6, h⟩ := bind_some h
  refine Runs.callK false 44 9 [] [.t (.sl 1 (p0.map (eInt .u8)))] _ _ _ rfl rfl kr kr kr kr kr (spec_DrawManBytes_ok u p0 r6 e_r6) kr ?_
  refine Runs.alln ?_
  refine Wp.fg ⟨[(2, .t (.bool false)), (3, .t (.sl 1 (r2.1.map (eInt .u8)))), (4, .own 1442816), (5, .t (.sl 1 (r3.1.map (eInt .u8)))), (6, .own 1770496), (7, .t (.int .i64 r3.2.2)), (8, .t (.sl 1 (r4.1.map (eInt .u8)))), (9, .own 2163712), (10, .t (.int .i64 r4.2.2)), (11, .t (.sl 1 (r5.1.map (eInt .u8)))), (12, .t (.int .i64 r5.2.1)), (13, .t (.int .i64 r5.2.2)), (14, .obj 14 0)], [(14, [.t (.int .i64 r6.fGen), .t (.int .i64 r6.fSize), .t (.int .i64 r6.fLen), .own 2883587])], [(1442816, .live 54 1 (r2.2.map Image.enc)), (1770496, .live 54 1 (r3.2.1.map Image.enc)), (2163712, .live 5 1 (r4.2.1.map (eInt .u8))), (2883587, .live 69 2 (r6.fSums.map Sum.enc))]⟩ ?_
  refine Wp.srg [] [] ?_
  refine Runs.batch 2 kr ?_
  obtain ⟨r7, e_r7, h⟩ := bind_some h
  refine Runs.callBK 47 10 [] [.t (.sl 1 (r2.1.map (eInt .u8))), .own 1442816] [.one (.t (.sl 1 (r2.1.map (eInt .u8)))), .one (.t (.sl 1 (r2.2.map Image.enc)))] (.one (.t (.int .i64 r7))) rfl rfl kr kr kr kr kr (impl_BestSize_ok u r2.1 r2.2 r7 e_r7) (by simp [V.plain, V.plains, C.plain, T.sc]) kr ?_
  refine Runs.alln ?_
  refine Wp.fg ⟨[(2, .t (.bool false)), (3, .t (.sl 1 (r2.1.map (eInt .u8)))), (4, .own 1442816), (5, .t (.sl 1 (r3.1.map (eInt .u8)))), (6, .own 1770496), (7, .t (.int .i64 r3.2.2)), (8, .t (.sl 1 (r4.1.map (eInt .u8)))), (9, .own 2163712), (10, .t (.int .i64 r4.2.2)), (11, .t (.sl 1 (r5.1.map (eInt .u8)))), (12, .t (.int .i64 r5.2.1)), (13, .t (.int .i64 r5.2.2)), (14, .obj 14 0), (15, .t (.int .i64 r7))], [(14, [.t (.int .i64 r6.fGen), .t (.int .i64 r6.fSize), .t (.int .i64 r6.fLen), .own 2883587])], [(1442816, .live 54 1 (r2.2.map Image.enc)), (1770496, .live 54 1 (r3.2.1.map Image.enc)), (2163712, .live 5 1 (r4.2.1.map (eInt .u8))), (2883587, .live 69 2 (r6.fSums.map Sum.enc))]⟩ ?_
  refine Wp.seq ?_
  refine Wp.seqJ (α := ((List Int) × (List Image)) × ((List Int) × (List Int) × Int) × Int × Bool) (fun a => ⟨[(2, .t (.bool false)), (3, .t (.sl 1 (a.1.1.map (eInt .u8)))), (4, .own 262145), (8, .t (.sl 1 (a.2.1.1.map (eInt .u8)))), (9, .own 589825), (10, .t (.int .i64 a.2.1.2.2)), (15, .t (.int .i64 a.2.2.1)), (101, .t (.bool a.2.2.2))], [], [(262145, .live 54 1 (a.1.2.map Image.enc)), (589825, .live 5 1 (a.2.1.2.1.map (eInt .u8)))]⟩) (fun a => laws_FnPlans_j1 u a.1 a.2.1 a.2.2.1 a.2.2.2 = some r) ?_ ?_
  · rintro ⟨r2, r4, r7, x19⟩ h
    change laws_FnPlans_j1 u r2 r4 r7 x19 = some r at h
    unfold laws_FnPlans_j1 at h
    refine Wp.cond2 (b := x19) kr (fun hc => ?_) (fun hc => ?_)
    · have h := cond_t h hc
      refine Wp.srg [] [] ?_
      refine Runs.alln ?_
      refine Wp.fg ⟨[(2, .t (.bool false)), (3, .t (.sl 1 (r2.1.map (eInt .u8)))), (4, .own 262145), (8, .t (.sl 1 (r4.1.map (eInt .u8)))), (9, .own 589825), (10, .t (.int .i64 r4.2.2)), (15, .t (.int .i64 r7))], [], [(262145, .live 54 1 (r2.2.map Image.enc)), (589825, .live 5 1 (r4.2.1.map (eInt .u8)))]⟩ ?_
      refine Wp.ret ?_
      refine thenR ?_
      obtain rfl := Option.some.inj h
      exact RetK [.t (.bool false)] _ [] kr kr (.refl _) .nil
    have h := cond_f h hc
    refine Wp.skip (thenN ?_)
    refine Wp.seqJ (α := ((List Int) × (List Int) × Int)) (fun a => ⟨[(2, .t (.bool false)), (8, .t (.sl 1 (a.1.map (eInt .u8)))), (9, .own 589825), (10, .t (.int .i64 a.2.2))], [], [(589825, .live 5 1 (a.2.1.map (eInt .u8)))]⟩) (fun a => laws_FnPlans_j2 u a = some r) ?_ ?_
    · rintro r4 h
      change laws_FnPlans_j2 u r4 = some r at h
      unfold laws_FnPlans_j2 at h
      refine Wp.srg [] [] ?_
      refine Runs.batch 3 kr ?_
      obtain ⟨r29, e_r29, h⟩ := bind_some h
      refine Runs.callBK 149 14 [] [.t (.sl 1 (r4.1.map (eInt .u8))), .own 589825, .t (.int .i64 r4.2.2)] [.one (.t (.sl 1 (r4.1.map (eInt .u8)))), .one (.t (.sl 1 (r4.2.1.map (eInt .u8)))), .one (.t (.int .i64 r4.2.2))] (.one (.t (.int .i64 r29))) rfl rfl kr kr kr kr kr (impl_SavedBy_ok u r4.1 r4.2.1 r4.2.2 r29 e_r29) (by simp [V.plain, V.plains, C.plain, T.sc]) kr ?_
      refine Runs.batch 2 kr ?_
      rcases tf (decide (r29 ≥ 0)) with hc | hc
      · have h := cond_t h hc
        refine Runs.known 151 (v := true) kr hc ?_
        refine Runs.batch 3 kr ?_
        obtain ⟨r30, e_r30, h⟩ := bind_some h
        refine Runs.callBK 155 14 [] [.t (.sl 1 (r4.1.map (eInt .u8))), .own 589825, .t (.int .i64 r4.2.2)] [.one (.t (.sl 1 (r4.1.map (eInt .u8)))), .one (.t (.sl 1 (r4.2.1.map (eInt .u8)))), .one (.t (.int .i64 r4.2.2))] (.one (.t (.int .i64 r30))) rfl rfl kr kr kr kr kr (impl_SavedBy_ok u r4.1 r4.2.1 r4.2.2 r30 e_r30) (by simp [V.plain, V.plains, C.plain, T.sc]) kr ?_
        refine Runs.batch 1 kr ?_
        refine Runs.lenT (y := .t (.sl 1 (r4.1.map (eInt .u8)))) (e := 5) (eInt .u8) r4.1 1 rfl rfl rfl kr kr kr kr kr ?_
        refine Runs.batch 3 kr ?_
        rcases tf (decide (r30 ≤ ((r4.1.length : Int)))) with hc | hc
        · have h := cond_t h hc
          refine Runs.known 160 (v := true) kr hc ?_
          refine Runs.batch 2 kr ?_
          refine Runs.lenT (y := .t (.sl 1 (r4.1.map (eInt .u8)))) (e := 5) (eInt .u8) r4.1 1 rfl rfl rfl kr kr kr kr kr ?_
          obtain ⟨r31, e_r31, h⟩ := bind_some h
          refine Runs.callK false 164 22 [] [.t (.int .i64 r4.2.2), .t (.int .i64 ((r4.1.length : Int)))] _ _ _ rfl rfl kr kr kr kr kr (impl_SizeOk_ok u r4.2.2 ((r4.1.length : Int)) r31 e_r31) kr ?_
          refine Runs.batch 2 kr ?_
          rcases tf (!r31) with hc | hc
          · have h := cond_t h hc
            refine Runs.known 166 (v := true) kr hc ?_
            refine Runs.alln ?_
            refine Wp.fg ⟨[(2, .t (.bool true))], [], []⟩ ?_
            refine Wp.ret ?_
            obtain rfl := Option.some.inj h
            exact RetK [.t (.bool true)] _ [] kr kr (.refl _) .nil
          have h := cond_f h hc
          refine Runs.known 166 (v := false) kr hc ?_
          refine Runs.batch 3 kr ?_
          obtain ⟨r32, e_r32, h⟩ := bind_some h
          refine Runs.callK false 170 14 [] [.t (.sl 1 (r4.1.map (eInt .u8))), .t (.sl 1 (r4.1.map (eInt .u8))), .t (.int .i64 r4.2.2)] _ _ _ rfl rfl kr kr kr kr kr (impl_SavedBy_ok u r4.1 r4.1 r4.2.2 r32 e_r32) kr ?_
          refine Runs.batch 1 kr ?_
          refine Runs.lenT (y := .t (.sl 1 (r4.1.map (eInt .u8)))) (e := 5) (eInt .u8) r4.1 1 rfl rfl rfl kr kr kr kr kr ?_
          refine Runs.alln ?_
          refine Wp.fg ⟨[(2, .t (.bool (r32 == ((r4.1.length : Int)))))], [], []⟩ ?_
          refine Wp.ret ?_
          obtain rfl := Option.some.inj h
          exact RetK [.t (.bool (r32 == ((r4.1.length : Int))))] _ [] kr kr (.refl _) .nil
        have h := cond_f h hc
        refine Runs.known 160 (v := false) kr hc ?_
        refine Runs.alln ?_
        refine Wp.fg ⟨[(2, .t (.bool false))], [], []⟩ ?_
        refine Wp.ret ?_
        obtain rfl := Option.some.inj h
        exact RetK [.t (.bool false)] _ [] kr kr (.refl _) .nil
      have h := cond_f h hc
      refine Runs.known 151 (v := false) kr hc ?_
      refine Runs.alln ?_
      refine Wp.fg ⟨[(2, .t (.bool false))], [], []⟩ ?_
      refine Wp.ret ?_
      obtain rfl := Option.some.inj h
      exact RetK [.t (.bool false)] _ [] kr kr (.refl _) .nil
    · refine Wp.srg [] [] ?_
      refine Runs.alln ?_
      refine Wp.fg ⟨[(2, .t (.bool false)), (3, .t (.sl 1 (r2.1.map (eInt .u8)))), (4, .own 262145), (8, .t (.sl 1 (r4.1.map (eInt .u8)))), (9, .own 589825), (10, .t (.int .i64 r4.2.2)), (15, .t (.int .i64 r7)), (16, .t (.int .i64 2))], [], [(262145, .live 54 1 (r2.2.map Image.enc)), (589825, .live 5 1 (r4.2.1.map (eInt .u8)))]⟩ ?_
      refine Wp.block ?_
      refine Wp.loopF (α := ((List Int) × (List Image)) × ((List Int) × (List Int) × Int) × Int × Int) (fun a => ⟨[(2, .t (.bool false)), (3, .t (.sl 1 (a.1.1.map (eInt .u8)))), (4, .own 262145), (8, .t (.sl 1 (a.2.1.1.map (eInt .u8)))), (9, .own 589825), (10, .t (.int .i64 a.2.1.2.2)), (15, .t (.int .i64 a.2.2.1)), (16, .t (.int .i64 a.2.2.2))], [], [(262145, .live 54 1 (a.1.2.map Image.enc)), (589825, .live 5 1 (a.2.1.2.1.map (eInt .u8)))]⟩) (fun k_laws_FnPlans_l3 a => laws_FnPlans_l3 u k_laws_FnPlans_l3 a.1 a.2.1 a.2.2.1 a.2.2.2 = some r) ?_ ?_ u (r2, r4, r7, 2) h (Le.of (mo := []) (mr := []) kr kr kr kr)
      · intro a h; unfold laws_FnPlans_l3 at h; cases h
      · rintro k_laws_FnPlans_l3 ⟨r2, r4, r7, x21⟩ h
        change laws_FnPlans_l3 u (k_laws_FnPlans_l3 + 1) r2 r4 r7 x21 = some r at h
        rw [laws_FnPlans_l3] at h
        refine Wp.seq ?_
        refine Wp.srg [] [] ?_
        refine Runs.alln ?_
        refine Wp.fg ⟨[(2, .t (.bool false)), (3, .t (.sl 1 (r2.1.map (eInt .u8)))), (4, .own 262145), (8, .t (.sl 1 (r4.1.map (eInt .u8)))), (9, .own 589825), (10, .t (.int .i64 r4.2.2)), (15, .t (.int .i64 r7)), (16, .t (.int .i64 x21)), (103, .t (.bool (decide (x21 ≤ 6))))], [], [(262145, .live 54 1 (r2.2.map Image.enc)), (589825, .live 5 1 (r4.2.1.map (eInt .u8)))]⟩ ?_
        refine Wp.cond2 (b := decide (x21 ≤ 6)) kr (fun hc => ?_) (fun hc => ?_)
        · have h := cond_t h hc
          refine Wp.skip (thenN ?_)
          refine Wp.seq ?_
          refine Wp.block ?_
          refine Wp.srg [] [] ?_
          refine Runs.batch 3 kr ?_
          obtain ⟨r23, e_r23, h⟩ := bind_some h
          refine Runs.callBK 109 12 [] [.t (.sl 1 (r2.1.map (eInt .u8))), .own 262145, .t (.int .i64 x21)] [.one (.t (.sl 1 (r2.1.map (eInt .u8)))), .one (.t (.sl 1 (r2.2.map Image.enc))), .one (.t (.int .i64 x21))] (.one (.t (.int .i64 r23))) rfl rfl kr kr kr kr kr (impl_CostOf_ok u r2.1 r2.2 x21 r23 e_r23) (by simp [V.plain, V.plains, C.plain, T.sc]) kr ?_
          refine Runs.alln ?_
          refine Wp.fg ⟨[(2, .t (.bool false)), (3, .t (.sl 1 (r2.1.map (eInt .u8)))), (4, .own 262145), (8, .t (.sl 1 (r4.1.map (eInt .u8)))), (9, .own 589825), (10, .t (.int .i64 r4.2.2)), (15, .t (.int .i64 r7)), (16, .t (.int .i64 x21)), (17, .t (.int .i64 r23))], [], [(262145, .live 54 1 (r2.2.map Image.enc)), (589825, .live 5 1 (r4.2.1.map (eInt .u8)))]⟩ ?_
          refine Wp.seqJ (α := ((List Int) × (List Image)) × ((List Int) × (List Int) × Int) × Int × Int × Bool) (fun a => ⟨[(2, .t (.bool false)), (3, .t (.sl 1 (a.1.1.map (eInt .u8)))), (4, .own 262145), (8, .t (.sl 1 (a.2.1.1.map (eInt .u8)))), (9, .own 589825), (10, .t (.int .i64 a.2.1.2.2)), (15, .t (.int .i64 a.2.2.1)), (16, .t (.int .i64 a.2.2.2.1)), (145, .t (.bool a.2.2.2.2))], [], [(262145, .live 54 1 (a.1.2.map Image.enc)), (589825, .live 5 1 (a.2.1.2.1.map (eInt .u8)))]⟩) (fun a => laws_FnPlans_j4 u (fun z0 z1 z2 z3 => laws_FnPlans_l3 u k_laws_FnPlans_l3 z0 z1 z2 z3) a.1 a.2.1 a.2.2.1 a.2.2.2.1 a.2.2.2.2 = some r) ?_ ?_
          · rintro ⟨r2, r4, r7, x21, x28⟩ h
            change laws_FnPlans_j4 u (fun z0 z1 z2 z3 => laws_FnPlans_l3 u k_laws_FnPlans_l3 z0 z1 z2 z3) r2 r4 r7 x21 x28 = some r at h
            unfold laws_FnPlans_j4 at h
            refine Wp.cond2 (b := x28) kr (fun hc => ?_) (fun hc => ?_)
            · have h := cond_t h hc
              refine Wp.srg [] [] ?_
              refine Runs.alln ?_
              refine Wp.fg ⟨[(2, .t (.bool false)), (3, .t (.sl 1 (r2.1.map (eInt .u8)))), (4, .own 262145), (8, .t (.sl 1 (r4.1.map (eInt .u8)))), (9, .own 589825), (10, .t (.int .i64 r4.2.2)), (15, .t (.int .i64 r7)), (16, .t (.int .i64 x21))], [], [(262145, .live 54 1 (r2.2.map Image.enc)), (589825, .live 5 1 (r4.2.1.map (eInt .u8)))]⟩ ?_
              refine Wp.ret ?_
              refine blkR ?_
              refine thenR ?_
              refine thenR ?_
              refine blkR ?_
              refine thenR ?_
              obtain rfl := Option.some.inj h
              exact RetK [.t (.bool false)] _ [] kr kr (.refl _) .nil
            have h := cond_f h hc
            refine Wp.skip ?_
            refine blkN ?_
            refine thenN ?_
            refine Wp.rg [] [] ?_
            refine Runs.alln ?_
            exact ⟨(r2, r4, r7, bAdd .i64 x21 1), h, Le.of (mo := []) (mr := []) kr kr kr kr⟩
          · refine Wp.rg [] [] ?_
            refine Runs.batch 3 kr ?_
            rcases tf (decide (r23 ≥ 0)) with hc | hc
            · have h := cond_t h hc
              refine Runs.known 112 (v := true) kr hc ?_
              refine Runs.batch 3 kr ?_
              rcases tf (r7 == 0) with hc | hc
              · have h := cond_t h hc
                refine Runs.known 115 (v := true) kr hc ?_
                refine Runs.alln ?_
                exact ⟨(r2, r4, r7, x21, true), h, Le.of (mo := []) (mr := []) kr kr kr kr⟩
              have h := cond_f h hc
              refine Runs.known 115 (v := false) kr hc ?_
              refine Runs.batch 4 kr ?_
              obtain ⟨r24, e_r24, h⟩ := bind_some h
              refine Runs.callBK 120 12 [] [.t (.sl 1 (r2.1.map (eInt .u8))), .own 262145, .t (.int .i64 r7)] [.one (.t (.sl 1 (r2.1.map (eInt .u8)))), .one (.t (.sl 1 (r2.2.map Image.enc))), .one (.t (.int .i64 r7))] (.one (.t (.int .i64 r24))) rfl rfl kr kr kr kr kr (impl_CostOf_ok u r2.1 r2.2 r7 r24 e_r24) (by simp [V.plain, V.plains, C.plain, T.sc]) kr ?_
              refine Runs.batch 3 kr ?_
              rcases tf (decide (r23 < r24)) with hc | hc
              · have h := cond_t h hc
                refine Runs.known 123 (v := true) kr hc ?_
                refine Runs.alln ?_
                exact ⟨(r2, r4, r7, x21, true), h, Le.of (mo := []) (mr := []) kr kr kr kr⟩
              have h := cond_f h hc
              refine Runs.known 123 (v := false) kr hc ?_
              refine Runs.batch 4 kr ?_
              rcases tf (decide (x21 < r7)) with hc | hc
              · have h := cond_t h hc
                refine Runs.known 127 (v := true) kr hc ?_
                refine Runs.batch 4 kr ?_
                obtain ⟨r25, e_r25, h⟩ := bind_some h
                refine Runs.callBK 132 12 [] [.t (.sl 1 (r2.1.map (eInt .u8))), .own 262145, .t (.int .i64 r7)] [.one (.t (.sl 1 (r2.1.map (eInt .u8)))), .one (.t (.sl 1 (r2.2.map Image.enc))), .one (.t (.int .i64 r7))] (.one (.t (.int .i64 r25))) rfl rfl kr kr kr kr kr (impl_CostOf_ok u r2.1 r2.2 r7 r25 e_r25) (by simp [V.plain, V.plains, C.plain, T.sc]) kr ?_
                refine Runs.batch 4 kr ?_
                rcases tf (r23 == r25) with hc | hc
                · have h := cond_t h hc
                  refine Runs.known 136 (v := true) kr hc ?_
                  refine Runs.alln ?_
                  exact ⟨(r2, r4, r7, x21, true), h, Le.of (mo := []) (mr := []) kr kr kr kr⟩
                have h := cond_f h hc
                refine Runs.known 136 (v := false) kr hc ?_
                refine Runs.batch 3 kr ?_
                refine Runs.lenT (y := .own 262145) (e := 54) Image.enc r2.2 1 rfl rfl rfl kr kr kr kr kr ?_
                refine Runs.batch 1 kr ?_
                obtain ⟨r26, e_r26, h⟩ := bind_some h
                refine Runs.callK false 142 16 [] [.t (.sl 1 (r2.1.map (eInt .u8))), .t (.int .i64 ((r2.2.length : Int))), .t (.int .i64 x21)] _ _ _ rfl rfl kr kr kr kr kr (impl_WorstFor_ok u r2.1 ((r2.2.length : Int)) x21 r26 e_r26) kr ?_
                refine Runs.alln ?_
                exact ⟨(r2, r4, r7, x21, decide (r23 > r26)), h, Le.of (mo := []) (mr := []) kr kr kr kr⟩
              have h := cond_f h hc
              refine Runs.known 127 (v := false) kr hc ?_
              refine Runs.batch 12 kr ?_
              refine Runs.lenT (y := .own 262145) (e := 54) Image.enc r2.2 1 rfl rfl rfl kr kr kr kr kr ?_
              refine Runs.batch 1 kr ?_
              obtain ⟨r27, e_r27, h⟩ := bind_some h
              refine Runs.callK false 142 16 [] [.t (.sl 1 (r2.1.map (eInt .u8))), .t (.int .i64 ((r2.2.length : Int))), .t (.int .i64 x21)] _ _ _ rfl rfl kr kr kr kr kr (impl_WorstFor_ok u r2.1 ((r2.2.length : Int)) x21 r27 e_r27) kr ?_
              refine Runs.alln ?_
              exact ⟨(r2, r4, r7, x21, decide (r23 > r27)), h, Le.of (mo := []) (mr := []) kr kr kr kr⟩
            have h := cond_f h hc
            refine Runs.known 112 (v := false) kr hc ?_
            refine Runs.alln ?_
            exact ⟨(r2, r4, r7, x21, false), h, Le.of (mo := []) (mr := []) kr kr kr kr⟩
        have h := cond_f h hc
        refine Wp.exit ?_
        refine thenE ?_
        refine thenE ?_
        refine blkE ?_
        refine thenN ?_
        exact ⟨r4, h, Le.of (mo := []) (mr := []) kr kr kr kr⟩
  · refine Wp.le (Le.trans (Le.frzO 14 3 2883587 69 2 [.t (.int .i64 r6.fGen), .t (.int .i64 r6.fSize), .t (.int .i64 r6.fLen), .own 2883587] (r6.fSums.map Sum.enc) kr kr kr) (Le.of (s := ⟨[(2, .t (.bool false)), (3, .t (.sl 1 (r2.1.map (eInt .u8)))), (4, .own 1442816), (5, .t (.sl 1 (r3.1.map (eInt .u8)))), (6, .own 1770496), (7, .t (.int .i64 r3.2.2)), (8, .t (.sl 1 (r4.1.map (eInt .u8)))), (9, .own 2163712), (10, .t (.int .i64 r4.2.2)), (11, .t (.sl 1 (r5.1.map (eInt .u8)))), (12, .t (.int .i64 r5.2.1)), (13, .t (.int .i64 r5.2.2)), (14, .obj 14 0), (15, .t (.int .i64 r7))], [(14, ((Manifest.enc r6).map .t))], [(1442816, .live 54 1 (r2.2.map Image.enc)), (1770496, .live 54 1 (r3.2.1.map Image.enc)), (2163712, .live 5 1 (r4.2.1.map (eInt .u8)))]⟩) (mo := []) (mr := []) kr kr kr kr)) ?_
    refine Wp.regionA (pOf []) (rhoOf [(3, .frz), (4, .own 22), (5, .frz), (6, .own 27), (7, .frz), (8, .frz), (9, .own 33), (10, .frz), (11, .frz), (12, .frz), (13, .frz), (14, .obj 14), (15, .frz), (48, .frz), (49, .frz), (50, .own 22), (51, .frz), (52, .frz), (53, .frz), (54, .frz), (55, .own 27), (56, .frz), (57, .frz), (58, .frz), (59, .own 27), (60, .frz), (61, .frz), (63, .frz), (64, .frz), (65, .frz), (66, .own 33), (67, .frz), (68, .frz), (69, .frz), (70, .own 33), (71, .frz), (72, .frz), (74, .frz), (75, .frz), (76, .frz), (77, .frz), (78, .frz), (79, .frz), (80, .frz), (81, .frz), (82, .frz), (83, .frz), (85, .frz), (86, .frz), (87, .frz), (88, .frz), (89, .frz), (90, .frz), (92, .frz), (93, .frz), (94, .frz), (95, .own 22), (96, .frz), (97, .frz), (98, .own 22), (99, .frz)]) kr kr ?_
    refine Runs.batch 3 kr ?_
    obtain ⟨r8, e_r8, h⟩ := bind_some h
    refine Runs.callBK 51 11 [] [.t (.sl 1 (r2.1.map (eInt .u8))), .own 1442816] [.one (.t (.sl 1 (r2.1.map (eInt .u8)))), .one (.t (.sl 1 (r2.2.map Image.enc)))] (.one (.t (.int .i64 r8))) rfl rfl kr kr kr kr kr (spec_BestSize_ok u r2.1 r2.2 r8 e_r8) (by simp [V.plain, V.plains, C.plain, T.sc]) kr ?_
    refine Runs.batch 2 kr ?_
    rcases tf (r7 != r8) with hc | hc
    · have h := cond_t h hc
      refine Runs.known 53 (v := true) kr hc ?_
      refine Runs.alln ?_
      exact ⟨(r2, r4, r7, true), h, Le.of (mo := []) (mr := [(262145, 1442816), (589825, 2163712)]) kr kr kr kr⟩
    have h := cond_f h hc
    refine Runs.known 53 (v := false) kr hc ?_
    refine Runs.batch 3 kr ?_
    obtain ⟨r9, e_r9, h⟩ := bind_some h
    refine Runs.callBK 57 12 [] [.t (.sl 1 (r3.1.map (eInt .u8))), .own 1770496, .t (.int .i64 r3.2.2)] [.one (.t (.sl 1 (r3.1.map (eInt .u8)))), .one (.t (.sl 1 (r3.2.1.map Image.enc))), .one (.t (.int .i64 r3.2.2))] (.one (.t (.int .i64 r9))) rfl rfl kr kr kr kr kr (impl_CostOf_ok u r3.1 r3.2.1 r3.2.2 r9 e_r9) (by simp [V.plain, V.plains, C.plain, T.sc]) kr ?_
    refine Runs.batch 3 kr ?_
    obtain ⟨r10, e_r10, h⟩ := bind_some h
    refine Runs.callBK 61 13 [] [.t (.sl 1 (r3.1.map (eInt .u8))), .own 1770496, .t (.int .i64 r3.2.2)] [.one (.t (.sl 1 (r3.1.map (eInt .u8)))), .one (.t (.sl 1 (r3.2.1.map Image.enc))), .one (.t (.int .i64 r3.2.2))] (.one (.t (.int .i64 r10))) rfl rfl kr kr kr kr kr (spec_CostOf_ok u r3.1 r3.2.1 r3.2.2 r10 e_r10) (by simp [V.plain, V.plains, C.plain, T.sc]) kr ?_
    refine Runs.batch 3 kr ?_
    rcases tf (r9 != r10) with hc | hc
    · have h := cond_t h hc
      refine Runs.known 64 (v := true) kr hc ?_
      refine Runs.alln ?_
      exact ⟨(r2, r4, r7, true), h, Le.of (mo := []) (mr := [(262145, 1442816), (589825, 2163712)]) kr kr kr kr⟩
    have h := cond_f h hc
    refine Runs.known 64 (v := false) kr hc ?_
    refine Runs.batch 3 kr ?_
    obtain ⟨r11, e_r11, h⟩ := bind_some h
    refine Runs.callBK 68 14 [] [.t (.sl 1 (r4.1.map (eInt .u8))), .own 2163712, .t (.int .i64 r4.2.2)] [.one (.t (.sl 1 (r4.1.map (eInt .u8)))), .one (.t (.sl 1 (r4.2.1.map (eInt .u8)))), .one (.t (.int .i64 r4.2.2))] (.one (.t (.int .i64 r11))) rfl rfl kr kr kr kr kr (impl_SavedBy_ok u r4.1 r4.2.1 r4.2.2 r11 e_r11) (by simp [V.plain, V.plains, C.plain, T.sc]) kr ?_
    refine Runs.batch 3 kr ?_
    obtain ⟨r12, e_r12, h⟩ := bind_some h
    refine Runs.callBK 72 15 [] [.t (.sl 1 (r4.1.map (eInt .u8))), .own 2163712, .t (.int .i64 r4.2.2)] [.one (.t (.sl 1 (r4.1.map (eInt .u8)))), .one (.t (.sl 1 (r4.2.1.map (eInt .u8)))), .one (.t (.int .i64 r4.2.2))] (.one (.t (.int .i64 r12))) rfl rfl kr kr kr kr kr (spec_SavedBy_ok u r4.1 r4.2.1 r4.2.2 r12 e_r12) (by simp [V.plain, V.plains, C.plain, T.sc]) kr ?_
    refine Runs.batch 3 kr ?_
    rcases tf (r11 != r12) with hc | hc
    · have h := cond_t h hc
      refine Runs.known 75 (v := true) kr hc ?_
      refine Runs.alln ?_
      exact ⟨(r2, r4, r7, true), h, Le.of (mo := []) (mr := [(262145, 1442816), (589825, 2163712)]) kr kr kr kr⟩
    have h := cond_f h hc
    refine Runs.known 75 (v := false) kr hc ?_
    refine Runs.batch 3 kr ?_
    obtain ⟨r13, e_r13, h⟩ := bind_some h
    refine Runs.callK false 79 16 [] [.t (.sl 1 (r5.1.map (eInt .u8))), .t (.int .i64 r5.2.1), .t (.int .i64 r5.2.2)] _ _ _ rfl rfl kr kr kr kr kr (impl_WorstFor_ok u r5.1 r5.2.1 r5.2.2 r13 e_r13) kr ?_
    refine Runs.batch 3 kr ?_
    obtain ⟨r14, e_r14, h⟩ := bind_some h
    refine Runs.callK false 83 17 [] [.t (.sl 1 (r5.1.map (eInt .u8))), .t (.int .i64 r5.2.1), .t (.int .i64 r5.2.2)] _ _ _ rfl rfl kr kr kr kr kr (spec_WorstFor_ok u r5.1 r5.2.1 r5.2.2 r14 e_r14) kr ?_
    refine Runs.batch 3 kr ?_
    rcases tf (r13 != r14) with hc | hc
    · have h := cond_t h hc
      refine Runs.known 86 (v := true) kr hc ?_
      refine Runs.alln ?_
      exact ⟨(r2, r4, r7, true), h, Le.of (mo := []) (mr := [(262145, 1442816), (589825, 2163712)]) kr kr kr kr⟩
    have h := cond_f h hc
    refine Runs.known 86 (v := false) kr hc ?_
    refine Runs.batch 1 kr ?_
    obtain ⟨r15, e_r15, h⟩ := bind_some h
    refine Runs.callK false 88 18 [] [.agg ((Manifest.enc r6).map .t)] _ _ _ rfl rfl kr kr kr kr kr (impl_ManBytes_ok u r6 r15 e_r15) kr ?_
    refine Runs.batch 1 kr ?_
    obtain ⟨r16, e_r16, h⟩ := bind_some h
    refine Runs.callK false 90 19 [] [.agg ((Manifest.enc r6).map .t)] _ _ _ rfl rfl kr kr kr kr kr (spec_ManBytes_ok u r6 r16 e_r16) kr ?_
    refine Runs.batch 3 kr ?_
    rcases tf (r15 != r16) with hc | hc
    · have h := cond_t h hc
      refine Runs.known 93 (v := true) kr hc ?_
      refine Runs.alln ?_
      exact ⟨(r2, r4, r7, true), h, Le.of (mo := []) (mr := [(262145, 1442816), (589825, 2163712)]) kr kr kr kr⟩
    have h := cond_f h hc
    refine Runs.known 93 (v := false) kr hc ?_
    refine Runs.batch 2 kr ?_
    obtain ⟨r17, e_r17, h⟩ := bind_some h
    refine Runs.callBK 96 20 [] [.t (.sl 1 (r2.1.map (eInt .u8))), .own 1442816] [.one (.t (.sl 1 (r2.1.map (eInt .u8)))), .one (.t (.sl 1 (r2.2.map Image.enc)))] (.one (.t (.str r17))) rfl rfl kr kr kr kr kr (impl_CostTable_ok u r2.1 r2.2 r17 e_r17) (by simp [V.plain, V.plains, C.plain, T.sc]) kr ?_
    refine Runs.batch 2 kr ?_
    obtain ⟨r18, e_r18, h⟩ := bind_some h
    refine Runs.callBK 99 21 [] [.t (.sl 1 (r2.1.map (eInt .u8))), .own 1442816] [.one (.t (.sl 1 (r2.1.map (eInt .u8)))), .one (.t (.sl 1 (r2.2.map Image.enc)))] (.one (.t (.str r18))) rfl rfl kr kr kr kr kr (spec_CostTable_ok u r2.1 r2.2 r18 e_r18) (by simp [V.plain, V.plains, C.plain, T.sc]) kr ?_
    refine Runs.alln ?_
    exact ⟨(r2, r4, r7, !(r17.toList == r18.toList)), h, Le.of (mo := []) (mr := [(262145, 1442816), (589825, 2163712)]) kr kr kr kr⟩
end Go.Tm
