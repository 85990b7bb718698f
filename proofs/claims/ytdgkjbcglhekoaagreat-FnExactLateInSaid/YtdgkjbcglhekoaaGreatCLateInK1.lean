/- The functions as they are translated do what the pure functions say (printed). -/
import Derived.Test.YtdgkjbcglhekoaaGreatCLateInD
import Derived.Test.YtdgkjbcglhekoaaGreatTm43
import Derived.Test.YtdgkjbcglhekoaaGreatProg
set_option maxRecDepth 100000
set_option maxHeartbeats 1000000
set_option linter.unusedVariables false
set_option linter.unusedSimpArgs false
namespace Go.Tm
open Go.Proofs
theorem laws_szIntS_ok (u : Nat) (p0 : List Int) (p1 : Int) (r : Int) (h : laws_szIntS u p0 p1 = some r) : CallOK Tryz.prog 95 [.one (.t (.sl 1 (p0.map (eInt .i64)))), .one (.t (.int .i64 p1))] (.one (.t (.int .i64 r))) [] := by
  unfold laws_szIntS at h
  refine CallOK.of_bodyK (fn := Tryz.f95) (m := false) [.t (.sl 1 (p0.map (eInt .i64))), .t (.int .i64 p1)] kr rfl kr kr kr kr kr ?_
  refine Wp.srg [] [] ?_
  refine Runs.alln ?_
  refine Wp.fg ⟨[(0, .t (.sl 1 (p0.map (eInt .i64)))), (1, .t (.int .i64 p1)), (4, .t (.int .i64 0))], [], []⟩ ?_
  refine Wp.srg [] [] ?_
  refine Runs.batch 2 kr ?_
  refine Runs.lenT (y := .t (.sl 1 (p0.map (eInt .i64)))) (e := 3) (eInt .i64) p0 1 rfl rfl rfl kr kr kr kr kr ?_
  refine Runs.alln ?_
  refine Wp.fg ⟨[(1, .t (.int .i64 (bSub .i64 p1 ((p0.length : Int))))), (4, .t (.int .i64 0))], [], []⟩ ?_
  refine Wp.seq ?_
  refine Wp.srg [] [] ?_
  refine Runs.alln ?_
  refine Wp.fg ⟨[(1, .t (.int .i64 (bSub .i64 p1 ((p0.length : Int))))), (4, .t (.int .i64 0)), (10, .t (.bool (decide ((bSub .i64 p1 ((p0.length : Int))) < 0))))], [], []⟩ ?_
  refine Wp.cond2 (b := decide ((bSub .i64 p1 ((p0.length : Int))) < 0)) kr (fun hc => ?_) (fun hc => ?_)
  · have h := cond_t h hc
    refine Wp.srg [] [] ?_
    refine Runs.alln ?_
    refine Wp.fg ⟨[(1, .t (.int .i64 (bSub .i64 p1 ((p0.length : Int))))), (4, .t (.int .i64 (-1)))], [], []⟩ ?_
    refine Wp.ret ?_
    refine thenR ?_
    obtain rfl := Option.some.inj h
    exact RetK [.t (.int .i64 (-1))] _ [] kr kr (.refl _) .nil
  have h := cond_f h hc
  refine Wp.skip (thenN ?_)
  refine Wp.srg [] [] ?_
  refine Runs.alln ?_
  refine Wp.fg ⟨[(4, .t (.int .i64 (bSub .i64 p1 ((p0.length : Int)))))], [], []⟩ ?_
  refine Wp.ret ?_
  obtain rfl := Option.some.inj h
  exact RetK [.t (.int .i64 (bSub .i64 p1 ((p0.length : Int))))] _ [] kr kr (.refl _) .nil
theorem laws_szTree_ok (u : Nat) (p0 : Tree) (p1 : Int) (r : Int) (h : laws_szTree u p0 p1 = some r) : CallOK Tryz.prog 37 [.agg [.t (.sl 1 (p0.fUp.map (eInt .i64)))], .one (.t (.int .i64 p1))] (.one (.t (.int .i64 r))) [] := by
  unfold laws_szTree at h
  refine CallOK.of_bodyK (fn := Tryz.f37) (m := false) [.agg [.t (.sl 1 (p0.fUp.map (eInt .i64)))], .t (.int .i64 p1)] kr rfl kr kr kr kr kr ?_
  refine Wp.srg [] [] ?_
  refine Runs.alln ?_
  refine Wp.fg ⟨[(1, .t (.int .i64 p1)), (2, .obj 2 0), (4, .t (.int .i64 0))], [(2, [.t (.sl 1 (p0.fUp.map (eInt .i64)))])], []⟩ ?_
  refine Wp.srg [] [] ?_
  refine Runs.batch 3 kr ?_
  obtain ⟨r1, e_r1, h⟩ := bind_some h
  refine Runs.callK false 8 95 [] [.t (.sl 1 (p0.fUp.map (eInt .i64))), .t (.int .i64 p1)] _ _ _ rfl rfl kr kr kr kr kr (laws_szIntS_ok u p0.fUp p1 r1 e_r1) kr ?_
  refine Runs.alln ?_
  refine Wp.fg ⟨[(1, .t (.int .i64 r1)), (4, .t (.int .i64 0))], [], []⟩ ?_
  refine Wp.seq ?_
  refine Wp.srg [] [] ?_
  refine Runs.alln ?_
  refine Wp.fg ⟨[(1, .t (.int .i64 r1)), (4, .t (.int .i64 0)), (10, .t (.bool (decide (r1 < 0))))], [], []⟩ ?_
  refine Wp.cond2 (b := decide (r1 < 0)) kr (fun hc => ?_) (fun hc => ?_)
  · have h := cond_t h hc
    refine Wp.srg [] [] ?_
    refine Runs.alln ?_
    refine Wp.fg ⟨[(1, .t (.int .i64 r1)), (4, .t (.int .i64 (-1)))], [], []⟩ ?_
    refine Wp.ret ?_
    refine thenR ?_
    obtain rfl := Option.some.inj h
    exact RetK [.t (.int .i64 (-1))] _ [] kr kr (.refl _) .nil
  have h := cond_f h hc
  refine Wp.skip (thenN ?_)
  refine Wp.srg [] [] ?_
  refine Runs.alln ?_
  refine Wp.fg ⟨[(4, .t (.int .i64 r1))], [], []⟩ ?_
  refine Wp.ret ?_
  obtain rfl := Option.some.inj h
  exact RetK [.t (.int .i64 r1)] _ [] kr kr (.refl _) .nil
theorem laws_szByteS_ok (u : Nat) (p0 : List Int) (p1 : Int) (r : Int) (h : laws_szByteS u p0 p1 = some r) : CallOK Tryz.prog 38 [.one (.t (.sl 1 (p0.map (eInt .u8)))), .one (.t (.int .i64 p1))] (.one (.t (.int .i64 r))) [] := by
  unfold laws_szByteS at h
  refine CallOK.of_bodyK (fn := Tryz.f38) (m := false) [.t (.sl 1 (p0.map (eInt .u8))), .t (.int .i64 p1)] kr rfl kr kr kr kr kr ?_
  refine Wp.srg [] [] ?_
  refine Runs.alln ?_
  refine Wp.fg ⟨[(0, .t (.sl 1 (p0.map (eInt .u8)))), (1, .t (.int .i64 p1)), (4, .t (.int .i64 0))], [], []⟩ ?_
  refine Wp.srg [] [] ?_
  refine Runs.batch 2 kr ?_
  refine Runs.lenT (y := .t (.sl 1 (p0.map (eInt .u8)))) (e := 5) (eInt .u8) p0 1 rfl rfl rfl kr kr kr kr kr ?_
  refine Runs.alln ?_
  refine Wp.fg ⟨[(1, .t (.int .i64 (bSub .i64 p1 ((p0.length : Int))))), (4, .t (.int .i64 0))], [], []⟩ ?_
  refine Wp.seq ?_
  refine Wp.srg [] [] ?_
  refine Runs.alln ?_
  refine Wp.fg ⟨[(1, .t (.int .i64 (bSub .i64 p1 ((p0.length : Int))))), (4, .t (.int .i64 0)), (10, .t (.bool (decide ((bSub .i64 p1 ((p0.length : Int))) < 0))))], [], []⟩ ?_
  refine Wp.cond2 (b := decide ((bSub .i64 p1 ((p0.length : Int))) < 0)) kr (fun hc => ?_) (fun hc => ?_)
  · have h := cond_t h hc
    refine Wp.srg [] [] ?_
    refine Runs.alln ?_
    refine Wp.fg ⟨[(1, .t (.int .i64 (bSub .i64 p1 ((p0.length : Int))))), (4, .t (.int .i64 (-1)))], [], []⟩ ?_
    refine Wp.ret ?_
    refine thenR ?_
    obtain rfl := Option.some.inj h
    exact RetK [.t (.int .i64 (-1))] _ [] kr kr (.refl _) .nil
  have h := cond_f h hc
  refine Wp.skip (thenN ?_)
  refine Wp.srg [] [] ?_
  refine Runs.alln ?_
  refine Wp.fg ⟨[(4, .t (.int .i64 (bSub .i64 p1 ((p0.length : Int)))))], [], []⟩ ?_
  refine Wp.ret ?_
  obtain rfl := Option.some.inj h
  exact RetK [.t (.int .i64 (bSub .i64 p1 ((p0.length : Int))))] _ [] kr kr (.refl _) .nil
theorem laws_szImage_ok (u : Nat) (p0 : Image) (p1 : Int) (r : Int) (h : laws_szImage u p0 p1 = some r) : CallOK Tryz.prog 96 [.agg [.t (.sl 1 (p0.fB.map (eInt .u8)))], .one (.t (.int .i64 p1))] (.one (.t (.int .i64 r))) [] := by
  unfold laws_szImage at h
  refine CallOK.of_bodyK (fn := Tryz.f96) (m := false) [.agg [.t (.sl 1 (p0.fB.map (eInt .u8)))], .t (.int .i64 p1)] kr rfl kr kr kr kr kr ?_
  refine Wp.srg [] [] ?_
  refine Runs.alln ?_
  refine Wp.fg ⟨[(1, .t (.int .i64 p1)), (2, .obj 2 0), (4, .t (.int .i64 0))], [(2, [.t (.sl 1 (p0.fB.map (eInt .u8)))])], []⟩ ?_
  refine Wp.srg [] [] ?_
  refine Runs.batch 3 kr ?_
  obtain ⟨r1, e_r1, h⟩ := bind_some h
  refine Runs.callK false 8 38 [] [.t (.sl 1 (p0.fB.map (eInt .u8))), .t (.int .i64 p1)] _ _ _ rfl rfl kr kr kr kr kr (laws_szByteS_ok u p0.fB p1 r1 e_r1) kr ?_
  refine Runs.alln ?_
  refine Wp.fg ⟨[(1, .t (.int .i64 r1)), (4, .t (.int .i64 0))], [], []⟩ ?_
  refine Wp.seq ?_
  refine Wp.srg [] [] ?_
  refine Runs.alln ?_
  refine Wp.fg ⟨[(1, .t (.int .i64 r1)), (4, .t (.int .i64 0)), (10, .t (.bool (decide (r1 < 0))))], [], []⟩ ?_
  refine Wp.cond2 (b := decide (r1 < 0)) kr (fun hc => ?_) (fun hc => ?_)
  · have h := cond_t h hc
    refine Wp.srg [] [] ?_
    refine Runs.alln ?_
    refine Wp.fg ⟨[(1, .t (.int .i64 r1)), (4, .t (.int .i64 (-1)))], [], []⟩ ?_
    refine Wp.ret ?_
    refine thenR ?_
    obtain rfl := Option.some.inj h
    exact RetK [.t (.int .i64 (-1))] _ [] kr kr (.refl _) .nil
  have h := cond_f h hc
  refine Wp.skip (thenN ?_)
  refine Wp.srg [] [] ?_
  refine Runs.alln ?_
  refine Wp.fg ⟨[(4, .t (.int .i64 r1))], [], []⟩ ?_
  refine Wp.ret ?_
  obtain rfl := Option.some.inj h
  exact RetK [.t (.int .i64 r1)] _ [] kr kr (.refl _) .nil
theorem laws_szImageS_ok (u : Nat) (p0 : List Image) (p1 : Int) (r : Int) (h : laws_szImageS u p0 p1 = some r) : CallOK Tryz.prog 39 [.one (.t (.sl 1 (p0.map Image.enc))), .one (.t (.int .i64 p1))] (.one (.t (.int .i64 r))) [] := by
  unfold laws_szImageS at h
  refine CallOK.of_bodyK (fn := Tryz.f39) (m := false) [.t (.sl 1 (p0.map Image.enc)), .t (.int .i64 p1)] kr rfl kr kr kr kr kr ?_
  refine Wp.srg [] [] ?_
  refine Runs.alln ?_
  refine Wp.fg ⟨[(0, .t (.sl 1 (p0.map Image.enc))), (1, .t (.int .i64 p1)), (4, .t (.int .i64 0))], [], []⟩ ?_
  refine Wp.srg [] [] ?_
  refine Runs.batch 2 kr ?_
  refine Runs.lenT (y := .t (.sl 1 (p0.map Image.enc))) (e := 113) Image.enc p0 1 rfl rfl rfl kr kr kr kr kr ?_
  refine Runs.alln ?_
  refine Wp.fg ⟨[(0, .t (.sl 1 (p0.map Image.enc))), (1, .t (.int .i64 (bSub .i64 p1 ((p0.length : Int))))), (4, .t (.int .i64 0))], [], []⟩ ?_
  refine Wp.seq ?_
  refine Wp.srg [] [] ?_
  refine Runs.alln ?_
  refine Wp.fg ⟨[(0, .t (.sl 1 (p0.map Image.enc))), (1, .t (.int .i64 (bSub .i64 p1 ((p0.length : Int))))), (4, .t (.int .i64 0)), (11, .t (.bool (decide ((bSub .i64 p1 ((p0.length : Int))) < 0))))], [], []⟩ ?_
  refine Wp.cond2 (b := decide ((bSub .i64 p1 ((p0.length : Int))) < 0)) kr (fun hc => ?_) (fun hc => ?_)
  · have h := cond_t h hc
    refine Wp.srg [] [] ?_
    refine Runs.alln ?_
    refine Wp.fg ⟨[(0, .t (.sl 1 (p0.map Image.enc))), (1, .t (.int .i64 (bSub .i64 p1 ((p0.length : Int))))), (4, .t (.int .i64 (-1)))], [], []⟩ ?_
    refine Wp.ret ?_
    refine thenR ?_
    obtain rfl := Option.some.inj h
    exact RetK [.t (.int .i64 (-1))] _ [] kr kr (.refl _) .nil
  have h := cond_f h hc
  refine Wp.skip (thenN ?_)
  refine Wp.seqJ (α := Int) (fun a => ⟨[(1, .t (.int .i64 a)), (4, .t (.int .i64 0))], [], []⟩) (fun a => laws_szImageS_j1 u a = some r) ?_ ?_
  · rintro x9 h
    change laws_szImageS_j1 u x9 = some r at h
    unfold laws_szImageS_j1 at h
    refine Wp.srg [] [] ?_
    refine Runs.alln ?_
    refine Wp.fg ⟨[(4, .t (.int .i64 x9))], [], []⟩ ?_
    refine Wp.ret ?_
    obtain rfl := Option.some.inj h
    exact RetK [.t (.int .i64 x9)] _ [] kr kr (.refl _) .nil
  · refine Wp.srg [] [] ?_
    refine Runs.alln ?_
    refine Wp.fg ⟨[(0, .t (.sl 1 (p0.map Image.enc))), (1, .t (.int .i64 (bSub .i64 p1 ((p0.length : Int))))), (4, .t (.int .i64 0)), (5, .t (.int .i64 0))], [], []⟩ ?_
    refine Wp.block ?_
    refine Wp.loopF (α := (List Image) × Int × Int) (fun a => ⟨[(0, .t (.sl 1 (a.1.map Image.enc))), (1, .t (.int .i64 a.2.1)), (4, .t (.int .i64 0)), (5, .t (.int .i64 a.2.2))], [], []⟩) (fun k_laws_szImageS_l2 a => laws_szImageS_l2 u k_laws_szImageS_l2 a.1 a.2.1 a.2.2 = some r) ?_ ?_ u (p0, bSub .i64 p1 ((p0.length : Int)), 0) h (Le.of (mo := []) (mr := []) kr kr kr kr)
    · intro a h; unfold laws_szImageS_l2 at h; cases h
    · rintro k_laws_szImageS_l2 ⟨p0, x3, x4⟩ h
      change laws_szImageS_l2 u (k_laws_szImageS_l2 + 1) p0 x3 x4 = some r at h
      rw [laws_szImageS_l2] at h
      refine Wp.seq ?_
      refine Wp.srg [] [] ?_
      refine Runs.batch 2 kr ?_
      refine Runs.lenT (y := .t (.sl 1 (p0.map Image.enc))) (e := 113) Image.enc p0 1 rfl rfl rfl kr kr kr kr kr ?_
      refine Runs.alln ?_
      refine Wp.fg ⟨[(0, .t (.sl 1 (p0.map Image.enc))), (1, .t (.int .i64 x3)), (4, .t (.int .i64 0)), (5, .t (.int .i64 x4)), (15, .t (.bool (decide (x4 < ((p0.length : Int))))))], [], []⟩ ?_
      refine Wp.cond2 (b := decide (x4 < ((p0.length : Int)))) kr (fun hc => ?_) (fun hc => ?_)
      · have h := cond_t h hc
        refine Wp.skip (thenN ?_)
        refine Wp.seq ?_
        refine Wp.block ?_
        refine Wp.srg [] [] ?_
        refine Runs.batch 2 kr ?_
        obtain ⟨y7, e_y7, h⟩ := bind_some h
        refine Runs.idxT (e := 113) (kk := .i64) (sz := 1) Image.enc p0 x4 rfl kr kr kr kr kr kr e_y7 ?_
        refine Runs.batch 2 kr ?_
        obtain ⟨r8, e_r8, h⟩ := bind_some h
        refine Runs.callK false 23 96 [] [.agg [.t (.sl 1 (y7.fB.map (eInt .u8)))], .t (.int .i64 x3)] _ _ _ rfl rfl kr kr kr kr kr (laws_szImage_ok u y7 x3 r8 e_r8) kr ?_
        refine Runs.alln ?_
        refine Wp.fg ⟨[(0, .t (.sl 1 (p0.map Image.enc))), (1, .t (.int .i64 r8)), (4, .t (.int .i64 0)), (5, .t (.int .i64 x4))], [], []⟩ ?_
        refine Wp.srg [] [] ?_
        refine Runs.alln ?_
        refine Wp.fg ⟨[(0, .t (.sl 1 (p0.map Image.enc))), (1, .t (.int .i64 r8)), (4, .t (.int .i64 0)), (5, .t (.int .i64 x4)), (25, .t (.bool (decide (r8 < 0))))], [], []⟩ ?_
        refine Wp.cond2 (b := decide (r8 < 0)) kr (fun hc => ?_) (fun hc => ?_)
        · have h := cond_t h hc
          refine Wp.srg [] [] ?_
          refine Runs.alln ?_
          refine Wp.fg ⟨[(0, .t (.sl 1 (p0.map Image.enc))), (1, .t (.int .i64 r8)), (4, .t (.int .i64 (-1))), (5, .t (.int .i64 x4))], [], []⟩ ?_
          refine Wp.ret ?_
          refine blkR ?_
          refine thenR ?_
          refine thenR ?_
          refine blkR ?_
          refine thenR ?_
          obtain rfl := Option.some.inj h
          exact RetK [.t (.int .i64 (-1))] _ [] kr kr (.refl _) .nil
        have h := cond_f h hc
        refine Wp.skip ?_
        refine blkN ?_
        refine thenN ?_
        refine Wp.rg [] [] ?_
        refine Runs.alln ?_
        exact ⟨(p0, r8, bAdd .i64 x4 1), h, Le.of (mo := []) (mr := []) kr kr kr kr⟩
      have h := cond_f h hc
      refine Wp.exit ?_
      refine thenE ?_
      refine thenE ?_
      refine blkE ?_
      refine thenN ?_
      exact ⟨x3, h, Le.of (mo := []) (mr := []) kr kr kr kr⟩
theorem laws_szSumS_ok (u : Nat) (p0 : List Sum) (p1 : Int) (r : Int) (h : laws_szSumS u p0 p1 = some r) : CallOK Tryz.prog 173 [.one (.t (.sl 2 (p0.map Sum.enc))), .one (.t (.int .i64 p1))] (.one (.t (.int .i64 r))) [] := by
  unfold laws_szSumS at h
  refine CallOK.of_bodyK (fn := Tryz.f173) (m := false) [.t (.sl 2 (p0.map Sum.enc)), .t (.int .i64 p1)] kr rfl kr kr kr kr kr ?_
  refine Wp.srg [] [] ?_
  refine Runs.alln ?_
  refine Wp.fg ⟨[(0, .t (.sl 2 (p0.map Sum.enc))), (1, .t (.int .i64 p1)), (4, .t (.int .i64 0))], [], []⟩ ?_
  refine Wp.srg [] [] ?_
  refine Runs.batch 2 kr ?_
  refine Runs.lenT (y := .t (.sl 2 (p0.map Sum.enc))) (e := 212) Sum.enc p0 2 rfl rfl rfl kr kr kr kr kr ?_
  refine Runs.alln ?_
  refine Wp.fg ⟨[(1, .t (.int .i64 (bSub .i64 p1 ((p0.length : Int))))), (4, .t (.int .i64 0))], [], []⟩ ?_
  refine Wp.seq ?_
  refine Wp.srg [] [] ?_
  refine Runs.alln ?_
  refine Wp.fg ⟨[(1, .t (.int .i64 (bSub .i64 p1 ((p0.length : Int))))), (4, .t (.int .i64 0)), (10, .t (.bool (decide ((bSub .i64 p1 ((p0.length : Int))) < 0))))], [], []⟩ ?_
  refine Wp.cond2 (b := decide ((bSub .i64 p1 ((p0.length : Int))) < 0)) kr (fun hc => ?_) (fun hc => ?_)
  · have h := cond_t h hc
    refine Wp.srg [] [] ?_
    refine Runs.alln ?_
    refine Wp.fg ⟨[(1, .t (.int .i64 (bSub .i64 p1 ((p0.length : Int))))), (4, .t (.int .i64 (-1)))], [], []⟩ ?_
    refine Wp.ret ?_
    refine thenR ?_
    obtain rfl := Option.some.inj h
    exact RetK [.t (.int .i64 (-1))] _ [] kr kr (.refl _) .nil
  have h := cond_f h hc
  refine Wp.skip (thenN ?_)
  refine Wp.srg [] [] ?_
  refine Runs.alln ?_
  refine Wp.fg ⟨[(4, .t (.int .i64 (bSub .i64 p1 ((p0.length : Int)))))], [], []⟩ ?_
  refine Wp.ret ?_
  obtain rfl := Option.some.inj h
  exact RetK [.t (.int .i64 (bSub .i64 p1 ((p0.length : Int))))] _ [] kr kr (.refl _) .nil
theorem laws_szManifest_ok (u : Nat) (p0 : Manifest) (p1 : Int) (r : Int) (h : laws_szManifest u p0 p1 = some r) : CallOK Tryz.prog 136 [.agg [.t (.int .i64 p0.fGen), .t (.int .i64 p0.fSize), .t (.int .i64 p0.fLen), .t (.sl 2 (p0.fSums.map Sum.enc))], .one (.t (.int .i64 p1))] (.one (.t (.int .i64 r))) [] := by
  unfold laws_szManifest at h
  refine CallOK.of_bodyK (fn := Tryz.f136) (m := false) [.agg ((Manifest.enc p0).map .t), .t (.int .i64 p1)] kr rfl kr kr kr kr kr ?_
  refine Wp.srg [] [] ?_
  refine Runs.alln ?_
  refine Wp.fg ⟨[(1, .t (.int .i64 p1)), (2, .obj 2 0), (4, .t (.int .i64 0))], [(2, ((Manifest.enc p0).map .t))], []⟩ ?_
  refine Wp.srg [] [] ?_
  refine Runs.batch 3 kr ?_
  obtain ⟨r1, e_r1, h⟩ := bind_some h
  refine Runs.callK false 8 173 [] [.t (.sl 2 (p0.fSums.map Sum.enc)), .t (.int .i64 p1)] _ _ _ rfl rfl kr kr kr kr kr (laws_szSumS_ok u p0.fSums p1 r1 e_r1) kr ?_
  refine Runs.alln ?_
  refine Wp.fg ⟨[(1, .t (.int .i64 r1)), (4, .t (.int .i64 0))], [], []⟩ ?_
  refine Wp.seq ?_
  refine Wp.srg [] [] ?_
  refine Runs.alln ?_
  refine Wp.fg ⟨[(1, .t (.int .i64 r1)), (4, .t (.int .i64 0)), (10, .t (.bool (decide (r1 < 0))))], [], []⟩ ?_
  refine Wp.cond2 (b := decide (r1 < 0)) kr (fun hc => ?_) (fun hc => ?_)
  · have h := cond_t h hc
    refine Wp.srg [] [] ?_
    refine Runs.alln ?_
    refine Wp.fg ⟨[(1, .t (.int .i64 r1)), (4, .t (.int .i64 (-1)))], [], []⟩ ?_
    refine Wp.ret ?_
    refine thenR ?_
    obtain rfl := Option.some.inj h
    exact RetK [.t (.int .i64 (-1))] _ [] kr kr (.refl _) .nil
  have h := cond_f h hc
  refine Wp.skip (thenN ?_)
  refine Wp.srg [] [] ?_
  refine Runs.alln ?_
  refine Wp.fg ⟨[(4, .t (.int .i64 r1))], [], []⟩ ?_
  refine Wp.ret ?_
  obtain rfl := Option.some.inj h
  exact RetK [.t (.int .i64 r1)] _ [] kr kr (.refl _) .nil
theorem laws_szBuild_ok (u : Nat) (p0 : Build) (p1 : Int) (r : Int) (h : laws_szBuild u p0 p1 = some r) : CallOK Tryz.prog 137 [.agg [.t (.int .i64 p0.fHave), .t (.sl 1 (p0.fBuf.map (eInt .u8)))], .one (.t (.int .i64 p1))] (.one (.t (.int .i64 r))) [] := by
  unfold laws_szBuild at h
  refine CallOK.of_bodyK (fn := Tryz.f137) (m := false) [.agg [.t (.int .i64 p0.fHave), .t (.sl 1 (p0.fBuf.map (eInt .u8)))], .t (.int .i64 p1)] kr rfl kr kr kr kr kr ?_
  refine Wp.srg [] [] ?_
  refine Runs.alln ?_
  refine Wp.fg ⟨[(1, .t (.int .i64 p1)), (2, .obj 2 0), (4, .t (.int .i64 0))], [(2, [.t (.int .i64 p0.fHave), .t (.sl 1 (p0.fBuf.map (eInt .u8)))])], []⟩ ?_
  refine Wp.srg [] [] ?_
  refine Runs.batch 3 kr ?_
  obtain ⟨r1, e_r1, h⟩ := bind_some h
  refine Runs.callK false 8 38 [] [.t (.sl 1 (p0.fBuf.map (eInt .u8))), .t (.int .i64 p1)] _ _ _ rfl rfl kr kr kr kr kr (laws_szByteS_ok u p0.fBuf p1 r1 e_r1) kr ?_
  refine Runs.alln ?_
  refine Wp.fg ⟨[(1, .t (.int .i64 r1)), (4, .t (.int .i64 0))], [], []⟩ ?_
  refine Wp.seq ?_
  refine Wp.srg [] [] ?_
  refine Runs.alln ?_
  refine Wp.fg ⟨[(1, .t (.int .i64 r1)), (4, .t (.int .i64 0)), (10, .t (.bool (decide (r1 < 0))))], [], []⟩ ?_
  refine Wp.cond2 (b := decide (r1 < 0)) kr (fun hc => ?_) (fun hc => ?_)
  · have h := cond_t h hc
    refine Wp.srg [] [] ?_
    refine Runs.alln ?_
    refine Wp.fg ⟨[(1, .t (.int .i64 r1)), (4, .t (.int .i64 (-1)))], [], []⟩ ?_
    refine Wp.ret ?_
    refine thenR ?_
    obtain rfl := Option.some.inj h
    exact RetK [.t (.int .i64 (-1))] _ [] kr kr (.refl _) .nil
  have h := cond_f h hc
  refine Wp.skip (thenN ?_)
  refine Wp.srg [] [] ?_
  refine Runs.alln ?_
  refine Wp.fg ⟨[(4, .t (.int .i64 r1))], [], []⟩ ?_
  refine Wp.ret ?_
  obtain rfl := Option.some.inj h
  exact RetK [.t (.int .i64 r1)] _ [] kr kr (.refl _) .nil
theorem laws_szKidS_ok (u : Nat) (p0 : List Kid) (p1 : Int) (r : Int) (h : laws_szKidS u p0 p1 = some r) : CallOK Tryz.prog 138 [.one (.t (.sl 5 (p0.map Kid.enc))), .one (.t (.int .i64 p1))] (.one (.t (.int .i64 r))) [] := by
  unfold laws_szKidS at h
  refine CallOK.of_bodyK (fn := Tryz.f138) (m := false) [.t (.sl 5 (p0.map Kid.enc)), .t (.int .i64 p1)] kr rfl kr kr kr kr kr ?_
  refine Wp.srg [] [] ?_
  refine Runs.alln ?_
  refine Wp.fg ⟨[(0, .t (.sl 5 (p0.map Kid.enc))), (1, .t (.int .i64 p1)), (4, .t (.int .i64 0))], [], []⟩ ?_
  refine Wp.srg [] [] ?_
  refine Runs.batch 2 kr ?_
  refine Runs.lenT (y := .t (.sl 5 (p0.map Kid.enc))) (e := 196) Kid.enc p0 5 rfl rfl rfl kr kr kr kr kr ?_
  refine Runs.alln ?_
  refine Wp.fg ⟨[(1, .t (.int .i64 (bSub .i64 p1 ((p0.length : Int))))), (4, .t (.int .i64 0))], [], []⟩ ?_
  refine Wp.seq ?_
  refine Wp.srg [] [] ?_
  refine Runs.alln ?_
  refine Wp.fg ⟨[(1, .t (.int .i64 (bSub .i64 p1 ((p0.length : Int))))), (4, .t (.int .i64 0)), (10, .t (.bool (decide ((bSub .i64 p1 ((p0.length : Int))) < 0))))], [], []⟩ ?_
  refine Wp.cond2 (b := decide ((bSub .i64 p1 ((p0.length : Int))) < 0)) kr (fun hc => ?_) (fun hc => ?_)
  · have h := cond_t h hc
    refine Wp.srg [] [] ?_
    refine Runs.alln ?_
    refine Wp.fg ⟨[(1, .t (.int .i64 (bSub .i64 p1 ((p0.length : Int))))), (4, .t (.int .i64 (-1)))], [], []⟩ ?_
    refine Wp.ret ?_
    refine thenR ?_
    obtain rfl := Option.some.inj h
    exact RetK [.t (.int .i64 (-1))] _ [] kr kr (.refl _) .nil
  have h := cond_f h hc
  refine Wp.skip (thenN ?_)
  refine Wp.srg [] [] ?_
  refine Runs.alln ?_
  refine Wp.fg ⟨[(4, .t (.int .i64 (bSub .i64 p1 ((p0.length : Int)))))], [], []⟩ ?_
  refine Wp.ret ?_
  obtain rfl := Option.some.inj h
  exact RetK [.t (.int .i64 (bSub .i64 p1 ((p0.length : Int))))] _ [] kr kr (.refl _) .nil
theorem laws_szNode_ok (u : Nat) (p0 : Node) (p1 : Int) (r : Int) (h : laws_szNode u p0 p1 = some r) : CallOK Tryz.prog 97 [.agg [.t (.bool p0.fOn), .t (.int .i64 p0.fBoss), .t (.int .i64 p0.fQuiet), .t (.int .i64 p0.fMan.fGen), .t (.int .i64 p0.fMan.fSize), .t (.int .i64 p0.fMan.fLen), .t (.sl 2 (p0.fMan.fSums.map Sum.enc)), .t (.int .i64 p0.fBld.fHave), .t (.sl 1 (p0.fBld.fBuf.map (eInt .u8))), .t (.int .i64 p0.fPhase), .t (.sl 5 (p0.fKids.map Kid.enc)), .t (.int .i64 p0.fDrops)], .one (.t (.int .i64 p1))] (.one (.t (.int .i64 r))) [] := by
  unfold laws_szNode at h
  refine CallOK.of_bodyK (fn := Tryz.f97) (m := false) [.agg ((Node.enc p0).map .t), .t (.int .i64 p1)] kr rfl kr kr kr kr kr ?_
  refine Wp.srg [] [] ?_
  refine Runs.alln ?_
  refine Wp.fg ⟨[(1, .t (.int .i64 p1)), (2, .obj 2 0), (4, .t (.int .i64 0))], [(2, ((Node.enc p0).map .t))], []⟩ ?_
  refine Wp.srg [] [] ?_
  refine Runs.batch 3 kr ?_
  obtain ⟨r1, e_r1, h⟩ := bind_some h
  refine Runs.callK false 8 136 [] [.agg ((Manifest.enc p0.fMan).map .t), .t (.int .i64 p1)] _ _ _ rfl rfl kr kr kr kr kr (laws_szManifest_ok u p0.fMan p1 r1 e_r1) kr ?_
  refine Runs.alln ?_
  refine Wp.fg ⟨[(1, .t (.int .i64 r1)), (2, .obj 2 0), (4, .t (.int .i64 0))], [(2, ((Node.enc p0).map .t))], []⟩ ?_
  refine Wp.seq ?_
  refine Wp.srg [] [] ?_
  refine Runs.alln ?_
  refine Wp.fg ⟨[(1, .t (.int .i64 r1)), (2, .obj 2 0), (4, .t (.int .i64 0)), (10, .t (.bool (decide (r1 < 0))))], [(2, ((Node.enc p0).map .t))], []⟩ ?_
  refine Wp.cond2 (b := decide (r1 < 0)) kr (fun hc => ?_) (fun hc => ?_)
  · have h := cond_t h hc
    refine Wp.srg [] [] ?_
    refine Runs.alln ?_
    refine Wp.fg ⟨[(1, .t (.int .i64 r1)), (2, .obj 2 0), (4, .t (.int .i64 (-1)))], [(2, ((Node.enc p0).map .t))], []⟩ ?_
    refine Wp.ret ?_
    refine thenR ?_
    obtain rfl := Option.some.inj h
    exact RetK [.t (.int .i64 (-1))] _ [] kr kr (.refl _) .nil
  have h := cond_f h hc
  refine Wp.skip (thenN ?_)
  refine Wp.srg [] [] ?_
  refine Runs.batch 3 kr ?_
  obtain ⟨r2, e_r2, h⟩ := bind_some h
  refine Runs.callK false 14 137 [] [.agg [.t (.int .i64 p0.fBld.fHave), .t (.sl 1 (p0.fBld.fBuf.map (eInt .u8)))], .t (.int .i64 r1)] _ _ _ rfl rfl kr kr kr kr kr (laws_szBuild_ok u p0.fBld r1 r2 e_r2) kr ?_
  refine Runs.alln ?_
  refine Wp.fg ⟨[(1, .t (.int .i64 r2)), (2, .obj 2 0), (4, .t (.int .i64 0))], [(2, ((Node.enc p0).map .t))], []⟩ ?_
  refine Wp.seq ?_
  refine Wp.srg [] [] ?_
  refine Runs.alln ?_
  refine Wp.fg ⟨[(1, .t (.int .i64 r2)), (2, .obj 2 0), (4, .t (.int .i64 0)), (16, .t (.bool (decide (r2 < 0))))], [(2, ((Node.enc p0).map .t))], []⟩ ?_
  refine Wp.cond2 (b := decide (r2 < 0)) kr (fun hc => ?_) (fun hc => ?_)
  · have h := cond_t h hc
    refine Wp.srg [] [] ?_
    refine Runs.alln ?_
    refine Wp.fg ⟨[(1, .t (.int .i64 r2)), (2, .obj 2 0), (4, .t (.int .i64 (-1)))], [(2, ((Node.enc p0).map .t))], []⟩ ?_
    refine Wp.ret ?_
    refine thenR ?_
    obtain rfl := Option.some.inj h
    exact RetK [.t (.int .i64 (-1))] _ [] kr kr (.refl _) .nil
  have h := cond_f h hc
  refine Wp.skip (thenN ?_)
  refine Wp.srg [] [] ?_
  refine Runs.batch 3 kr ?_
  obtain ⟨r3, e_r3, h⟩ := bind_some h
  refine Runs.callK false 20 138 [] [.t (.sl 5 (p0.fKids.map Kid.enc)), .t (.int .i64 r2)] _ _ _ rfl rfl kr kr kr kr kr (laws_szKidS_ok u p0.fKids r2 r3 e_r3) kr ?_
  refine Runs.alln ?_
  refine Wp.fg ⟨[(1, .t (.int .i64 r3)), (4, .t (.int .i64 0))], [], []⟩ ?_
  refine Wp.seq ?_
  refine Wp.srg [] [] ?_
  refine Runs.alln ?_
  refine Wp.fg ⟨[(1, .t (.int .i64 r3)), (4, .t (.int .i64 0)), (22, .t (.bool (decide (r3 < 0))))], [], []⟩ ?_
  refine Wp.cond2 (b := decide (r3 < 0)) kr (fun hc => ?_) (fun hc => ?_)
  · have h := cond_t h hc
    refine Wp.srg [] [] ?_
    refine Runs.alln ?_
    refine Wp.fg ⟨[(1, .t (.int .i64 r3)), (4, .t (.int .i64 (-1)))], [], []⟩ ?_
    refine Wp.ret ?_
    refine thenR ?_
    obtain rfl := Option.some.inj h
    exact RetK [.t (.int .i64 (-1))] _ [] kr kr (.refl _) .nil
  have h := cond_f h hc
  refine Wp.skip (thenN ?_)
  refine Wp.srg [] [] ?_
  refine Runs.alln ?_
  refine Wp.fg ⟨[(4, .t (.int .i64 r3))], [], []⟩ ?_
  refine Wp.ret ?_
  obtain rfl := Option.some.inj h
  exact RetK [.t (.int .i64 r3)] _ [] kr kr (.refl _) .nil
theorem laws_szNodeS_ok (u : Nat) (p0 : List Node) (p1 : Int) (r : Int) (h : laws_szNodeS u p0 p1 = some r) : CallOK Tryz.prog 40 [.one (.t (.sl 12 (p0.map Node.enc))), .one (.t (.int .i64 p1))] (.one (.t (.int .i64 r))) [] := by
  unfold laws_szNodeS at h
  refine CallOK.of_bodyK (fn := Tryz.f40) (m := false) [.t (.sl 12 (p0.map Node.enc)), .t (.int .i64 p1)] kr rfl kr kr kr kr kr ?_
  refine Wp.srg [] [] ?_
  refine Runs.alln ?_
  refine Wp.fg ⟨[(0, .t (.sl 12 (p0.map Node.enc))), (1, .t (.int .i64 p1)), (4, .t (.int .i64 0))], [], []⟩ ?_
  refine Wp.srg [] [] ?_
  refine Runs.batch 2 kr ?_
  refine Runs.lenT (y := .t (.sl 12 (p0.map Node.enc))) (e := 121) Node.enc p0 12 rfl rfl rfl kr kr kr kr kr ?_
  refine Runs.alln ?_
  refine Wp.fg ⟨[(0, .t (.sl 12 (p0.map Node.enc))), (1, .t (.int .i64 (bSub .i64 p1 ((p0.length : Int))))), (4, .t (.int .i64 0))], [], []⟩ ?_
  refine Wp.seq ?_
  refine Wp.srg [] [] ?_
  refine Runs.alln ?_
  refine Wp.fg ⟨[(0, .t (.sl 12 (p0.map Node.enc))), (1, .t (.int .i64 (bSub .i64 p1 ((p0.length : Int))))), (4, .t (.int .i64 0)), (11, .t (.bool (decide ((bSub .i64 p1 ((p0.length : Int))) < 0))))], [], []⟩ ?_
  refine Wp.cond2 (b := decide ((bSub .i64 p1 ((p0.length : Int))) < 0)) kr (fun hc => ?_) (fun hc => ?_)
  · have h := cond_t h hc
    refine Wp.srg [] [] ?_
    refine Runs.alln ?_
    refine Wp.fg ⟨[(0, .t (.sl 12 (p0.map Node.enc))), (1, .t (.int .i64 (bSub .i64 p1 ((p0.length : Int))))), (4, .t (.int .i64 (-1)))], [], []⟩ ?_
    refine Wp.ret ?_
    refine thenR ?_
    obtain rfl := Option.some.inj h
    exact RetK [.t (.int .i64 (-1))] _ [] kr kr (.refl _) .nil
  have h := cond_f h hc
  refine Wp.skip (thenN ?_)
  refine Wp.seqJ (α := Int) (fun a => ⟨[(1, .t (.int .i64 a)), (4, .t (.int .i64 0))], [], []⟩) (fun a => laws_szNodeS_j1 u a = some r) ?_ ?_
  · rintro x9 h
    change laws_szNodeS_j1 u x9 = some r at h
    unfold laws_szNodeS_j1 at h
    refine Wp.srg [] [] ?_
    refine Runs.alln ?_
    refine Wp.fg ⟨[(4, .t (.int .i64 x9))], [], []⟩ ?_
    refine Wp.ret ?_
    obtain rfl := Option.some.inj h
    exact RetK [.t (.int .i64 x9)] _ [] kr kr (.refl _) .nil
  · refine Wp.srg [] [] ?_
    refine Runs.alln ?_
    refine Wp.fg ⟨[(0, .t (.sl 12 (p0.map Node.enc))), (1, .t (.int .i64 (bSub .i64 p1 ((p0.length : Int))))), (4, .t (.int .i64 0)), (5, .t (.int .i64 0))], [], []⟩ ?_
    refine Wp.block ?_
    refine Wp.loopF (α := (List Node) × Int × Int) (fun a => ⟨[(0, .t (.sl 12 (a.1.map Node.enc))), (1, .t (.int .i64 a.2.1)), (4, .t (.int .i64 0)), (5, .t (.int .i64 a.2.2))], [], []⟩) (fun k_laws_szNodeS_l2 a => laws_szNodeS_l2 u k_laws_szNodeS_l2 a.1 a.2.1 a.2.2 = some r) ?_ ?_ u (p0, bSub .i64 p1 ((p0.length : Int)), 0) h (Le.of (mo := []) (mr := []) kr kr kr kr)
    · intro a h; unfold laws_szNodeS_l2 at h; cases h
    · rintro k_laws_szNodeS_l2 ⟨p0, x3, x4⟩ h
      change laws_szNodeS_l2 u (k_laws_szNodeS_l2 + 1) p0 x3 x4 = some r at h
      rw [laws_szNodeS_l2] at h
      refine Wp.seq ?_
      refine Wp.srg [] [] ?_
      refine Runs.batch 2 kr ?_
      refine Runs.lenT (y := .t (.sl 12 (p0.map Node.enc))) (e := 121) Node.enc p0 12 rfl rfl rfl kr kr kr kr kr ?_
      refine Runs.alln ?_
      refine Wp.fg ⟨[(0, .t (.sl 12 (p0.map Node.enc))), (1, .t (.int .i64 x3)), (4, .t (.int .i64 0)), (5, .t (.int .i64 x4)), (15, .t (.bool (decide (x4 < ((p0.length : Int))))))], [], []⟩ ?_
      refine Wp.cond2 (b := decide (x4 < ((p0.length : Int)))) kr (fun hc => ?_) (fun hc => ?_)
      · have h := cond_t h hc
        refine Wp.skip (thenN ?_)
        refine Wp.seq ?_
        refine Wp.block ?_
        refine Wp.srg [] [] ?_
        refine Runs.batch 2 kr ?_
        obtain ⟨y7, e_y7, h⟩ := bind_some h
        refine Runs.idxT (e := 121) (kk := .i64) (sz := 12) Node.enc p0 x4 rfl kr kr kr kr kr kr e_y7 ?_
        refine Runs.batch 2 kr ?_
        obtain ⟨r8, e_r8, h⟩ := bind_some h
        refine Runs.callK false 23 97 [] [.agg ((Node.enc y7).map .t), .t (.int .i64 x3)] _ _ _ rfl rfl kr kr kr kr kr (laws_szNode_ok u y7 x3 r8 e_r8) kr ?_
        refine Runs.alln ?_
        refine Wp.fg ⟨[(0, .t (.sl 12 (p0.map Node.enc))), (1, .t (.int .i64 r8)), (4, .t (.int .i64 0)), (5, .t (.int .i64 x4))], [], []⟩ ?_
        refine Wp.srg [] [] ?_
        refine Runs.alln ?_
        refine Wp.fg ⟨[(0, .t (.sl 12 (p0.map Node.enc))), (1, .t (.int .i64 r8)), (4, .t (.int .i64 0)), (5, .t (.int .i64 x4)), (25, .t (.bool (decide (r8 < 0))))], [], []⟩ ?_
        refine Wp.cond2 (b := decide (r8 < 0)) kr (fun hc => ?_) (fun hc => ?_)
        · have h := cond_t h hc
          refine Wp.srg [] [] ?_
          refine Runs.alln ?_
          refine Wp.fg ⟨[(0, .t (.sl 12 (p0.map Node.enc))), (1, .t (.int .i64 r8)), (4, .t (.int .i64 (-1))), (5, .t (.int .i64 x4))], [], []⟩ ?_
          refine Wp.ret ?_
          refine blkR ?_
          refine thenR ?_
          refine thenR ?_
          refine blkR ?_
          refine thenR ?_
          obtain rfl := Option.some.inj h
          exact RetK [.t (.int .i64 (-1))] _ [] kr kr (.refl _) .nil
        have h := cond_f h hc
        refine Wp.skip ?_
        refine blkN ?_
        refine thenN ?_
        refine Wp.rg [] [] ?_
        refine Runs.alln ?_
        exact ⟨(p0, r8, bAdd .i64 x4 1), h, Le.of (mo := []) (mr := []) kr kr kr kr⟩
      have h := cond_f h hc
      refine Wp.exit ?_
      refine thenE ?_
      refine thenE ?_
      refine blkE ?_
      refine thenN ?_
      exact ⟨x3, h, Le.of (mo := []) (mr := []) kr kr kr kr⟩
theorem laws_szPut_ok (u : Nat) (p0 : Put) (p1 : Int) (r : Int) (h : laws_szPut u p0 p1 = some r) : CallOK Tryz.prog 174 [.agg [.t (.int .i64 p0.fWhat), .t (.int .i64 p0.fAt), .t (.sl 1 (p0.fB.map (eInt .u8))), .t (.int .i64 p0.fR.fGen), .t (.int .i64 p0.fR.fSlot), .t (.int .i64 p0.fR.fLen)], .one (.t (.int .i64 p1))] (.one (.t (.int .i64 r))) [] := by
  unfold laws_szPut at h
  refine CallOK.of_bodyK (fn := Tryz.f174) (m := false) [.agg ((Put.enc p0).map .t), .t (.int .i64 p1)] kr rfl kr kr kr kr kr ?_
  refine Wp.srg [] [] ?_
  refine Runs.alln ?_
  refine Wp.fg ⟨[(1, .t (.int .i64 p1)), (2, .obj 2 0), (4, .t (.int .i64 0))], [(2, ((Put.enc p0).map .t))], []⟩ ?_
  refine Wp.srg [] [] ?_
  refine Runs.batch 3 kr ?_
  obtain ⟨r1, e_r1, h⟩ := bind_some h
  refine Runs.callK false 8 38 [] [.t (.sl 1 (p0.fB.map (eInt .u8))), .t (.int .i64 p1)] _ _ _ rfl rfl kr kr kr kr kr (laws_szByteS_ok u p0.fB p1 r1 e_r1) kr ?_
  refine Runs.alln ?_
  refine Wp.fg ⟨[(1, .t (.int .i64 r1)), (4, .t (.int .i64 0))], [], []⟩ ?_
  refine Wp.seq ?_
  refine Wp.srg [] [] ?_
  refine Runs.alln ?_
  refine Wp.fg ⟨[(1, .t (.int .i64 r1)), (4, .t (.int .i64 0)), (10, .t (.bool (decide (r1 < 0))))], [], []⟩ ?_
  refine Wp.cond2 (b := decide (r1 < 0)) kr (fun hc => ?_) (fun hc => ?_)
  · have h := cond_t h hc
    refine Wp.srg [] [] ?_
    refine Runs.alln ?_
    refine Wp.fg ⟨[(1, .t (.int .i64 r1)), (4, .t (.int .i64 (-1)))], [], []⟩ ?_
    refine Wp.ret ?_
    refine thenR ?_
    obtain rfl := Option.some.inj h
    exact RetK [.t (.int .i64 (-1))] _ [] kr kr (.refl _) .nil
  have h := cond_f h hc
  refine Wp.skip (thenN ?_)
  refine Wp.srg [] [] ?_
  refine Runs.alln ?_
  refine Wp.fg ⟨[(4, .t (.int .i64 r1))], [], []⟩ ?_
  refine Wp.ret ?_
  obtain rfl := Option.some.inj h
  exact RetK [.t (.int .i64 r1)] _ [] kr kr (.refl _) .nil
theorem laws_szPutS_ok (u : Nat) (p0 : List Put) (p1 : Int) (r : Int) (h : laws_szPutS u p0 p1 = some r) : CallOK Tryz.prog 139 [.one (.t (.sl 6 (p0.map Put.enc))), .one (.t (.int .i64 p1))] (.one (.t (.int .i64 r))) [] := by
  unfold laws_szPutS at h
  refine CallOK.of_bodyK (fn := Tryz.f139) (m := false) [.t (.sl 6 (p0.map Put.enc)), .t (.int .i64 p1)] kr rfl kr kr kr kr kr ?_
  refine Wp.srg [] [] ?_
  refine Runs.alln ?_
  refine Wp.fg ⟨[(0, .t (.sl 6 (p0.map Put.enc))), (1, .t (.int .i64 p1)), (4, .t (.int .i64 0))], [], []⟩ ?_
  refine Wp.srg [] [] ?_
  refine Runs.batch 2 kr ?_
  refine Runs.lenT (y := .t (.sl 6 (p0.map Put.enc))) (e := 193) Put.enc p0 6 rfl rfl rfl kr kr kr kr kr ?_
  refine Runs.alln ?_
  refine Wp.fg ⟨[(0, .t (.sl 6 (p0.map Put.enc))), (1, .t (.int .i64 (bSub .i64 p1 ((p0.length : Int))))), (4, .t (.int .i64 0))], [], []⟩ ?_
  refine Wp.seq ?_
  refine Wp.srg [] [] ?_
  refine Runs.alln ?_
  refine Wp.fg ⟨[(0, .t (.sl 6 (p0.map Put.enc))), (1, .t (.int .i64 (bSub .i64 p1 ((p0.length : Int))))), (4, .t (.int .i64 0)), (11, .t (.bool (decide ((bSub .i64 p1 ((p0.length : Int))) < 0))))], [], []⟩ ?_
  refine Wp.cond2 (b := decide ((bSub .i64 p1 ((p0.length : Int))) < 0)) kr (fun hc => ?_) (fun hc => ?_)
  · have h := cond_t h hc
    refine Wp.srg [] [] ?_
    refine Runs.alln ?_
    refine Wp.fg ⟨[(0, .t (.sl 6 (p0.map Put.enc))), (1, .t (.int .i64 (bSub .i64 p1 ((p0.length : Int))))), (4, .t (.int .i64 (-1)))], [], []⟩ ?_
    refine Wp.ret ?_
    refine thenR ?_
    obtain rfl := Option.some.inj h
    exact RetK [.t (.int .i64 (-1))] _ [] kr kr (.refl _) .nil
  have h := cond_f h hc
  refine Wp.skip (thenN ?_)
  refine Wp.seqJ (α := Int) (fun a => ⟨[(1, .t (.int .i64 a)), (4, .t (.int .i64 0))], [], []⟩) (fun a => laws_szPutS_j1 u a = some r) ?_ ?_
  · rintro x9 h
    change laws_szPutS_j1 u x9 = some r at h
    unfold laws_szPutS_j1 at h
    refine Wp.srg [] [] ?_
    refine Runs.alln ?_
    refine Wp.fg ⟨[(4, .t (.int .i64 x9))], [], []⟩ ?_
    refine Wp.ret ?_
    obtain rfl := Option.some.inj h
    exact RetK [.t (.int .i64 x9)] _ [] kr kr (.refl _) .nil
  · refine Wp.srg [] [] ?_
    refine Runs.alln ?_
    refine Wp.fg ⟨[(0, .t (.sl 6 (p0.map Put.enc))), (1, .t (.int .i64 (bSub .i64 p1 ((p0.length : Int))))), (4, .t (.int .i64 0)), (5, .t (.int .i64 0))], [], []⟩ ?_
    refine Wp.block ?_
    refine Wp.loopF (α := (List Put) × Int × Int) (fun a => ⟨[(0, .t (.sl 6 (a.1.map Put.enc))), (1, .t (.int .i64 a.2.1)), (4, .t (.int .i64 0)), (5, .t (.int .i64 a.2.2))], [], []⟩) (fun k_laws_szPutS_l2 a => laws_szPutS_l2 u k_laws_szPutS_l2 a.1 a.2.1 a.2.2 = some r) ?_ ?_ u (p0, bSub .i64 p1 ((p0.length : Int)), 0) h (Le.of (mo := []) (mr := []) kr kr kr kr)
    · intro a h; unfold laws_szPutS_l2 at h; cases h
    · rintro k_laws_szPutS_l2 ⟨p0, x3, x4⟩ h
      change laws_szPutS_l2 u (k_laws_szPutS_l2 + 1) p0 x3 x4 = some r at h
      rw [laws_szPutS_l2] at h
      refine Wp.seq ?_
      refine Wp.srg [] [] ?_
      refine Runs.batch 2 kr ?_
      refine Runs.lenT (y := .t (.sl 6 (p0.map Put.enc))) (e := 193) Put.enc p0 6 rfl rfl rfl kr kr kr kr kr ?_
      refine Runs.alln ?_
      refine Wp.fg ⟨[(0, .t (.sl 6 (p0.map Put.enc))), (1, .t (.int .i64 x3)), (4, .t (.int .i64 0)), (5, .t (.int .i64 x4)), (15, .t (.bool (decide (x4 < ((p0.length : Int))))))], [], []⟩ ?_
      refine Wp.cond2 (b := decide (x4 < ((p0.length : Int)))) kr (fun hc => ?_) (fun hc => ?_)
      · have h := cond_t h hc
        refine Wp.skip (thenN ?_)
        refine Wp.seq ?_
        refine Wp.block ?_
        refine Wp.srg [] [] ?_
        refine Runs.batch 2 kr ?_
        obtain ⟨y7, e_y7, h⟩ := bind_some h
        refine Runs.idxT (e := 193) (kk := .i64) (sz := 6) Put.enc p0 x4 rfl kr kr kr kr kr kr e_y7 ?_
        refine Runs.batch 2 kr ?_
        obtain ⟨r8, e_r8, h⟩ := bind_some h
        refine Runs.callK false 23 174 [] [.agg ((Put.enc y7).map .t), .t (.int .i64 x3)] _ _ _ rfl rfl kr kr kr kr kr (laws_szPut_ok u y7 x3 r8 e_r8) kr ?_
        refine Runs.alln ?_
        refine Wp.fg ⟨[(0, .t (.sl 6 (p0.map Put.enc))), (1, .t (.int .i64 r8)), (4, .t (.int .i64 0)), (5, .t (.int .i64 x4))], [], []⟩ ?_
        refine Wp.srg [] [] ?_
        refine Runs.alln ?_
        refine Wp.fg ⟨[(0, .t (.sl 6 (p0.map Put.enc))), (1, .t (.int .i64 r8)), (4, .t (.int .i64 0)), (5, .t (.int .i64 x4)), (25, .t (.bool (decide (r8 < 0))))], [], []⟩ ?_
        refine Wp.cond2 (b := decide (r8 < 0)) kr (fun hc => ?_) (fun hc => ?_)
        · have h := cond_t h hc
          refine Wp.srg [] [] ?_
          refine Runs.alln ?_
          refine Wp.fg ⟨[(0, .t (.sl 6 (p0.map Put.enc))), (1, .t (.int .i64 r8)), (4, .t (.int .i64 (-1))), (5, .t (.int .i64 x4))], [], []⟩ ?_
          refine Wp.ret ?_
          refine blkR ?_
          refine thenR ?_
          refine thenR ?_
          refine blkR ?_
          refine thenR ?_
          obtain rfl := Option.some.inj h
          exact RetK [.t (.int .i64 (-1))] _ [] kr kr (.refl _) .nil
        have h := cond_f h hc
        refine Wp.skip ?_
        refine blkN ?_
        refine thenN ?_
        refine Wp.rg [] [] ?_
        refine Runs.alln ?_
        exact ⟨(p0, r8, bAdd .i64 x4 1), h, Le.of (mo := []) (mr := []) kr kr kr kr⟩
      have h := cond_f h hc
      refine Wp.exit ?_
      refine thenE ?_
      refine thenE ?_
      refine blkE ?_
      refine thenN ?_
      exact ⟨x3, h, Le.of (mo := []) (mr := []) kr kr kr kr⟩
theorem laws_szDisk_ok (u : Nat) (p0 : Disk) (p1 : Int) (r : Int) (h : laws_szDisk u p0 p1 = some r) : CallOK Tryz.prog 98 [.agg [.t (.sl 1 (p0.fA.map (eInt .u8))), .t (.sl 1 (p0.fB.map (eInt .u8))), .t (.int .i64 p0.fR.fGen), .t (.int .i64 p0.fR.fSlot), .t (.int .i64 p0.fR.fLen), .t (.sl 6 (p0.fP.map Put.enc))], .one (.t (.int .i64 p1))] (.one (.t (.int .i64 r))) [] := by
  unfold laws_szDisk at h
  refine CallOK.of_bodyK (fn := Tryz.f98) (m := false) [.agg ((Disk.enc p0).map .t), .t (.int .i64 p1)] kr rfl kr kr kr kr kr ?_
  refine Wp.srg [] [] ?_
  refine Runs.alln ?_
  refine Wp.fg ⟨[(1, .t (.int .i64 p1)), (2, .obj 2 0), (4, .t (.int .i64 0))], [(2, ((Disk.enc p0).map .t))], []⟩ ?_
  refine Wp.srg [] [] ?_
  refine Runs.batch 3 kr ?_
  obtain ⟨r1, e_r1, h⟩ := bind_some h
  refine Runs.callK false 8 38 [] [.t (.sl 1 (p0.fA.map (eInt .u8))), .t (.int .i64 p1)] _ _ _ rfl rfl kr kr kr kr kr (laws_szByteS_ok u p0.fA p1 r1 e_r1) kr ?_
  refine Runs.alln ?_
  refine Wp.fg ⟨[(1, .t (.int .i64 r1)), (2, .obj 2 0), (4, .t (.int .i64 0))], [(2, ((Disk.enc p0).map .t))], []⟩ ?_
  refine Wp.seq ?_
  refine Wp.srg [] [] ?_
  refine Runs.alln ?_
  refine Wp.fg ⟨[(1, .t (.int .i64 r1)), (2, .obj 2 0), (4, .t (.int .i64 0)), (10, .t (.bool (decide (r1 < 0))))], [(2, ((Disk.enc p0).map .t))], []⟩ ?_
  refine Wp.cond2 (b := decide (r1 < 0)) kr (fun hc => ?_) (fun hc => ?_)
  · have h := cond_t h hc
    refine Wp.srg [] [] ?_
    refine Runs.alln ?_
    refine Wp.fg ⟨[(1, .t (.int .i64 r1)), (2, .obj 2 0), (4, .t (.int .i64 (-1)))], [(2, ((Disk.enc p0).map .t))], []⟩ ?_
    refine Wp.ret ?_
    refine thenR ?_
    obtain rfl := Option.some.inj h
    exact RetK [.t (.int .i64 (-1))] _ [] kr kr (.refl _) .nil
  have h := cond_f h hc
  refine Wp.skip (thenN ?_)
  refine Wp.srg [] [] ?_
  refine Runs.batch 3 kr ?_
  obtain ⟨r2, e_r2, h⟩ := bind_some h
  refine Runs.callK false 14 38 [] [.t (.sl 1 (p0.fB.map (eInt .u8))), .t (.int .i64 r1)] _ _ _ rfl rfl kr kr kr kr kr (laws_szByteS_ok u p0.fB r1 r2 e_r2) kr ?_
  refine Runs.alln ?_
  refine Wp.fg ⟨[(1, .t (.int .i64 r2)), (2, .obj 2 0), (4, .t (.int .i64 0))], [(2, ((Disk.enc p0).map .t))], []⟩ ?_
  refine Wp.seq ?_
  refine Wp.srg [] [] ?_
  refine Runs.alln ?_
  refine Wp.fg ⟨[(1, .t (.int .i64 r2)), (2, .obj 2 0), (4, .t (.int .i64 0)), (16, .t (.bool (decide (r2 < 0))))], [(2, ((Disk.enc p0).map .t))], []⟩ ?_
  refine Wp.cond2 (b := decide (r2 < 0)) kr (fun hc => ?_) (fun hc => ?_)
  · have h := cond_t h hc
    refine Wp.srg [] [] ?_
    refine Runs.alln ?_
    refine Wp.fg ⟨[(1, .t (.int .i64 r2)), (2, .obj 2 0), (4, .t (.int .i64 (-1)))], [(2, ((Disk.enc p0).map .t))], []⟩ ?_
    refine Wp.ret ?_
    refine thenR ?_
    obtain rfl := Option.some.inj h
    exact RetK [.t (.int .i64 (-1))] _ [] kr kr (.refl _) .nil
  have h := cond_f h hc
  refine Wp.skip (thenN ?_)
  refine Wp.srg [] [] ?_
  refine Runs.batch 3 kr ?_
  obtain ⟨r3, e_r3, h⟩ := bind_some h
  refine Runs.callK false 20 139 [] [.t (.sl 6 (p0.fP.map Put.enc)), .t (.int .i64 r2)] _ _ _ rfl rfl kr kr kr kr kr (laws_szPutS_ok u p0.fP r2 r3 e_r3) kr ?_
  refine Runs.alln ?_
  refine Wp.fg ⟨[(1, .t (.int .i64 r3)), (4, .t (.int .i64 0))], [], []⟩ ?_
  refine Wp.seq ?_
  refine Wp.srg [] [] ?_
  refine Runs.alln ?_
  refine Wp.fg ⟨[(1, .t (.int .i64 r3)), (4, .t (.int .i64 0)), (22, .t (.bool (decide (r3 < 0))))], [], []⟩ ?_
  refine Wp.cond2 (b := decide (r3 < 0)) kr (fun hc => ?_) (fun hc => ?_)
  · have h := cond_t h hc
    refine Wp.srg [] [] ?_
    refine Runs.alln ?_
    refine Wp.fg ⟨[(1, .t (.int .i64 r3)), (4, .t (.int .i64 (-1)))], [], []⟩ ?_
    refine Wp.ret ?_
    refine thenR ?_
    obtain rfl := Option.some.inj h
    exact RetK [.t (.int .i64 (-1))] _ [] kr kr (.refl _) .nil
  have h := cond_f h hc
  refine Wp.skip (thenN ?_)
  refine Wp.srg [] [] ?_
  refine Runs.alln ?_
  refine Wp.fg ⟨[(4, .t (.int .i64 r3))], [], []⟩ ?_
  refine Wp.ret ?_
  obtain rfl := Option.some.inj h
  exact RetK [.t (.int .i64 r3)] _ [] kr kr (.refl _) .nil
theorem laws_szDiskS_ok (u : Nat) (p0 : List Disk) (p1 : Int) (r : Int) (h : laws_szDiskS u p0 p1 = some r) : CallOK Tryz.prog 41 [.one (.t (.sl 6 (p0.map Disk.enc))), .one (.t (.int .i64 p1))] (.one (.t (.int .i64 r))) [] := by
  unfold laws_szDiskS at h
  refine CallOK.of_bodyK (fn := Tryz.f41) (m := false) [.t (.sl 6 (p0.map Disk.enc)), .t (.int .i64 p1)] kr rfl kr kr kr kr kr ?_
  refine Wp.srg [] [] ?_
  refine Runs.alln ?_
  refine Wp.fg ⟨[(0, .t (.sl 6 (p0.map Disk.enc))), (1, .t (.int .i64 p1)), (4, .t (.int .i64 0))], [], []⟩ ?_
  refine Wp.srg [] [] ?_
  refine Runs.batch 2 kr ?_
  refine Runs.lenT (y := .t (.sl 6 (p0.map Disk.enc))) (e := 126) Disk.enc p0 6 rfl rfl rfl kr kr kr kr kr ?_
  refine Runs.alln ?_
  refine Wp.fg ⟨[(0, .t (.sl 6 (p0.map Disk.enc))), (1, .t (.int .i64 (bSub .i64 p1 ((p0.length : Int))))), (4, .t (.int .i64 0))], [], []⟩ ?_
  refine Wp.seq ?_
  refine Wp.srg [] [] ?_
  refine Runs.alln ?_
  refine Wp.fg ⟨[(0, .t (.sl 6 (p0.map Disk.enc))), (1, .t (.int .i64 (bSub .i64 p1 ((p0.length : Int))))), (4, .t (.int .i64 0)), (11, .t (.bool (decide ((bSub .i64 p1 ((p0.length : Int))) < 0))))], [], []⟩ ?_
  refine Wp.cond2 (b := decide ((bSub .i64 p1 ((p0.length : Int))) < 0)) kr (fun hc => ?_) (fun hc => ?_)
  · have h := cond_t h hc
    refine Wp.srg [] [] ?_
    refine Runs.alln ?_
    refine Wp.fg ⟨[(0, .t (.sl 6 (p0.map Disk.enc))), (1, .t (.int .i64 (bSub .i64 p1 ((p0.length : Int))))), (4, .t (.int .i64 (-1)))], [], []⟩ ?_
    refine Wp.ret ?_
    refine thenR ?_
    obtain rfl := Option.some.inj h
    exact RetK [.t (.int .i64 (-1))] _ [] kr kr (.refl _) .nil
  have h := cond_f h hc
  refine Wp.skip (thenN ?_)
  refine Wp.seqJ (α := Int) (fun a => ⟨[(1, .t (.int .i64 a)), (4, .t (.int .i64 0))], [], []⟩) (fun a => laws_szDiskS_j1 u a = some r) ?_ ?_
  · rintro x9 h
    change laws_szDiskS_j1 u x9 = some r at h
    unfold laws_szDiskS_j1 at h
    refine Wp.srg [] [] ?_
    refine Runs.alln ?_
    refine Wp.fg ⟨[(4, .t (.int .i64 x9))], [], []⟩ ?_
    refine Wp.ret ?_
    obtain rfl := Option.some.inj h
    exact RetK [.t (.int .i64 x9)] _ [] kr kr (.refl _) .nil
  · refine Wp.srg [] [] ?_
    refine Runs.alln ?_
    refine Wp.fg ⟨[(0, .t (.sl 6 (p0.map Disk.enc))), (1, .t (.int .i64 (bSub .i64 p1 ((p0.length : Int))))), (4, .t (.int .i64 0)), (5, .t (.int .i64 0))], [], []⟩ ?_
    refine Wp.block ?_
    refine Wp.loopF (α := (List Disk) × Int × Int) (fun a => ⟨[(0, .t (.sl 6 (a.1.map Disk.enc))), (1, .t (.int .i64 a.2.1)), (4, .t (.int .i64 0)), (5, .t (.int .i64 a.2.2))], [], []⟩) (fun k_laws_szDiskS_l2 a => laws_szDiskS_l2 u k_laws_szDiskS_l2 a.1 a.2.1 a.2.2 = some r) ?_ ?_ u (p0, bSub .i64 p1 ((p0.length : Int)), 0) h (Le.of (mo := []) (mr := []) kr kr kr kr)
    · intro a h; unfold laws_szDiskS_l2 at h; cases h
    · rintro k_laws_szDiskS_l2 ⟨p0, x3, x4⟩ h
      change laws_szDiskS_l2 u (k_laws_szDiskS_l2 + 1) p0 x3 x4 = some r at h
      rw [laws_szDiskS_l2] at h
      refine Wp.seq ?_
      refine Wp.srg [] [] ?_
      refine Runs.batch 2 kr ?_
      refine Runs.lenT (y := .t (.sl 6 (p0.map Disk.enc))) (e := 126) Disk.enc p0 6 rfl rfl rfl kr kr kr kr kr ?_
      refine Runs.alln ?_
      refine Wp.fg ⟨[(0, .t (.sl 6 (p0.map Disk.enc))), (1, .t (.int .i64 x3)), (4, .t (.int .i64 0)), (5, .t (.int .i64 x4)), (15, .t (.bool (decide (x4 < ((p0.length : Int))))))], [], []⟩ ?_
      refine Wp.cond2 (b := decide (x4 < ((p0.length : Int)))) kr (fun hc => ?_) (fun hc => ?_)
      · have h := cond_t h hc
        refine Wp.skip (thenN ?_)
        refine Wp.seq ?_
        refine Wp.block ?_
        refine Wp.srg [] [] ?_
        refine Runs.batch 2 kr ?_
        obtain ⟨y7, e_y7, h⟩ := bind_some h
        refine Runs.idxT (e := 126) (kk := .i64) (sz := 6) Disk.enc p0 x4 rfl kr kr kr kr kr kr e_y7 ?_
        refine Runs.batch 2 kr ?_
        obtain ⟨r8, e_r8, h⟩ := bind_some h
        refine Runs.callK false 23 98 [] [.agg ((Disk.enc y7).map .t), .t (.int .i64 x3)] _ _ _ rfl rfl kr kr kr kr kr (laws_szDisk_ok u y7 x3 r8 e_r8) kr ?_
        refine Runs.alln ?_
        refine Wp.fg ⟨[(0, .t (.sl 6 (p0.map Disk.enc))), (1, .t (.int .i64 r8)), (4, .t (.int .i64 0)), (5, .t (.int .i64 x4))], [], []⟩ ?_
        refine Wp.srg [] [] ?_
        refine Runs.alln ?_
        refine Wp.fg ⟨[(0, .t (.sl 6 (p0.map Disk.enc))), (1, .t (.int .i64 r8)), (4, .t (.int .i64 0)), (5, .t (.int .i64 x4)), (25, .t (.bool (decide (r8 < 0))))], [], []⟩ ?_
        refine Wp.cond2 (b := decide (r8 < 0)) kr (fun hc => ?_) (fun hc => ?_)
        · have h := cond_t h hc
          refine Wp.srg [] [] ?_
          refine Runs.alln ?_
          refine Wp.fg ⟨[(0, .t (.sl 6 (p0.map Disk.enc))), (1, .t (.int .i64 r8)), (4, .t (.int .i64 (-1))), (5, .t (.int .i64 x4))], [], []⟩ ?_
          refine Wp.ret ?_
          refine blkR ?_
          refine thenR ?_
          refine thenR ?_
          refine blkR ?_
          refine thenR ?_
          obtain rfl := Option.some.inj h
          exact RetK [.t (.int .i64 (-1))] _ [] kr kr (.refl _) .nil
        have h := cond_f h hc
        refine Wp.skip ?_
        refine blkN ?_
        refine thenN ?_
        refine Wp.rg [] [] ?_
        refine Runs.alln ?_
        exact ⟨(p0, r8, bAdd .i64 x4 1), h, Le.of (mo := []) (mr := []) kr kr kr kr⟩
      have h := cond_f h hc
      refine Wp.exit ?_
      refine thenE ?_
      refine thenE ?_
      refine blkE ?_
      refine thenN ?_
      exact ⟨x3, h, Le.of (mo := []) (mr := []) kr kr kr kr⟩
theorem laws_szPacket_ok (u : Nat) (p0 : Packet) (p1 : Int) (r : Int) (h : laws_szPacket u p0 p1 = some r) : CallOK Tryz.prog 99 [.agg [.t (.int .i64 p0.fFrom), .t (.int .i64 p0.fTo), .t (.sl 1 (p0.fB.map (eInt .u8)))], .one (.t (.int .i64 p1))] (.one (.t (.int .i64 r))) [] := by
  unfold laws_szPacket at h
  refine CallOK.of_bodyK (fn := Tryz.f99) (m := false) [.agg ((Packet.enc p0).map .t), .t (.int .i64 p1)] kr rfl kr kr kr kr kr ?_
  refine Wp.srg [] [] ?_
  refine Runs.alln ?_
  refine Wp.fg ⟨[(1, .t (.int .i64 p1)), (2, .obj 2 0), (4, .t (.int .i64 0))], [(2, ((Packet.enc p0).map .t))], []⟩ ?_
  refine Wp.srg [] [] ?_
  refine Runs.batch 3 kr ?_
  obtain ⟨r1, e_r1, h⟩ := bind_some h
  refine Runs.callK false 8 38 [] [.t (.sl 1 (p0.fB.map (eInt .u8))), .t (.int .i64 p1)] _ _ _ rfl rfl kr kr kr kr kr (laws_szByteS_ok u p0.fB p1 r1 e_r1) kr ?_
  refine Runs.alln ?_
  refine Wp.fg ⟨[(1, .t (.int .i64 r1)), (4, .t (.int .i64 0))], [], []⟩ ?_
  refine Wp.seq ?_
  refine Wp.srg [] [] ?_
  refine Runs.alln ?_
  refine Wp.fg ⟨[(1, .t (.int .i64 r1)), (4, .t (.int .i64 0)), (10, .t (.bool (decide (r1 < 0))))], [], []⟩ ?_
  refine Wp.cond2 (b := decide (r1 < 0)) kr (fun hc => ?_) (fun hc => ?_)
  · have h := cond_t h hc
    refine Wp.srg [] [] ?_
    refine Runs.alln ?_
    refine Wp.fg ⟨[(1, .t (.int .i64 r1)), (4, .t (.int .i64 (-1)))], [], []⟩ ?_
    refine Wp.ret ?_
    refine thenR ?_
    obtain rfl := Option.some.inj h
    exact RetK [.t (.int .i64 (-1))] _ [] kr kr (.refl _) .nil
  have h := cond_f h hc
  refine Wp.skip (thenN ?_)
  refine Wp.srg [] [] ?_
  refine Runs.alln ?_
  refine Wp.fg ⟨[(4, .t (.int .i64 r1))], [], []⟩ ?_
  refine Wp.ret ?_
  obtain rfl := Option.some.inj h
  exact RetK [.t (.int .i64 r1)] _ [] kr kr (.refl _) .nil
theorem laws_szPacketS_ok (u : Nat) (p0 : List Packet) (p1 : Int) (r : Int) (h : laws_szPacketS u p0 p1 = some r) : CallOK Tryz.prog 42 [.one (.t (.sl 3 (p0.map Packet.enc))), .one (.t (.int .i64 p1))] (.one (.t (.int .i64 r))) [] := by
  unfold laws_szPacketS at h
  refine CallOK.of_bodyK (fn := Tryz.f42) (m := false) [.t (.sl 3 (p0.map Packet.enc)), .t (.int .i64 p1)] kr rfl kr kr kr kr kr ?_
  refine Wp.srg [] [] ?_
  refine Runs.alln ?_
  refine Wp.fg ⟨[(0, .t (.sl 3 (p0.map Packet.enc))), (1, .t (.int .i64 p1)), (4, .t (.int .i64 0))], [], []⟩ ?_
  refine Wp.srg [] [] ?_
  refine Runs.batch 2 kr ?_
  refine Runs.lenT (y := .t (.sl 3 (p0.map Packet.enc))) (e := 129) Packet.enc p0 3 rfl rfl rfl kr kr kr kr kr ?_
  refine Runs.alln ?_
  refine Wp.fg ⟨[(0, .t (.sl 3 (p0.map Packet.enc))), (1, .t (.int .i64 (bSub .i64 p1 ((p0.length : Int))))), (4, .t (.int .i64 0))], [], []⟩ ?_
  refine Wp.seq ?_
  refine Wp.srg [] [] ?_
  refine Runs.alln ?_
  refine Wp.fg ⟨[(0, .t (.sl 3 (p0.map Packet.enc))), (1, .t (.int .i64 (bSub .i64 p1 ((p0.length : Int))))), (4, .t (.int .i64 0)), (11, .t (.bool (decide ((bSub .i64 p1 ((p0.length : Int))) < 0))))], [], []⟩ ?_
  refine Wp.cond2 (b := decide ((bSub .i64 p1 ((p0.length : Int))) < 0)) kr (fun hc => ?_) (fun hc => ?_)
  · have h := cond_t h hc
    refine Wp.srg [] [] ?_
    refine Runs.alln ?_
    refine Wp.fg ⟨[(0, .t (.sl 3 (p0.map Packet.enc))), (1, .t (.int .i64 (bSub .i64 p1 ((p0.length : Int))))), (4, .t (.int .i64 (-1)))], [], []⟩ ?_
    refine Wp.ret ?_
    refine thenR ?_
    obtain rfl := Option.some.inj h
    exact RetK [.t (.int .i64 (-1))] _ [] kr kr (.refl _) .nil
  have h := cond_f h hc
  refine Wp.skip (thenN ?_)
  refine Wp.seqJ (α := Int) (fun a => ⟨[(1, .t (.int .i64 a)), (4, .t (.int .i64 0))], [], []⟩) (fun a => laws_szPacketS_j1 u a = some r) ?_ ?_
  · rintro x9 h
    change laws_szPacketS_j1 u x9 = some r at h
    unfold laws_szPacketS_j1 at h
    refine Wp.srg [] [] ?_
    refine Runs.alln ?_
    refine Wp.fg ⟨[(4, .t (.int .i64 x9))], [], []⟩ ?_
    refine Wp.ret ?_
    obtain rfl := Option.some.inj h
    exact RetK [.t (.int .i64 x9)] _ [] kr kr (.refl _) .nil
  · refine Wp.srg [] [] ?_
    refine Runs.alln ?_
    refine Wp.fg ⟨[(0, .t (.sl 3 (p0.map Packet.enc))), (1, .t (.int .i64 (bSub .i64 p1 ((p0.length : Int))))), (4, .t (.int .i64 0)), (5, .t (.int .i64 0))], [], []⟩ ?_
    refine Wp.block ?_
    refine Wp.loopF (α := (List Packet) × Int × Int) (fun a => ⟨[(0, .t (.sl 3 (a.1.map Packet.enc))), (1, .t (.int .i64 a.2.1)), (4, .t (.int .i64 0)), (5, .t (.int .i64 a.2.2))], [], []⟩) (fun k_laws_szPacketS_l2 a => laws_szPacketS_l2 u k_laws_szPacketS_l2 a.1 a.2.1 a.2.2 = some r) ?_ ?_ u (p0, bSub .i64 p1 ((p0.length : Int)), 0) h (Le.of (mo := []) (mr := []) kr kr kr kr)
    · intro a h; unfold laws_szPacketS_l2 at h; cases h
    · rintro k_laws_szPacketS_l2 ⟨p0, x3, x4⟩ h
      change laws_szPacketS_l2 u (k_laws_szPacketS_l2 + 1) p0 x3 x4 = some r at h
      rw [laws_szPacketS_l2] at h
      refine Wp.seq ?_
      refine Wp.srg [] [] ?_
      refine Runs.batch 2 kr ?_
      refine Runs.lenT (y := .t (.sl 3 (p0.map Packet.enc))) (e := 129) Packet.enc p0 3 rfl rfl rfl kr kr kr kr kr ?_
      refine Runs.alln ?_
      refine Wp.fg ⟨[(0, .t (.sl 3 (p0.map Packet.enc))), (1, .t (.int .i64 x3)), (4, .t (.int .i64 0)), (5, .t (.int .i64 x4)), (15, .t (.bool (decide (x4 < ((p0.length : Int))))))], [], []⟩ ?_
      refine Wp.cond2 (b := decide (x4 < ((p0.length : Int)))) kr (fun hc => ?_) (fun hc => ?_)
      · have h := cond_t h hc
        refine Wp.skip (thenN ?_)
        refine Wp.seq ?_
        refine Wp.block ?_
        refine Wp.srg [] [] ?_
        refine Runs.batch 2 kr ?_
        obtain ⟨y7, e_y7, h⟩ := bind_some h
        refine Runs.idxT (e := 129) (kk := .i64) (sz := 3) Packet.enc p0 x4 rfl kr kr kr kr kr kr e_y7 ?_
        refine Runs.batch 2 kr ?_
        obtain ⟨r8, e_r8, h⟩ := bind_some h
        refine Runs.callK false 23 99 [] [.agg ((Packet.enc y7).map .t), .t (.int .i64 x3)] _ _ _ rfl rfl kr kr kr kr kr (laws_szPacket_ok u y7 x3 r8 e_r8) kr ?_
        refine Runs.alln ?_
        refine Wp.fg ⟨[(0, .t (.sl 3 (p0.map Packet.enc))), (1, .t (.int .i64 r8)), (4, .t (.int .i64 0)), (5, .t (.int .i64 x4))], [], []⟩ ?_
        refine Wp.srg [] [] ?_
        refine Runs.alln ?_
        refine Wp.fg ⟨[(0, .t (.sl 3 (p0.map Packet.enc))), (1, .t (.int .i64 r8)), (4, .t (.int .i64 0)), (5, .t (.int .i64 x4)), (25, .t (.bool (decide (r8 < 0))))], [], []⟩ ?_
        refine Wp.cond2 (b := decide (r8 < 0)) kr (fun hc => ?_) (fun hc => ?_)
        · have h := cond_t h hc
          refine Wp.srg [] [] ?_
          refine Runs.alln ?_
          refine Wp.fg ⟨[(0, .t (.sl 3 (p0.map Packet.enc))), (1, .t (.int .i64 r8)), (4, .t (.int .i64 (-1))), (5, .t (.int .i64 x4))], [], []⟩ ?_
          refine Wp.ret ?_
          refine blkR ?_
          refine thenR ?_
          refine thenR ?_
          refine blkR ?_
          refine thenR ?_
          obtain rfl := Option.some.inj h
          exact RetK [.t (.int .i64 (-1))] _ [] kr kr (.refl _) .nil
        have h := cond_f h hc
        refine Wp.skip ?_
        refine blkN ?_
        refine thenN ?_
        refine Wp.rg [] [] ?_
        refine Runs.alln ?_
        exact ⟨(p0, r8, bAdd .i64 x4 1), h, Le.of (mo := []) (mr := []) kr kr kr kr⟩
      have h := cond_f h hc
      refine Wp.exit ?_
      refine thenE ?_
      refine thenE ?_
      refine blkE ?_
      refine thenN ?_
      exact ⟨x3, h, Le.of (mo := []) (mr := []) kr kr kr kr⟩
theorem laws_szSentS_ok (u : Nat) (p0 : List Sent) (p1 : Int) (r : Int) (h : laws_szSentS u p0 p1 = some r) : CallOK Tryz.prog 43 [.one (.t (.sl 3 (p0.map Sent.enc))), .one (.t (.int .i64 p1))] (.one (.t (.int .i64 r))) [] := by
  unfold laws_szSentS at h
  refine CallOK.of_bodyK (fn := Tryz.f43) (m := false) [.t (.sl 3 (p0.map Sent.enc)), .t (.int .i64 p1)] kr rfl kr kr kr kr kr ?_
  refine Wp.srg [] [] ?_
  refine Runs.alln ?_
  refine Wp.fg ⟨[(0, .t (.sl 3 (p0.map Sent.enc))), (1, .t (.int .i64 p1)), (4, .t (.int .i64 0))], [], []⟩ ?_
  refine Wp.srg [] [] ?_
  refine Runs.batch 2 kr ?_
  refine Runs.lenT (y := .t (.sl 3 (p0.map Sent.enc))) (e := 139) Sent.enc p0 3 rfl rfl rfl kr kr kr kr kr ?_
  refine Runs.alln ?_
  refine Wp.fg ⟨[(1, .t (.int .i64 (bSub .i64 p1 ((p0.length : Int))))), (4, .t (.int .i64 0))], [], []⟩ ?_
  refine Wp.seq ?_
  refine Wp.srg [] [] ?_
  refine Runs.alln ?_
  refine Wp.fg ⟨[(1, .t (.int .i64 (bSub .i64 p1 ((p0.length : Int))))), (4, .t (.int .i64 0)), (10, .t (.bool (decide ((bSub .i64 p1 ((p0.length : Int))) < 0))))], [], []⟩ ?_
  refine Wp.cond2 (b := decide ((bSub .i64 p1 ((p0.length : Int))) < 0)) kr (fun hc => ?_) (fun hc => ?_)
  · have h := cond_t h hc
    refine Wp.srg [] [] ?_
    refine Runs.alln ?_
    refine Wp.fg ⟨[(1, .t (.int .i64 (bSub .i64 p1 ((p0.length : Int))))), (4, .t (.int .i64 (-1)))], [], []⟩ ?_
    refine Wp.ret ?_
    refine thenR ?_
    obtain rfl := Option.some.inj h
    exact RetK [.t (.int .i64 (-1))] _ [] kr kr (.refl _) .nil
  have h := cond_f h hc
  refine Wp.skip (thenN ?_)
  refine Wp.srg [] [] ?_
  refine Runs.alln ?_
  refine Wp.fg ⟨[(4, .t (.int .i64 (bSub .i64 p1 ((p0.length : Int)))))], [], []⟩ ?_
  refine Wp.ret ?_
  obtain rfl := Option.some.inj h
  exact RetK [.t (.int .i64 (bSub .i64 p1 ((p0.length : Int))))] _ [] kr kr (.refl _) .nil
theorem laws_szWorld_ok (u : Nat) (p0 : World) (p1 : Int) (r : Int) (h : laws_szWorld u p0 p1 = some r) : CallOK Tryz.prog 12 [.agg [.t (.int .i64 p0.fC.fSize), .t (.int .i64 p0.fC.fWindow), .t (.int .i64 p0.fC.fSuspect), .t (.int .i64 p0.fC.fForget), .t (.sl 1 (p0.fT.fUp.map (eInt .i64))), .t (.sl 1 (p0.fNew.map (eInt .u8))), .t (.sl 1 (p0.fOld.map Image.enc)), .t (.sl 12 (p0.fN.map Node.enc)), .t (.sl 6 (p0.fD.map Disk.enc)), .t (.sl 3 (p0.fNet.map Packet.enc)), .t (.sl 3 (p0.fLog.map Sent.enc)), .t (.int .i64 p0.fLost)], .one (.t (.int .i64 p1))] (.one (.t (.int .i64 r))) [] := by
  unfold laws_szWorld at h
  refine CallOK.of_bodyK (fn := Tryz.f12) (m := false) [.agg ((World.enc p0).map .t), .t (.int .i64 p1)] kr rfl kr kr kr kr kr ?_
  refine Wp.srg [] [] ?_
  refine Runs.alln ?_
  refine Wp.fg ⟨[(1, .t (.int .i64 p1)), (2, .obj 2 0), (4, .t (.int .i64 0))], [(2, ((World.enc p0).map .t))], []⟩ ?_
  refine Wp.srg [] [] ?_
  refine Runs.batch 3 kr ?_
  obtain ⟨r1, e_r1, h⟩ := bind_some h
  refine Runs.callK false 8 37 [] [.agg [.t (.sl 1 (p0.fT.fUp.map (eInt .i64)))], .t (.int .i64 p1)] _ _ _ rfl rfl kr kr kr kr kr (laws_szTree_ok u p0.fT p1 r1 e_r1) kr ?_
  refine Runs.alln ?_
  refine Wp.fg ⟨[(1, .t (.int .i64 r1)), (2, .obj 2 0), (4, .t (.int .i64 0))], [(2, ((World.enc p0).map .t))], []⟩ ?_
  refine Wp.seq ?_
  refine Wp.srg [] [] ?_
  refine Runs.alln ?_
  refine Wp.fg ⟨[(1, .t (.int .i64 r1)), (2, .obj 2 0), (4, .t (.int .i64 0)), (10, .t (.bool (decide (r1 < 0))))], [(2, ((World.enc p0).map .t))], []⟩ ?_
  refine Wp.cond2 (b := decide (r1 < 0)) kr (fun hc => ?_) (fun hc => ?_)
  · have h := cond_t h hc
    refine Wp.srg [] [] ?_
    refine Runs.alln ?_
    refine Wp.fg ⟨[(1, .t (.int .i64 r1)), (2, .obj 2 0), (4, .t (.int .i64 (-1)))], [(2, ((World.enc p0).map .t))], []⟩ ?_
    refine Wp.ret ?_
    refine thenR ?_
    obtain rfl := Option.some.inj h
    exact RetK [.t (.int .i64 (-1))] _ [] kr kr (.refl _) .nil
  have h := cond_f h hc
  refine Wp.skip (thenN ?_)
  refine Wp.srg [] [] ?_
  refine Runs.batch 3 kr ?_
  obtain ⟨r2, e_r2, h⟩ := bind_some h
  refine Runs.callK false 14 38 [] [.t (.sl 1 (p0.fNew.map (eInt .u8))), .t (.int .i64 r1)] _ _ _ rfl rfl kr kr kr kr kr (laws_szByteS_ok u p0.fNew r1 r2 e_r2) kr ?_
  refine Runs.alln ?_
  refine Wp.fg ⟨[(1, .t (.int .i64 r2)), (2, .obj 2 0), (4, .t (.int .i64 0))], [(2, ((World.enc p0).map .t))], []⟩ ?_
  refine Wp.seq ?_
  refine Wp.srg [] [] ?_
  refine Runs.alln ?_
  refine Wp.fg ⟨[(1, .t (.int .i64 r2)), (2, .obj 2 0), (4, .t (.int .i64 0)), (16, .t (.bool (decide (r2 < 0))))], [(2, ((World.enc p0).map .t))], []⟩ ?_
  refine Wp.cond2 (b := decide (r2 < 0)) kr (fun hc => ?_) (fun hc => ?_)
  · have h := cond_t h hc
    refine Wp.srg [] [] ?_
    refine Runs.alln ?_
    refine Wp.fg ⟨[(1, .t (.int .i64 r2)), (2, .obj 2 0), (4, .t (.int .i64 (-1)))], [(2, ((World.enc p0).map .t))], []⟩ ?_
    refine Wp.ret ?_
    refine thenR ?_
    obtain rfl := Option.some.inj h
    exact RetK [.t (.int .i64 (-1))] _ [] kr kr (.refl _) .nil
  have h := cond_f h hc
  refine Wp.skip (thenN ?_)
  refine Wp.srg [] [] ?_
  refine Runs.batch 3 kr ?_
  obtain ⟨r3, e_r3, h⟩ := bind_some h
  refine Runs.callK false 20 39 [] [.t (.sl 1 (p0.fOld.map Image.enc)), .t (.int .i64 r2)] _ _ _ rfl rfl kr kr kr kr kr (laws_szImageS_ok u p0.fOld r2 r3 e_r3) kr ?_
  refine Runs.alln ?_
  refine Wp.fg ⟨[(1, .t (.int .i64 r3)), (2, .obj 2 0), (4, .t (.int .i64 0))], [(2, ((World.enc p0).map .t))], []⟩ ?_
  refine Wp.seq ?_
  refine Wp.srg [] [] ?_
  refine Runs.alln ?_
  refine Wp.fg ⟨[(1, .t (.int .i64 r3)), (2, .obj 2 0), (4, .t (.int .i64 0)), (22, .t (.bool (decide (r3 < 0))))], [(2, ((World.enc p0).map .t))], []⟩ ?_
  refine Wp.cond2 (b := decide (r3 < 0)) kr (fun hc => ?_) (fun hc => ?_)
  · have h := cond_t h hc
    refine Wp.srg [] [] ?_
    refine Runs.alln ?_
    refine Wp.fg ⟨[(1, .t (.int .i64 r3)), (2, .obj 2 0), (4, .t (.int .i64 (-1)))], [(2, ((World.enc p0).map .t))], []⟩ ?_
    refine Wp.ret ?_
    refine thenR ?_
    obtain rfl := Option.some.inj h
    exact RetK [.t (.int .i64 (-1))] _ [] kr kr (.refl _) .nil
  have h := cond_f h hc
  refine Wp.skip (thenN ?_)
  refine Wp.srg [] [] ?_
  refine Runs.batch 3 kr ?_
  obtain ⟨r4, e_r4, h⟩ := bind_some h
  refine Runs.callK false 26 40 [] [.t (.sl 12 (p0.fN.map Node.enc)), .t (.int .i64 r3)] _ _ _ rfl rfl kr kr kr kr kr (laws_szNodeS_ok u p0.fN r3 r4 e_r4) kr ?_
  refine Runs.alln ?_
  refine Wp.fg ⟨[(1, .t (.int .i64 r4)), (2, .obj 2 0), (4, .t (.int .i64 0))], [(2, ((World.enc p0).map .t))], []⟩ ?_
  refine Wp.seq ?_
  refine Wp.srg [] [] ?_
  refine Runs.alln ?_
  refine Wp.fg ⟨[(1, .t (.int .i64 r4)), (2, .obj 2 0), (4, .t (.int .i64 0)), (28, .t (.bool (decide (r4 < 0))))], [(2, ((World.enc p0).map .t))], []⟩ ?_
  refine Wp.cond2 (b := decide (r4 < 0)) kr (fun hc => ?_) (fun hc => ?_)
  · have h := cond_t h hc
    refine Wp.srg [] [] ?_
    refine Runs.alln ?_
    refine Wp.fg ⟨[(1, .t (.int .i64 r4)), (2, .obj 2 0), (4, .t (.int .i64 (-1)))], [(2, ((World.enc p0).map .t))], []⟩ ?_
    refine Wp.ret ?_
    refine thenR ?_
    obtain rfl := Option.some.inj h
    exact RetK [.t (.int .i64 (-1))] _ [] kr kr (.refl _) .nil
  have h := cond_f h hc
  refine Wp.skip (thenN ?_)
  refine Wp.srg [] [] ?_
  refine Runs.batch 3 kr ?_
  obtain ⟨r5, e_r5, h⟩ := bind_some h
  refine Runs.callK false 32 41 [] [.t (.sl 6 (p0.fD.map Disk.enc)), .t (.int .i64 r4)] _ _ _ rfl rfl kr kr kr kr kr (laws_szDiskS_ok u p0.fD r4 r5 e_r5) kr ?_
  refine Runs.alln ?_
  refine Wp.fg ⟨[(1, .t (.int .i64 r5)), (2, .obj 2 0), (4, .t (.int .i64 0))], [(2, ((World.enc p0).map .t))], []⟩ ?_
  refine Wp.seq ?_
  refine Wp.srg [] [] ?_
  refine Runs.alln ?_
  refine Wp.fg ⟨[(1, .t (.int .i64 r5)), (2, .obj 2 0), (4, .t (.int .i64 0)), (34, .t (.bool (decide (r5 < 0))))], [(2, ((World.enc p0).map .t))], []⟩ ?_
  refine Wp.cond2 (b := decide (r5 < 0)) kr (fun hc => ?_) (fun hc => ?_)
  · have h := cond_t h hc
    refine Wp.srg [] [] ?_
    refine Runs.alln ?_
    refine Wp.fg ⟨[(1, .t (.int .i64 r5)), (2, .obj 2 0), (4, .t (.int .i64 (-1)))], [(2, ((World.enc p0).map .t))], []⟩ ?_
    refine Wp.ret ?_
    refine thenR ?_
    obtain rfl := Option.some.inj h
    exact RetK [.t (.int .i64 (-1))] _ [] kr kr (.refl _) .nil
  have h := cond_f h hc
  refine Wp.skip (thenN ?_)
  refine Wp.srg [] [] ?_
  refine Runs.batch 3 kr ?_
  obtain ⟨r6, e_r6, h⟩ := bind_some h
  refine Runs.callK false 38 42 [] [.t (.sl 3 (p0.fNet.map Packet.enc)), .t (.int .i64 r5)] _ _ _ rfl rfl kr kr kr kr kr (laws_szPacketS_ok u p0.fNet r5 r6 e_r6) kr ?_
  refine Runs.alln ?_
  refine Wp.fg ⟨[(1, .t (.int .i64 r6)), (2, .obj 2 0), (4, .t (.int .i64 0))], [(2, ((World.enc p0).map .t))], []⟩ ?_
  refine Wp.seq ?_
  refine Wp.srg [] [] ?_
  refine Runs.alln ?_
  refine Wp.fg ⟨[(1, .t (.int .i64 r6)), (2, .obj 2 0), (4, .t (.int .i64 0)), (40, .t (.bool (decide (r6 < 0))))], [(2, ((World.enc p0).map .t))], []⟩ ?_
  refine Wp.cond2 (b := decide (r6 < 0)) kr (fun hc => ?_) (fun hc => ?_)
  · have h := cond_t h hc
    refine Wp.srg [] [] ?_
    refine Runs.alln ?_
    refine Wp.fg ⟨[(1, .t (.int .i64 r6)), (2, .obj 2 0), (4, .t (.int .i64 (-1)))], [(2, ((World.enc p0).map .t))], []⟩ ?_
    refine Wp.ret ?_
    refine thenR ?_
    obtain rfl := Option.some.inj h
    exact RetK [.t (.int .i64 (-1))] _ [] kr kr (.refl _) .nil
  have h := cond_f h hc
  refine Wp.skip (thenN ?_)
  refine Wp.srg [] [] ?_
  refine Runs.batch 3 kr ?_
  obtain ⟨r7, e_r7, h⟩ := bind_some h
  refine Runs.callK false 44 43 [] [.t (.sl 3 (p0.fLog.map Sent.enc)), .t (.int .i64 r6)] _ _ _ rfl rfl kr kr kr kr kr (laws_szSentS_ok u p0.fLog r6 r7 e_r7) kr ?_
  refine Runs.alln ?_
  refine Wp.fg ⟨[(1, .t (.int .i64 r7)), (4, .t (.int .i64 0))], [], []⟩ ?_
  refine Wp.seq ?_
  refine Wp.srg [] [] ?_
  refine Runs.alln ?_
  refine Wp.fg ⟨[(1, .t (.int .i64 r7)), (4, .t (.int .i64 0)), (46, .t (.bool (decide (r7 < 0))))], [], []⟩ ?_
  refine Wp.cond2 (b := decide (r7 < 0)) kr (fun hc => ?_) (fun hc => ?_)
  · have h := cond_t h hc
    refine Wp.srg [] [] ?_
    refine Runs.alln ?_
    refine Wp.fg ⟨[(1, .t (.int .i64 r7)), (4, .t (.int .i64 (-1)))], [], []⟩ ?_
    refine Wp.ret ?_
    refine thenR ?_
    obtain rfl := Option.some.inj h
    exact RetK [.t (.int .i64 (-1))] _ [] kr kr (.refl _) .nil
  have h := cond_f h hc
  refine Wp.skip (thenN ?_)
  refine Wp.srg [] [] ?_
  refine Runs.alln ?_
  refine Wp.fg ⟨[(4, .t (.int .i64 r7))], [], []⟩ ?_
  refine Wp.ret ?_
  obtain rfl := Option.some.inj h
  exact RetK [.t (.int .i64 r7)] _ [] kr kr (.refl _) .nil
theorem laws_toConf_ok (u : Nat) (p0 : Conf) (r : Conf) (h : laws_toConf u p0 = some r) : CallOK Tryz.prog 44 [.agg [.t (.int .i64 p0.fSize), .t (.int .i64 p0.fWindow), .t (.int .i64 p0.fSuspect), .t (.int .i64 p0.fForget)]] (.agg [.t (.int .i64 r.fSize), .t (.int .i64 r.fWindow), .t (.int .i64 r.fSuspect), .t (.int .i64 r.fForget)]) [] := by
  unfold laws_toConf at h
  refine CallOK.of_bodyK (fn := Tryz.f44) (m := false) [.agg ((Conf.enc p0).map .t)] kr rfl kr kr kr kr kr ?_
  refine Wp.srg [] [] ?_
  refine Runs.alln ?_
  refine Wp.fg ⟨[(1, .obj 1 0), (2, .obj 2 0)], [(1, ((Conf.enc p0).map .t)), (2, [.t (.int .i64 0), .t (.int .i64 0), .t (.int .i64 0), .t (.int .i64 0)])], []⟩ ?_
  refine Wp.srg [] [] ?_
  refine Runs.alln ?_
  refine Wp.fg ⟨[(1, .obj 1 0), (2, .obj 2 0), (3, .obj 3 0)], [(1, ((Conf.enc p0).map .t)), (2, [.t (.int .i64 0), .t (.int .i64 0), .t (.int .i64 0), .t (.int .i64 0)]), (3, [.t (.int .i64 0), .t (.int .i64 0), .t (.int .i64 0), .t (.int .i64 0)])], []⟩ ?_
  refine Wp.srg [] [] ?_
  refine Runs.alln ?_
  refine Wp.fg ⟨[(1, .obj 1 0), (2, .obj 2 0), (3, .obj 3 0)], [(1, ((Conf.enc p0).map .t)), (2, [.t (.int .i64 0), .t (.int .i64 0), .t (.int .i64 0), .t (.int .i64 0)]), (3, [.t (.int .i64 p0.fSize), .t (.int .i64 0), .t (.int .i64 0), .t (.int .i64 0)])], []⟩ ?_
  refine Wp.srg [] [] ?_
  refine Runs.alln ?_
  refine Wp.fg ⟨[(1, .obj 1 0), (2, .obj 2 0), (3, .obj 3 0)], [(1, ((Conf.enc p0).map .t)), (2, [.t (.int .i64 0), .t (.int .i64 0), .t (.int .i64 0), .t (.int .i64 0)]), (3, [.t (.int .i64 p0.fSize), .t (.int .i64 p0.fWindow), .t (.int .i64 0), .t (.int .i64 0)])], []⟩ ?_
  refine Wp.srg [] [] ?_
  refine Runs.alln ?_
  refine Wp.fg ⟨[(1, .obj 1 0), (2, .obj 2 0), (3, .obj 3 0)], [(1, ((Conf.enc p0).map .t)), (2, [.t (.int .i64 0), .t (.int .i64 0), .t (.int .i64 0), .t (.int .i64 0)]), (3, [.t (.int .i64 p0.fSize), .t (.int .i64 p0.fWindow), .t (.int .i64 p0.fSuspect), .t (.int .i64 0)])], []⟩ ?_
  refine Wp.srg [] [] ?_
  refine Runs.alln ?_
  refine Wp.fg ⟨[(2, .obj 2 0), (3, .obj 3 0)], [(2, [.t (.int .i64 0), .t (.int .i64 0), .t (.int .i64 0), .t (.int .i64 0)]), (3, ((Conf.enc p0).map .t))], []⟩ ?_
  refine Wp.srg [] [] ?_
  refine Runs.alln ?_
  refine Wp.fg ⟨[(2, .obj 2 0)], [(2, ((Conf.enc p0).map .t))], []⟩ ?_
  refine Wp.ret ?_
  obtain rfl := Option.some.inj h
  exact RetK [.agg ((Conf.enc p0).map .t)] _ [] kr kr (.refl _) .nil
theorem laws_toIntS_okd (u : Nat) (p0 : List Int) (r : (List Int)) (h : laws_toIntS u p0 = some r) : DOK Tryz.prog 100 [.one (.t (.sl 1 (p0.map (eInt .i64))))] (.one (.ow 3 1 (r.map (eInt .i64)))) := by
  unfold laws_toIntS at h
  refine DOK.of_bodyK (fn := Tryz.f100) (m := true) kr rfl kr kr kr ?_
  refine Wp.srg [] [] ?_
  refine Runs.alln ?_
  refine Wp.fg ⟨[(0, .ext false (.sl 1 (p0.map (eInt .i64)))), (2, .nil)], [], []⟩ ?_
  refine Wp.srg [] [] ?_
  refine Runs.batch 1 kr ?_
  refine Runs.lenX (e := 3) (eInt .i64) p0 false 1 rfl rfl rfl kr kr kr kr ?_
  obtain ⟨_, e_1, h⟩ := bind_some h
  obtain ⟨_, e_2, h⟩ := bind_some h
  refine Runs.mkS (eInt .i64) (0 : Int) 7 3 1 8 ((p0.length : Int)) ((p0.length : Int)) rfl rfl kr kr kr kr kr kr (chk_some e_1) (of_decide_eq_true (chk_some e_2)) kr ?_
  refine Runs.alln ?_
  refine Wp.fg ⟨[(0, .ext false (.sl 1 (p0.map (eInt .i64)))), (2, .nil), (3, .own 458752)], [], [(458752, .live 3 1 ((List.replicate (Int.toNat ((p0.length : Int))) (0 : Int)).map (eInt .i64)))]⟩ ?_
  refine Wp.seqJ (α := (List Int)) (fun a => ⟨[(2, .nil), (3, .own 196609)], [], [(196609, .live 3 1 (a.map (eInt .i64)))]⟩) (fun a => laws_toIntS_j1 u a = some r) ?_ ?_
  · rintro x11 h
    change laws_toIntS_j1 u x11 = some r at h
    unfold laws_toIntS_j1 at h
    refine Wp.srg [] [] ?_
    refine Runs.alln ?_
    refine Wp.fg ⟨[(2, .own 196609)], [], [(196609, .live 3 1 (x11.map (eInt .i64)))]⟩ ?_
    refine Wp.ret ?_
    obtain rfl := Option.some.inj h
    exact RetK [.own 196609] _ [] kr kr (.refl _) .nil
  · refine Wp.srg [] [] ?_
    refine Runs.alln ?_
    refine Wp.fg ⟨[(0, .ext false (.sl 1 (p0.map (eInt .i64)))), (2, .nil), (3, .own 458752), (4, .t (.int .i64 0))], [], [(458752, .live 3 1 ((List.replicate (Int.toNat ((p0.length : Int))) (0 : Int)).map (eInt .i64)))]⟩ ?_
    refine Wp.block ?_
    refine Wp.loopF (α := (List Int) × (List Int) × Int) (fun a => ⟨[(0, .ext false (.sl 1 (a.1.map (eInt .i64)))), (2, .nil), (3, .own 196609), (4, .t (.int .i64 a.2.2))], [], [(196609, .live 3 1 (a.2.1.map (eInt .i64)))]⟩) (fun k_laws_toIntS_l2 a => laws_toIntS_l2 u k_laws_toIntS_l2 a.1 a.2.1 a.2.2 = some r) ?_ ?_ u (p0, List.replicate (Int.toNat ((p0.length : Int))) (0 : Int), 0) h (Le.of (mo := []) (mr := [(196609, 458752)]) kr kr kr kr)
    · intro a h; unfold laws_toIntS_l2 at h; cases h
    · rintro k_laws_toIntS_l2 ⟨p0, x5, x6⟩ h
      change laws_toIntS_l2 u (k_laws_toIntS_l2 + 1) p0 x5 x6 = some r at h
      rw [laws_toIntS_l2] at h
      refine Wp.seq ?_
      refine Wp.srg [] [] ?_
      refine Runs.batch 2 kr ?_
      refine Runs.lenX (e := 3) (eInt .i64) p0 false 1 rfl rfl rfl kr kr kr kr ?_
      refine Runs.alln ?_
      refine Wp.fg ⟨[(0, .ext false (.sl 1 (p0.map (eInt .i64)))), (2, .nil), (3, .own 196609), (4, .t (.int .i64 x6)), (11, .t (.bool (decide (x6 < ((p0.length : Int))))))], [], [(196609, .live 3 1 (x5.map (eInt .i64)))]⟩ ?_
      refine Wp.cond2 (b := decide (x6 < ((p0.length : Int)))) kr (fun hc => ?_) (fun hc => ?_)
      · have h := cond_t h hc
        refine Wp.skip (thenN ?_)
        refine Wp.seq ?_
        refine Wp.block ?_
        refine Wp.rg [] [] ?_
        refine Runs.batch 4 kr ?_
        obtain ⟨y9, e_y9, h⟩ := bind_some h
        refine Runs.idxX (e := 3) (kk := .i64) (sz := 1) (eInt .i64) p0 x6 false rfl kr kr kr kr kr kr e_y9 ?_
        refine Runs.batch 1 kr ?_
        obtain ⟨y10, e_y10, h⟩ := bind_some h
        refine Runs.idxO (e := 3) (e' := 3) (kk := .i64) (sz := 1) (eInt .i64) x5 x6 196609 rfl kr kr kr kr kr kr kr e_y10 ?_
        refine Runs.storeT (e := 3) (sz := 1) (m := 1) (eInt .i64) x5 196609 (Int.toNat x6) 0 y9 (.t (.int .i64 y9)) [.int .i64 y9] rfl kr kr kr kr kr kr kr kr (idx_some e_y10).2 kr kr ?_
        refine Runs.done ?_
        refine blkN ?_
        refine thenN ?_
        refine Wp.rg [] [] ?_
        refine Runs.alln ?_
        exact ⟨(p0, x5.set (Int.toNat x6) y9, bAdd .i64 x6 1), h, Le.of (mo := []) (mr := []) kr kr kr kr⟩
      have h := cond_f h hc
      refine Wp.exit ?_
      refine thenE ?_
      refine thenE ?_
      refine blkE ?_
      refine thenN ?_
      exact ⟨x5, h, Le.of (mo := []) (mr := []) kr kr kr kr⟩
theorem laws_toTree_okd (u : Nat) (p0 : Tree) (r : Tree) (h : laws_toTree u p0 = some r) : DOK Tryz.prog 45 [.agg [.t (.sl 1 (p0.fUp.map (eInt .i64)))]] (.agg [.ow 3 1 (r.fUp.map (eInt .i64))]) := by
  unfold laws_toTree at h
  refine DOK.of_bodyK (fn := Tryz.f45) (m := true) kr rfl kr kr kr ?_
  refine Wp.srg [] [] ?_
  refine Runs.alln ?_
  refine Wp.fg ⟨[(1, .obj 1 0), (2, .obj 2 0)], [(1, [.ext false (.sl 1 (p0.fUp.map (eInt .i64)))]), (2, [.nil])], []⟩ ?_
  refine Wp.srg [] [] ?_
  refine Runs.alln ?_
  refine Wp.fg ⟨[(1, .obj 1 0), (2, .obj 2 0), (3, .obj 3 0)], [(1, [.ext false (.sl 1 (p0.fUp.map (eInt .i64)))]), (2, [.nil]), (3, [.nil])], []⟩ ?_
  refine Wp.srg [] [] ?_
  refine Runs.batch 2 kr ?_
  obtain ⟨r1, e_r1, h⟩ := bind_some h
  refine Runs.callDK 6 100 [] [.ext false (.sl 1 (p0.fUp.map (eInt .i64)))] [.one (.t (.sl 1 (p0.fUp.map (eInt .i64))))] (.one (.ow 3 1 (r1.map (eInt .i64)))) rfl rfl kr kr kr kr kr (laws_toIntS_okd u p0.fUp r1 e_r1) kr ?_
  refine Runs.alln ?_
  refine Wp.fg ⟨[(2, .obj 2 0), (3, .obj 3 0)], [(2, [.nil]), (3, [.own 393216])], [(393216, .live 3 1 (r1.map (eInt .i64)))]⟩ ?_
  refine Wp.srg [] [] ?_
  refine Runs.alln ?_
  refine Wp.fg ⟨[(2, .obj 2 0)], [(2, [.own 393216])], [(393216, .live 3 1 (r1.map (eInt .i64)))]⟩ ?_
  refine Wp.ret ?_
  obtain rfl := Option.some.inj h
  exact RetK [.agg [.own 393216]] _ [] kr kr (.refl _) .nil
theorem laws_toByteS_okd (u : Nat) (p0 : List Int) (r : (List Int)) (h : laws_toByteS u p0 = some r) : DOK Tryz.prog 46 [.one (.t (.sl 1 (p0.map (eInt .u8))))] (.one (.ow 5 1 (r.map (eInt .u8)))) := by
  unfold laws_toByteS at h
  refine DOK.of_bodyK (fn := Tryz.f46) (m := true) kr rfl kr kr kr ?_
  refine Wp.srg [] [] ?_
  refine Runs.alln ?_
  refine Wp.fg ⟨[(0, .ext false (.sl 1 (p0.map (eInt .u8)))), (2, .nil)], [], []⟩ ?_
  refine Wp.srg [] [] ?_
  refine Runs.batch 1 kr ?_
  refine Runs.lenX (e := 5) (eInt .u8) p0 false 1 rfl rfl rfl kr kr kr kr ?_
  obtain ⟨_, e_1, h⟩ := bind_some h
  obtain ⟨_, e_2, h⟩ := bind_some h
  refine Runs.mkS (eInt .u8) (0 : Int) 7 5 1 1 ((p0.length : Int)) ((p0.length : Int)) rfl rfl kr kr kr kr kr kr (chk_some e_1) (of_decide_eq_true (chk_some e_2)) kr ?_
  refine Runs.alln ?_
  refine Wp.fg ⟨[(0, .ext false (.sl 1 (p0.map (eInt .u8)))), (2, .nil), (3, .own 458752)], [], [(458752, .live 5 1 ((List.replicate (Int.toNat ((p0.length : Int))) (0 : Int)).map (eInt .u8)))]⟩ ?_
  refine Wp.seqJ (α := (List Int)) (fun a => ⟨[(2, .nil), (3, .own 196609)], [], [(196609, .live 5 1 (a.map (eInt .u8)))]⟩) (fun a => laws_toByteS_j1 u a = some r) ?_ ?_
  · rintro x11 h
    change laws_toByteS_j1 u x11 = some r at h
    unfold laws_toByteS_j1 at h
    refine Wp.srg [] [] ?_
    refine Runs.alln ?_
    refine Wp.fg ⟨[(2, .own 196609)], [], [(196609, .live 5 1 (x11.map (eInt .u8)))]⟩ ?_
    refine Wp.ret ?_
    obtain rfl := Option.some.inj h
    exact RetK [.own 196609] _ [] kr kr (.refl _) .nil
  · refine Wp.srg [] [] ?_
    refine Runs.alln ?_
    refine Wp.fg ⟨[(0, .ext false (.sl 1 (p0.map (eInt .u8)))), (2, .nil), (3, .own 458752), (4, .t (.int .i64 0))], [], [(458752, .live 5 1 ((List.replicate (Int.toNat ((p0.length : Int))) (0 : Int)).map (eInt .u8)))]⟩ ?_
    refine Wp.block ?_
    refine Wp.loopF (α := (List Int) × (List Int) × Int) (fun a => ⟨[(0, .ext false (.sl 1 (a.1.map (eInt .u8)))), (2, .nil), (3, .own 196609), (4, .t (.int .i64 a.2.2))], [], [(196609, .live 5 1 (a.2.1.map (eInt .u8)))]⟩) (fun k_laws_toByteS_l2 a => laws_toByteS_l2 u k_laws_toByteS_l2 a.1 a.2.1 a.2.2 = some r) ?_ ?_ u (p0, List.replicate (Int.toNat ((p0.length : Int))) (0 : Int), 0) h (Le.of (mo := []) (mr := [(196609, 458752)]) kr kr kr kr)
    · intro a h; unfold laws_toByteS_l2 at h; cases h
    · rintro k_laws_toByteS_l2 ⟨p0, x5, x6⟩ h
      change laws_toByteS_l2 u (k_laws_toByteS_l2 + 1) p0 x5 x6 = some r at h
      rw [laws_toByteS_l2] at h
      refine Wp.seq ?_
      refine Wp.srg [] [] ?_
      refine Runs.batch 2 kr ?_
      refine Runs.lenX (e := 5) (eInt .u8) p0 false 1 rfl rfl rfl kr kr kr kr ?_
      refine Runs.alln ?_
      refine Wp.fg ⟨[(0, .ext false (.sl 1 (p0.map (eInt .u8)))), (2, .nil), (3, .own 196609), (4, .t (.int .i64 x6)), (11, .t (.bool (decide (x6 < ((p0.length : Int))))))], [], [(196609, .live 5 1 (x5.map (eInt .u8)))]⟩ ?_
      refine Wp.cond2 (b := decide (x6 < ((p0.length : Int)))) kr (fun hc => ?_) (fun hc => ?_)
      · have h := cond_t h hc
        refine Wp.skip (thenN ?_)
        refine Wp.seq ?_
        refine Wp.block ?_
        refine Wp.rg [] [] ?_
        refine Runs.batch 4 kr ?_
        obtain ⟨y9, e_y9, h⟩ := bind_some h
        refine Runs.idxX (e := 5) (kk := .i64) (sz := 1) (eInt .u8) p0 x6 false rfl kr kr kr kr kr kr e_y9 ?_
        refine Runs.batch 1 kr ?_
        obtain ⟨y10, e_y10, h⟩ := bind_some h
        refine Runs.idxO (e := 5) (e' := 5) (kk := .i64) (sz := 1) (eInt .u8) x5 x6 196609 rfl kr kr kr kr kr kr kr e_y10 ?_
        refine Runs.storeT (e := 5) (sz := 1) (m := 1) (eInt .u8) x5 196609 (Int.toNat x6) 0 y9 (.t (.int .u8 y9)) [.int .u8 y9] rfl kr kr kr kr kr kr kr kr (idx_some e_y10).2 kr kr ?_
        refine Runs.done ?_
        refine blkN ?_
        refine thenN ?_
        refine Wp.rg [] [] ?_
        refine Runs.alln ?_
        exact ⟨(p0, x5.set (Int.toNat x6) y9, bAdd .i64 x6 1), h, Le.of (mo := []) (mr := []) kr kr kr kr⟩
      have h := cond_f h hc
      refine Wp.exit ?_
      refine thenE ?_
      refine thenE ?_
      refine blkE ?_
      refine thenN ?_
      exact ⟨x5, h, Le.of (mo := []) (mr := []) kr kr kr kr⟩
theorem laws_toImage_okd (u : Nat) (p0 : Image) (r : Image) (h : laws_toImage u p0 = some r) : DOK Tryz.prog 101 [.agg [.t (.sl 1 (p0.fB.map (eInt .u8)))]] (.agg [.ow 5 1 (r.fB.map (eInt .u8))]) := by
  unfold laws_toImage at h
  refine DOK.of_bodyK (fn := Tryz.f101) (m := true) kr rfl kr kr kr ?_
  refine Wp.srg [] [] ?_
  refine Runs.alln ?_
  refine Wp.fg ⟨[(1, .obj 1 0), (2, .obj 2 0)], [(1, [.ext false (.sl 1 (p0.fB.map (eInt .u8)))]), (2, [.nil])], []⟩ ?_
  refine Wp.srg [] [] ?_
  refine Runs.alln ?_
  refine Wp.fg ⟨[(1, .obj 1 0), (2, .obj 2 0), (3, .obj 3 0)], [(1, [.ext false (.sl 1 (p0.fB.map (eInt .u8)))]), (2, [.nil]), (3, [.nil])], []⟩ ?_
  refine Wp.srg [] [] ?_
  refine Runs.batch 2 kr ?_
  obtain ⟨r1, e_r1, h⟩ := bind_some h
  refine Runs.callDK 6 46 [] [.ext false (.sl 1 (p0.fB.map (eInt .u8)))] [.one (.t (.sl 1 (p0.fB.map (eInt .u8))))] (.one (.ow 5 1 (r1.map (eInt .u8)))) rfl rfl kr kr kr kr kr (laws_toByteS_okd u p0.fB r1 e_r1) kr ?_
  refine Runs.alln ?_
  refine Wp.fg ⟨[(2, .obj 2 0), (3, .obj 3 0)], [(2, [.nil]), (3, [.own 393216])], [(393216, .live 5 1 (r1.map (eInt .u8)))]⟩ ?_
  refine Wp.srg [] [] ?_
  refine Runs.alln ?_
  refine Wp.fg ⟨[(2, .obj 2 0)], [(2, [.own 393216])], [(393216, .live 5 1 (r1.map (eInt .u8)))]⟩ ?_
  refine Wp.ret ?_
  obtain rfl := Option.some.inj h
  exact RetK [.agg [.own 393216]] _ [] kr kr (.refl _) .nil
theorem laws_toImageS_okd (u : Nat) (p0 : List Image) (r : (List Image)) (h : laws_toImageS u p0 = some r) : DOK Tryz.prog 47 [.one (.t (.sl 1 (p0.map Image.enc)))] (.one (.ow 89 1 (r.map Image.enc))) := by
  unfold laws_toImageS at h
  refine DOK.of_bodyK (fn := Tryz.f47) (m := true) kr rfl kr kr kr ?_
  refine Wp.srg [] [] ?_
  refine Runs.alln ?_
  refine Wp.fg ⟨[(0, .ext false (.sl 1 (p0.map Image.enc))), (2, .nil)], [], []⟩ ?_
  refine Wp.srg [] [] ?_
  refine Runs.batch 1 kr ?_
  refine Runs.lenX (e := 113) Image.enc p0 false 1 rfl rfl rfl kr kr kr kr ?_
  obtain ⟨_, e_1, h⟩ := bind_some h
  obtain ⟨_, e_2, h⟩ := bind_some h
  refine Runs.mkS Image.enc ((Image.mk ([])) : Image) 7 89 1 24 ((p0.length : Int)) ((p0.length : Int)) rfl rfl kr kr kr kr kr kr (chk_some e_1) (of_decide_eq_true (chk_some e_2)) kr ?_
  refine Runs.alln ?_
  refine Wp.fg ⟨[(0, .ext false (.sl 1 (p0.map Image.enc))), (2, .nil), (3, .own 458752)], [], [(458752, .live 89 1 ((List.replicate (Int.toNat ((p0.length : Int))) ((Image.mk ([])) : Image)).map Image.enc))]⟩ ?_
  refine Wp.seqJ (α := (List Image)) (fun a => ⟨[(2, .nil), (3, .own 196609)], [], [(196609, .live 89 1 (a.map Image.enc))]⟩) (fun a => laws_toImageS_j1 u a = some r) ?_ ?_
  · rintro x12 h
    change laws_toImageS_j1 u x12 = some r at h
    unfold laws_toImageS_j1 at h
    refine Wp.srg [] [] ?_
    refine Runs.alln ?_
    refine Wp.fg ⟨[(2, .own 196609)], [], [(196609, .live 89 1 (x12.map Image.enc))]⟩ ?_
    refine Wp.ret ?_
    obtain rfl := Option.some.inj h
    exact RetK [.own 196609] _ [] kr kr (.refl _) .nil
  · refine Wp.srg [] [] ?_
    refine Runs.alln ?_
    refine Wp.fg ⟨[(0, .ext false (.sl 1 (p0.map Image.enc))), (2, .nil), (3, .own 458752), (4, .t (.int .i64 0))], [], [(458752, .live 89 1 ((List.replicate (Int.toNat ((p0.length : Int))) ((Image.mk ([])) : Image)).map Image.enc))]⟩ ?_
    refine Wp.block ?_
    refine Wp.loopF (α := (List Image) × (List Image) × Int) (fun a => ⟨[(0, .ext false (.sl 1 (a.1.map Image.enc))), (2, .nil), (3, .own 196609), (4, .t (.int .i64 a.2.2))], [], [(196609, .live 89 1 (a.2.1.map Image.enc))]⟩) (fun k_laws_toImageS_l2 a => laws_toImageS_l2 u k_laws_toImageS_l2 a.1 a.2.1 a.2.2 = some r) ?_ ?_ u (p0, List.replicate (Int.toNat ((p0.length : Int))) ((Image.mk ([])) : Image), 0) h (Le.of (mo := []) (mr := [(196609, 458752)]) kr kr kr kr)
    · intro a h; unfold laws_toImageS_l2 at h; cases h
    · rintro k_laws_toImageS_l2 ⟨p0, x5, x6⟩ h
      change laws_toImageS_l2 u (k_laws_toImageS_l2 + 1) p0 x5 x6 = some r at h
      rw [laws_toImageS_l2] at h
      refine Wp.seq ?_
      refine Wp.srg [] [] ?_
      refine Runs.batch 2 kr ?_
      refine Runs.lenX (e := 113) Image.enc p0 false 1 rfl rfl rfl kr kr kr kr ?_
      refine Runs.alln ?_
      refine Wp.fg ⟨[(0, .ext false (.sl 1 (p0.map Image.enc))), (2, .nil), (3, .own 196609), (4, .t (.int .i64 x6)), (11, .t (.bool (decide (x6 < ((p0.length : Int))))))], [], [(196609, .live 89 1 (x5.map Image.enc))]⟩ ?_
      refine Wp.cond2 (b := decide (x6 < ((p0.length : Int)))) kr (fun hc => ?_) (fun hc => ?_)
      · have h := cond_t h hc
        refine Wp.skip (thenN ?_)
        refine Wp.seq ?_
        refine Wp.block ?_
        refine Wp.rg [] [] ?_
        refine Runs.batch 4 kr ?_
        obtain ⟨y9, e_y9, h⟩ := bind_some h
        refine Runs.idxX (e := 113) (kk := .i64) (sz := 1) Image.enc p0 x6 false rfl kr kr kr kr kr kr e_y9 ?_
        refine Runs.batch 1 kr ?_
        obtain ⟨r10, e_r10, h⟩ := bind_some h
        refine Runs.callDK 20 101 [] [.agg [.ext false (.sl 1 (y9.fB.map (eInt .u8)))]] [.agg [.t (.sl 1 (y9.fB.map (eInt .u8)))]] (.agg [.ow 5 1 (r10.fB.map (eInt .u8))]) rfl rfl kr kr kr kr kr (laws_toImage_okd u y9 r10 e_r10) kr ?_
        obtain ⟨y11, e_y11, h⟩ := bind_some h
        refine Runs.idxO (e := 89) (e' := 89) (kk := .i64) (sz := 1) Image.enc x5 x6 196609 rfl kr kr kr kr kr kr kr e_y11 ?_
        refine Runs.storeU (e := 89) (sz := 1) (m := 1) Image.enc x5 196609 (Int.toNat x6) 0 r10 (.agg [.own 1310720]) [.sl 1 (r10.fB.map (eInt .u8))] rfl kr kr kr kr kr kr kr kr (idx_some e_y11).2 kr kr ?_
        refine Runs.done ?_
        refine blkN ?_
        refine thenN ?_
        refine Wp.rg [] [] ?_
        refine Runs.alln ?_
        exact ⟨(p0, x5.set (Int.toNat x6) r10, bAdd .i64 x6 1), h, Le.of (mo := []) (mr := []) kr kr kr kr⟩
      have h := cond_f h hc
      refine Wp.exit ?_
      refine thenE ?_
      refine thenE ?_
      refine blkE ?_
      refine thenN ?_
      exact ⟨x5, h, Le.of (mo := []) (mr := []) kr kr kr kr⟩
theorem laws_toSum_ok (u : Nat) (p0 : Sum) (r : Sum) (h : laws_toSum u p0 = some r) : CallOK Tryz.prog 202 [.agg [.t (.int .i64 p0.fW), .t (.int .i64 p0.fS)]] (.agg [.t (.int .i64 r.fW), .t (.int .i64 r.fS)]) [] := by
  unfold laws_toSum at h
  refine CallOK.of_bodyK (fn := Tryz.f202) (m := false) [.agg [.t (.int .i64 p0.fW), .t (.int .i64 p0.fS)]] kr rfl kr kr kr kr kr ?_
  refine Wp.srg [] [] ?_
  refine Runs.alln ?_
  refine Wp.fg ⟨[(1, .obj 1 0), (2, .obj 2 0)], [(1, [.t (.int .i64 p0.fW), .t (.int .i64 p0.fS)]), (2, [.t (.int .i64 0), .t (.int .i64 0)])], []⟩ ?_
  refine Wp.srg [] [] ?_
  refine Runs.alln ?_
  refine Wp.fg ⟨[(1, .obj 1 0), (2, .obj 2 0), (3, .obj 3 0)], [(1, [.t (.int .i64 p0.fW), .t (.int .i64 p0.fS)]), (2, [.t (.int .i64 0), .t (.int .i64 0)]), (3, [.t (.int .i64 0), .t (.int .i64 0)])], []⟩ ?_
  refine Wp.srg [] [] ?_
  refine Runs.alln ?_
  refine Wp.fg ⟨[(1, .obj 1 0), (2, .obj 2 0), (3, .obj 3 0)], [(1, [.t (.int .i64 p0.fW), .t (.int .i64 p0.fS)]), (2, [.t (.int .i64 0), .t (.int .i64 0)]), (3, [.t (.int .i64 p0.fW), .t (.int .i64 0)])], []⟩ ?_
  refine Wp.srg [] [] ?_
  refine Runs.alln ?_
  refine Wp.fg ⟨[(2, .obj 2 0), (3, .obj 3 0)], [(2, [.t (.int .i64 0), .t (.int .i64 0)]), (3, [.t (.int .i64 p0.fW), .t (.int .i64 p0.fS)])], []⟩ ?_
  refine Wp.srg [] [] ?_
  refine Runs.alln ?_
  refine Wp.fg ⟨[(2, .obj 2 0)], [(2, [.t (.int .i64 p0.fW), .t (.int .i64 p0.fS)])], []⟩ ?_
  refine Wp.ret ?_
  obtain rfl := Option.some.inj h
  exact RetK [.agg [.t (.int .i64 p0.fW), .t (.int .i64 p0.fS)]] _ [] kr kr (.refl _) .nil
theorem laws_toSumS_okd (u : Nat) (p0 : List Sum) (r : (List Sum)) (h : laws_toSumS u p0 = some r) : DOK Tryz.prog 175 [.one (.t (.sl 2 (p0.map Sum.enc)))] (.one (.ow 184 2 (r.map Sum.enc))) := by
  unfold laws_toSumS at h
  refine DOK.of_bodyK (fn := Tryz.f175) (m := true) kr rfl kr kr kr ?_
  refine Wp.srg [] [] ?_
  refine Runs.alln ?_
  refine Wp.fg ⟨[(0, .ext false (.sl 2 (p0.map Sum.enc))), (2, .nil)], [], []⟩ ?_
  refine Wp.srg [] [] ?_
  refine Runs.batch 1 kr ?_
  refine Runs.lenX (e := 212) Sum.enc p0 false 2 rfl rfl rfl kr kr kr kr ?_
  obtain ⟨_, e_1, h⟩ := bind_some h
  obtain ⟨_, e_2, h⟩ := bind_some h
  refine Runs.mkS Sum.enc ((Sum.mk 0 0) : Sum) 7 184 2 16 ((p0.length : Int)) ((p0.length : Int)) rfl rfl kr kr kr kr kr kr (chk_some e_1) (of_decide_eq_true (chk_some e_2)) kr ?_
  refine Runs.alln ?_
  refine Wp.fg ⟨[(0, .ext false (.sl 2 (p0.map Sum.enc))), (2, .nil), (3, .own 458752)], [], [(458752, .live 184 2 ((List.replicate (Int.toNat ((p0.length : Int))) ((Sum.mk 0 0) : Sum)).map Sum.enc))]⟩ ?_
  refine Wp.seqJ (α := (List Sum)) (fun a => ⟨[(2, .nil), (3, .own 196609)], [], [(196609, .live 184 2 (a.map Sum.enc))]⟩) (fun a => laws_toSumS_j1 u a = some r) ?_ ?_
  · rintro x12 h
    change laws_toSumS_j1 u x12 = some r at h
    unfold laws_toSumS_j1 at h
    refine Wp.srg [] [] ?_
    refine Runs.alln ?_
    refine Wp.fg ⟨[(2, .own 196609)], [], [(196609, .live 184 2 (x12.map Sum.enc))]⟩ ?_
    refine Wp.ret ?_
    obtain rfl := Option.some.inj h
    exact RetK [.own 196609] _ [] kr kr (.refl _) .nil
  · refine Wp.srg [] [] ?_
    refine Runs.alln ?_
    refine Wp.fg ⟨[(0, .ext false (.sl 2 (p0.map Sum.enc))), (2, .nil), (3, .own 458752), (4, .t (.int .i64 0))], [], [(458752, .live 184 2 ((List.replicate (Int.toNat ((p0.length : Int))) ((Sum.mk 0 0) : Sum)).map Sum.enc))]⟩ ?_
    refine Wp.block ?_
    refine Wp.loopF (α := (List Sum) × (List Sum) × Int) (fun a => ⟨[(0, .ext false (.sl 2 (a.1.map Sum.enc))), (2, .nil), (3, .own 196609), (4, .t (.int .i64 a.2.2))], [], [(196609, .live 184 2 (a.2.1.map Sum.enc))]⟩) (fun k_laws_toSumS_l2 a => laws_toSumS_l2 u k_laws_toSumS_l2 a.1 a.2.1 a.2.2 = some r) ?_ ?_ u (p0, List.replicate (Int.toNat ((p0.length : Int))) ((Sum.mk 0 0) : Sum), 0) h (Le.of (mo := []) (mr := [(196609, 458752)]) kr kr kr kr)
    · intro a h; unfold laws_toSumS_l2 at h; cases h
    · rintro k_laws_toSumS_l2 ⟨p0, x5, x6⟩ h
      change laws_toSumS_l2 u (k_laws_toSumS_l2 + 1) p0 x5 x6 = some r at h
      rw [laws_toSumS_l2] at h
      refine Wp.seq ?_
      refine Wp.srg [] [] ?_
      refine Runs.batch 2 kr ?_
      refine Runs.lenX (e := 212) Sum.enc p0 false 2 rfl rfl rfl kr kr kr kr ?_
      refine Runs.alln ?_
      refine Wp.fg ⟨[(0, .ext false (.sl 2 (p0.map Sum.enc))), (2, .nil), (3, .own 196609), (4, .t (.int .i64 x6)), (11, .t (.bool (decide (x6 < ((p0.length : Int))))))], [], [(196609, .live 184 2 (x5.map Sum.enc))]⟩ ?_
      refine Wp.cond2 (b := decide (x6 < ((p0.length : Int)))) kr (fun hc => ?_) (fun hc => ?_)
      · have h := cond_t h hc
        refine Wp.skip (thenN ?_)
        refine Wp.seq ?_
        refine Wp.block ?_
        refine Wp.rg [] [] ?_
        refine Runs.batch 4 kr ?_
        obtain ⟨y9, e_y9, h⟩ := bind_some h
        refine Runs.idxX (e := 212) (kk := .i64) (sz := 2) Sum.enc p0 x6 false rfl kr kr kr kr kr kr e_y9 ?_
        refine Runs.batch 1 kr ?_
        obtain ⟨r10, e_r10, h⟩ := bind_some h
        refine Runs.callK false 20 202 [] [.agg [.t (.int .i64 y9.fW), .t (.int .i64 y9.fS)]] _ _ _ rfl rfl kr kr kr kr kr (laws_toSum_ok u y9 r10 e_r10) kr ?_
        obtain ⟨y11, e_y11, h⟩ := bind_some h
        refine Runs.idxO (e := 184) (e' := 184) (kk := .i64) (sz := 2) Sum.enc x5 x6 196609 rfl kr kr kr kr kr kr kr e_y11 ?_
        refine Runs.storeT (e := 184) (sz := 2) (m := 2) Sum.enc x5 196609 (Int.toNat x6) 0 r10 (.agg [.t (.int .i64 r10.fW), .t (.int .i64 r10.fS)]) [.int .i64 r10.fW, .int .i64 r10.fS] rfl kr kr kr kr kr kr kr kr (idx_some e_y11).2 kr kr ?_
        refine Runs.done ?_
        refine blkN ?_
        refine thenN ?_
        refine Wp.rg [] [] ?_
        refine Runs.alln ?_
        exact ⟨(p0, x5.set (Int.toNat x6) r10, bAdd .i64 x6 1), h, Le.of (mo := []) (mr := []) kr kr kr kr⟩
      have h := cond_f h hc
      refine Wp.exit ?_
      refine thenE ?_
      refine thenE ?_
      refine blkE ?_
      refine thenN ?_
      exact ⟨x5, h, Le.of (mo := []) (mr := []) kr kr kr kr⟩
theorem laws_toManifest_okd (u : Nat) (p0 : Manifest) (r : Manifest) (h : laws_toManifest u p0 = some r) : DOK Tryz.prog 140 [.agg [.t (.int .i64 p0.fGen), .t (.int .i64 p0.fSize), .t (.int .i64 p0.fLen), .t (.sl 2 (p0.fSums.map Sum.enc))]] (.agg [.t (.int .i64 r.fGen), .t (.int .i64 r.fSize), .t (.int .i64 r.fLen), .ow 184 2 (r.fSums.map Sum.enc)]) := by
  unfold laws_toManifest at h
  refine DOK.of_bodyK (fn := Tryz.f140) (m := true) kr rfl kr kr kr ?_
  refine Wp.srg [] [] ?_
  refine Runs.alln ?_
  refine Wp.fg ⟨[(1, .obj 1 0), (2, .obj 2 0)], [(1, [.t (.int .i64 p0.fGen), .t (.int .i64 p0.fSize), .t (.int .i64 p0.fLen), .ext false (.sl 2 (p0.fSums.map Sum.enc))]), (2, [.t (.int .i64 0), .t (.int .i64 0), .t (.int .i64 0), .nil])], []⟩ ?_
  refine Wp.srg [] [] ?_
  refine Runs.alln ?_
  refine Wp.fg ⟨[(1, .obj 1 0), (2, .obj 2 0), (3, .obj 3 0)], [(1, [.t (.int .i64 p0.fGen), .t (.int .i64 p0.fSize), .t (.int .i64 p0.fLen), .ext false (.sl 2 (p0.fSums.map Sum.enc))]), (2, [.t (.int .i64 0), .t (.int .i64 0), .t (.int .i64 0), .nil]), (3, [.t (.int .i64 0), .t (.int .i64 0), .t (.int .i64 0), .nil])], []⟩ ?_
  refine Wp.srg [] [] ?_
  refine Runs.alln ?_
  refine Wp.fg ⟨[(1, .obj 1 0), (2, .obj 2 0), (3, .obj 3 0)], [(1, [.t (.int .i64 p0.fGen), .t (.int .i64 p0.fSize), .t (.int .i64 p0.fLen), .ext false (.sl 2 (p0.fSums.map Sum.enc))]), (2, [.t (.int .i64 0), .t (.int .i64 0), .t (.int .i64 0), .nil]), (3, [.t (.int .i64 p0.fGen), .t (.int .i64 0), .t (.int .i64 0), .nil])], []⟩ ?_
  refine Wp.srg [] [] ?_
  refine Runs.alln ?_
  refine Wp.fg ⟨[(1, .obj 1 0), (2, .obj 2 0), (3, .obj 3 0)], [(1, [.t (.int .i64 p0.fGen), .t (.int .i64 p0.fSize), .t (.int .i64 p0.fLen), .ext false (.sl 2 (p0.fSums.map Sum.enc))]), (2, [.t (.int .i64 0), .t (.int .i64 0), .t (.int .i64 0), .nil]), (3, [.t (.int .i64 p0.fGen), .t (.int .i64 p0.fSize), .t (.int .i64 0), .nil])], []⟩ ?_
  refine Wp.srg [] [] ?_
  refine Runs.alln ?_
  refine Wp.fg ⟨[(1, .obj 1 0), (2, .obj 2 0), (3, .obj 3 0)], [(1, [.t (.int .i64 p0.fGen), .t (.int .i64 p0.fSize), .t (.int .i64 p0.fLen), .ext false (.sl 2 (p0.fSums.map Sum.enc))]), (2, [.t (.int .i64 0), .t (.int .i64 0), .t (.int .i64 0), .nil]), (3, [.t (.int .i64 p0.fGen), .t (.int .i64 p0.fSize), .t (.int .i64 p0.fLen), .nil])], []⟩ ?_
  refine Wp.srg [] [] ?_
  refine Runs.batch 2 kr ?_
  obtain ⟨r1, e_r1, h⟩ := bind_some h
  refine Runs.callDK 15 175 [] [.ext false (.sl 2 (p0.fSums.map Sum.enc))] [.one (.t (.sl 2 (p0.fSums.map Sum.enc)))] (.one (.ow 184 2 (r1.map Sum.enc))) rfl rfl kr kr kr kr kr (laws_toSumS_okd u p0.fSums r1 e_r1) kr ?_
  refine Runs.alln ?_
  refine Wp.fg ⟨[(2, .obj 2 0), (3, .obj 3 0)], [(2, [.t (.int .i64 0), .t (.int .i64 0), .t (.int .i64 0), .nil]), (3, [.t (.int .i64 p0.fGen), .t (.int .i64 p0.fSize), .t (.int .i64 p0.fLen), .own 983040])], [(983040, .live 184 2 (r1.map Sum.enc))]⟩ ?_
  refine Wp.srg [] [] ?_
  refine Runs.alln ?_
  refine Wp.fg ⟨[(2, .obj 2 0)], [(2, [.t (.int .i64 p0.fGen), .t (.int .i64 p0.fSize), .t (.int .i64 p0.fLen), .own 983040])], [(983040, .live 184 2 (r1.map Sum.enc))]⟩ ?_
  refine Wp.ret ?_
  obtain rfl := Option.some.inj h
  exact RetK [.agg [.t (.int .i64 p0.fGen), .t (.int .i64 p0.fSize), .t (.int .i64 p0.fLen), .own 983040]] _ [] kr kr (.refl _) .nil
theorem laws_toBuild_okd (u : Nat) (p0 : Build) (r : Build) (h : laws_toBuild u p0 = some r) : DOK Tryz.prog 141 [.agg [.t (.int .i64 p0.fHave), .t (.sl 1 (p0.fBuf.map (eInt .u8)))]] (.agg [.t (.int .i64 r.fHave), .ow 5 1 (r.fBuf.map (eInt .u8))]) := by
  unfold laws_toBuild at h
  refine DOK.of_bodyK (fn := Tryz.f141) (m := true) kr rfl kr kr kr ?_
  refine Wp.srg [] [] ?_
  refine Runs.alln ?_
  refine Wp.fg ⟨[(1, .obj 1 0), (2, .obj 2 0)], [(1, [.t (.int .i64 p0.fHave), .ext false (.sl 1 (p0.fBuf.map (eInt .u8)))]), (2, [.t (.int .i64 0), .nil])], []⟩ ?_
  refine Wp.srg [] [] ?_
  refine Runs.alln ?_
  refine Wp.fg ⟨[(1, .obj 1 0), (2, .obj 2 0), (3, .obj 3 0)], [(1, [.t (.int .i64 p0.fHave), .ext false (.sl 1 (p0.fBuf.map (eInt .u8)))]), (2, [.t (.int .i64 0), .nil]), (3, [.t (.int .i64 0), .nil])], []⟩ ?_
  refine Wp.srg [] [] ?_
  refine Runs.alln ?_
  refine Wp.fg ⟨[(1, .obj 1 0), (2, .obj 2 0), (3, .obj 3 0)], [(1, [.t (.int .i64 p0.fHave), .ext false (.sl 1 (p0.fBuf.map (eInt .u8)))]), (2, [.t (.int .i64 0), .nil]), (3, [.t (.int .i64 p0.fHave), .nil])], []⟩ ?_
  refine Wp.srg [] [] ?_
  refine Runs.batch 2 kr ?_
  obtain ⟨r1, e_r1, h⟩ := bind_some h
  refine Runs.callDK 9 46 [] [.ext false (.sl 1 (p0.fBuf.map (eInt .u8)))] [.one (.t (.sl 1 (p0.fBuf.map (eInt .u8))))] (.one (.ow 5 1 (r1.map (eInt .u8)))) rfl rfl kr kr kr kr kr (laws_toByteS_okd u p0.fBuf r1 e_r1) kr ?_
  refine Runs.alln ?_
  refine Wp.fg ⟨[(2, .obj 2 0), (3, .obj 3 0)], [(2, [.t (.int .i64 0), .nil]), (3, [.t (.int .i64 p0.fHave), .own 589824])], [(589824, .live 5 1 (r1.map (eInt .u8)))]⟩ ?_
  refine Wp.srg [] [] ?_
  refine Runs.alln ?_
  refine Wp.fg ⟨[(2, .obj 2 0)], [(2, [.t (.int .i64 p0.fHave), .own 589824])], [(589824, .live 5 1 (r1.map (eInt .u8)))]⟩ ?_
  refine Wp.ret ?_
  obtain rfl := Option.some.inj h
  exact RetK [.agg [.t (.int .i64 p0.fHave), .own 589824]] _ [] kr kr (.refl _) .nil
theorem laws_toKid_ok (u : Nat) (p0 : Kid) (r : Kid) (h : laws_toKid u p0 = some r) : CallOK Tryz.prog 176 [.agg [.t (.int .i64 p0.fId), .t (.int .i64 p0.fWant), .t (.int .i64 p0.fDone), .t (.int .i64 p0.fAge), .t (.int .i64 p0.fSent)]] (.agg [.t (.int .i64 r.fId), .t (.int .i64 r.fWant), .t (.int .i64 r.fDone), .t (.int .i64 r.fAge), .t (.int .i64 r.fSent)]) [] := by
  unfold laws_toKid at h
  refine CallOK.of_bodyK (fn := Tryz.f176) (m := false) [.agg ((Kid.enc p0).map .t)] kr rfl kr kr kr kr kr ?_
  refine Wp.srg [] [] ?_
  refine Runs.alln ?_
  refine Wp.fg ⟨[(1, .obj 1 0), (2, .obj 2 0)], [(1, ((Kid.enc p0).map .t)), (2, [.t (.int .i64 0), .t (.int .i64 0), .t (.int .i64 0), .t (.int .i64 0), .t (.int .i64 0)])], []⟩ ?_
  refine Wp.srg [] [] ?_
  refine Runs.alln ?_
  refine Wp.fg ⟨[(1, .obj 1 0), (2, .obj 2 0), (3, .obj 3 0)], [(1, ((Kid.enc p0).map .t)), (2, [.t (.int .i64 0), .t (.int .i64 0), .t (.int .i64 0), .t (.int .i64 0), .t (.int .i64 0)]), (3, [.t (.int .i64 0), .t (.int .i64 0), .t (.int .i64 0), .t (.int .i64 0), .t (.int .i64 0)])], []⟩ ?_
  refine Wp.srg [] [] ?_
  refine Runs.alln ?_
  refine Wp.fg ⟨[(1, .obj 1 0), (2, .obj 2 0), (3, .obj 3 0)], [(1, ((Kid.enc p0).map .t)), (2, [.t (.int .i64 0), .t (.int .i64 0), .t (.int .i64 0), .t (.int .i64 0), .t (.int .i64 0)]), (3, [.t (.int .i64 p0.fId), .t (.int .i64 0), .t (.int .i64 0), .t (.int .i64 0), .t (.int .i64 0)])], []⟩ ?_
  refine Wp.srg [] [] ?_
  refine Runs.alln ?_
  refine Wp.fg ⟨[(1, .obj 1 0), (2, .obj 2 0), (3, .obj 3 0)], [(1, ((Kid.enc p0).map .t)), (2, [.t (.int .i64 0), .t (.int .i64 0), .t (.int .i64 0), .t (.int .i64 0), .t (.int .i64 0)]), (3, [.t (.int .i64 p0.fId), .t (.int .i64 p0.fWant), .t (.int .i64 0), .t (.int .i64 0), .t (.int .i64 0)])], []⟩ ?_
  refine Wp.srg [] [] ?_
  refine Runs.alln ?_
  refine Wp.fg ⟨[(1, .obj 1 0), (2, .obj 2 0), (3, .obj 3 0)], [(1, ((Kid.enc p0).map .t)), (2, [.t (.int .i64 0), .t (.int .i64 0), .t (.int .i64 0), .t (.int .i64 0), .t (.int .i64 0)]), (3, [.t (.int .i64 p0.fId), .t (.int .i64 p0.fWant), .t (.int .i64 p0.fDone), .t (.int .i64 0), .t (.int .i64 0)])], []⟩ ?_
  refine Wp.srg [] [] ?_
  refine Runs.alln ?_
  refine Wp.fg ⟨[(1, .obj 1 0), (2, .obj 2 0), (3, .obj 3 0)], [(1, ((Kid.enc p0).map .t)), (2, [.t (.int .i64 0), .t (.int .i64 0), .t (.int .i64 0), .t (.int .i64 0), .t (.int .i64 0)]), (3, [.t (.int .i64 p0.fId), .t (.int .i64 p0.fWant), .t (.int .i64 p0.fDone), .t (.int .i64 p0.fAge), .t (.int .i64 0)])], []⟩ ?_
  refine Wp.srg [] [] ?_
  refine Runs.alln ?_
  refine Wp.fg ⟨[(2, .obj 2 0), (3, .obj 3 0)], [(2, [.t (.int .i64 0), .t (.int .i64 0), .t (.int .i64 0), .t (.int .i64 0), .t (.int .i64 0)]), (3, ((Kid.enc p0).map .t))], []⟩ ?_
  refine Wp.srg [] [] ?_
  refine Runs.alln ?_
  refine Wp.fg ⟨[(2, .obj 2 0)], [(2, ((Kid.enc p0).map .t))], []⟩ ?_
  refine Wp.ret ?_
  obtain rfl := Option.some.inj h
  exact RetK [.agg ((Kid.enc p0).map .t)] _ [] kr kr (.refl _) .nil
theorem laws_toKidS_okd (u : Nat) (p0 : List Kid) (r : (List Kid)) (h : laws_toKidS u p0 = some r) : DOK Tryz.prog 142 [.one (.t (.sl 5 (p0.map Kid.enc)))] (.one (.ow 175 5 (r.map Kid.enc))) := by
  unfold laws_toKidS at h
  refine DOK.of_bodyK (fn := Tryz.f142) (m := true) kr rfl kr kr kr ?_
  refine Wp.srg [] [] ?_
  refine Runs.alln ?_
  refine Wp.fg ⟨[(0, .ext false (.sl 5 (p0.map Kid.enc))), (2, .nil)], [], []⟩ ?_
  refine Wp.srg [] [] ?_
  refine Runs.batch 1 kr ?_
  refine Runs.lenX (e := 196) Kid.enc p0 false 5 rfl rfl rfl kr kr kr kr ?_
  obtain ⟨_, e_1, h⟩ := bind_some h
  obtain ⟨_, e_2, h⟩ := bind_some h
  refine Runs.mkS Kid.enc ((Kid.mk 0 0 0 0 0) : Kid) 7 175 5 40 ((p0.length : Int)) ((p0.length : Int)) rfl rfl kr kr kr kr kr kr (chk_some e_1) (of_decide_eq_true (chk_some e_2)) kr ?_
  refine Runs.alln ?_
  refine Wp.fg ⟨[(0, .ext false (.sl 5 (p0.map Kid.enc))), (2, .nil), (3, .own 458752)], [], [(458752, .live 175 5 ((List.replicate (Int.toNat ((p0.length : Int))) ((Kid.mk 0 0 0 0 0) : Kid)).map Kid.enc))]⟩ ?_
  refine Wp.seqJ (α := (List Kid)) (fun a => ⟨[(2, .nil), (3, .own 196609)], [], [(196609, .live 175 5 (a.map Kid.enc))]⟩) (fun a => laws_toKidS_j1 u a = some r) ?_ ?_
  · rintro x12 h
    change laws_toKidS_j1 u x12 = some r at h
    unfold laws_toKidS_j1 at h
    refine Wp.srg [] [] ?_
    refine Runs.alln ?_
    refine Wp.fg ⟨[(2, .own 196609)], [], [(196609, .live 175 5 (x12.map Kid.enc))]⟩ ?_
    refine Wp.ret ?_
    obtain rfl := Option.some.inj h
    exact RetK [.own 196609] _ [] kr kr (.refl _) .nil
  · refine Wp.srg [] [] ?_
    refine Runs.alln ?_
    refine Wp.fg ⟨[(0, .ext false (.sl 5 (p0.map Kid.enc))), (2, .nil), (3, .own 458752), (4, .t (.int .i64 0))], [], [(458752, .live 175 5 ((List.replicate (Int.toNat ((p0.length : Int))) ((Kid.mk 0 0 0 0 0) : Kid)).map Kid.enc))]⟩ ?_
    refine Wp.block ?_
    refine Wp.loopF (α := (List Kid) × (List Kid) × Int) (fun a => ⟨[(0, .ext false (.sl 5 (a.1.map Kid.enc))), (2, .nil), (3, .own 196609), (4, .t (.int .i64 a.2.2))], [], [(196609, .live 175 5 (a.2.1.map Kid.enc))]⟩) (fun k_laws_toKidS_l2 a => laws_toKidS_l2 u k_laws_toKidS_l2 a.1 a.2.1 a.2.2 = some r) ?_ ?_ u (p0, List.replicate (Int.toNat ((p0.length : Int))) ((Kid.mk 0 0 0 0 0) : Kid), 0) h (Le.of (mo := []) (mr := [(196609, 458752)]) kr kr kr kr)
    · intro a h; unfold laws_toKidS_l2 at h; cases h
    · rintro k_laws_toKidS_l2 ⟨p0, x5, x6⟩ h
      change laws_toKidS_l2 u (k_laws_toKidS_l2 + 1) p0 x5 x6 = some r at h
      rw [laws_toKidS_l2] at h
      refine Wp.seq ?_
      refine Wp.srg [] [] ?_
      refine Runs.batch 2 kr ?_
      refine Runs.lenX (e := 196) Kid.enc p0 false 5 rfl rfl rfl kr kr kr kr ?_
      refine Runs.alln ?_
      refine Wp.fg ⟨[(0, .ext false (.sl 5 (p0.map Kid.enc))), (2, .nil), (3, .own 196609), (4, .t (.int .i64 x6)), (11, .t (.bool (decide (x6 < ((p0.length : Int))))))], [], [(196609, .live 175 5 (x5.map Kid.enc))]⟩ ?_
      refine Wp.cond2 (b := decide (x6 < ((p0.length : Int)))) kr (fun hc => ?_) (fun hc => ?_)
      · have h := cond_t h hc
        refine Wp.skip (thenN ?_)
        refine Wp.seq ?_
        refine Wp.block ?_
        refine Wp.rg [] [] ?_
        refine Runs.batch 4 kr ?_
        obtain ⟨y9, e_y9, h⟩ := bind_some h
        refine Runs.idxX (e := 196) (kk := .i64) (sz := 5) Kid.enc p0 x6 false rfl kr kr kr kr kr kr e_y9 ?_
        refine Runs.batch 1 kr ?_
        obtain ⟨r10, e_r10, h⟩ := bind_some h
        refine Runs.callK false 20 176 [] [.agg ((Kid.enc y9).map .t)] _ _ _ rfl rfl kr kr kr kr kr (laws_toKid_ok u y9 r10 e_r10) kr ?_
        obtain ⟨y11, e_y11, h⟩ := bind_some h
        refine Runs.idxO (e := 175) (e' := 175) (kk := .i64) (sz := 5) Kid.enc x5 x6 196609 rfl kr kr kr kr kr kr kr e_y11 ?_
        refine Runs.storeT (e := 175) (sz := 5) (m := 5) Kid.enc x5 196609 (Int.toNat x6) 0 r10 (.agg ((Kid.enc r10).map .t)) (Kid.enc r10) rfl kr kr kr kr kr kr kr kr (idx_some e_y11).2 kr kr ?_
        refine Runs.done ?_
        refine blkN ?_
        refine thenN ?_
        refine Wp.rg [] [] ?_
        refine Runs.alln ?_
        exact ⟨(p0, x5.set (Int.toNat x6) r10, bAdd .i64 x6 1), h, Le.of (mo := []) (mr := []) kr kr kr kr⟩
      have h := cond_f h hc
      refine Wp.exit ?_
      refine thenE ?_
      refine thenE ?_
      refine blkE ?_
      refine thenN ?_
      exact ⟨x5, h, Le.of (mo := []) (mr := []) kr kr kr kr⟩
theorem laws_toNode_okd (u : Nat) (p0 : Node) (r : Node) (h : laws_toNode u p0 = some r) : DOK Tryz.prog 102 [.agg [.t (.bool p0.fOn), .t (.int .i64 p0.fBoss), .t (.int .i64 p0.fQuiet), .t (.int .i64 p0.fMan.fGen), .t (.int .i64 p0.fMan.fSize), .t (.int .i64 p0.fMan.fLen), .t (.sl 2 (p0.fMan.fSums.map Sum.enc)), .t (.int .i64 p0.fBld.fHave), .t (.sl 1 (p0.fBld.fBuf.map (eInt .u8))), .t (.int .i64 p0.fPhase), .t (.sl 5 (p0.fKids.map Kid.enc)), .t (.int .i64 p0.fDrops)]] (.agg [.t (.bool r.fOn), .t (.int .i64 r.fBoss), .t (.int .i64 r.fQuiet), .t (.int .i64 r.fMan.fGen), .t (.int .i64 r.fMan.fSize), .t (.int .i64 r.fMan.fLen), .ow 184 2 (r.fMan.fSums.map Sum.enc), .t (.int .i64 r.fBld.fHave), .ow 5 1 (r.fBld.fBuf.map (eInt .u8)), .t (.int .i64 r.fPhase), .ow 175 5 (r.fKids.map Kid.enc), .t (.int .i64 r.fDrops)]) := by
  unfold laws_toNode at h
  refine DOK.of_bodyK (fn := Tryz.f102) (m := true) kr rfl kr kr kr ?_
  refine Wp.srg [] [] ?_
  refine Runs.alln ?_
  refine Wp.fg ⟨[(1, .obj 1 0), (2, .obj 2 0)], [(1, [.t (.bool p0.fOn), .t (.int .i64 p0.fBoss), .t (.int .i64 p0.fQuiet), .t (.int .i64 p0.fMan.fGen), .t (.int .i64 p0.fMan.fSize), .t (.int .i64 p0.fMan.fLen), .ext false (.sl 2 (p0.fMan.fSums.map Sum.enc)), .t (.int .i64 p0.fBld.fHave), .ext false (.sl 1 (p0.fBld.fBuf.map (eInt .u8))), .t (.int .i64 p0.fPhase), .ext false (.sl 5 (p0.fKids.map Kid.enc)), .t (.int .i64 p0.fDrops)]), (2, [.t (.bool false), .t (.int .i64 0), .t (.int .i64 0), .t (.int .i64 0), .t (.int .i64 0), .t (.int .i64 0), .nil, .t (.int .i64 0), .nil, .t (.int .i64 0), .nil, .t (.int .i64 0)])], []⟩ ?_
  refine Wp.srg [] [] ?_
  refine Runs.alln ?_
  refine Wp.fg ⟨[(1, .obj 1 0), (2, .obj 2 0), (3, .obj 3 0)], [(1, [.t (.bool p0.fOn), .t (.int .i64 p0.fBoss), .t (.int .i64 p0.fQuiet), .t (.int .i64 p0.fMan.fGen), .t (.int .i64 p0.fMan.fSize), .t (.int .i64 p0.fMan.fLen), .ext false (.sl 2 (p0.fMan.fSums.map Sum.enc)), .t (.int .i64 p0.fBld.fHave), .ext false (.sl 1 (p0.fBld.fBuf.map (eInt .u8))), .t (.int .i64 p0.fPhase), .ext false (.sl 5 (p0.fKids.map Kid.enc)), .t (.int .i64 p0.fDrops)]), (2, [.t (.bool false), .t (.int .i64 0), .t (.int .i64 0), .t (.int .i64 0), .t (.int .i64 0), .t (.int .i64 0), .nil, .t (.int .i64 0), .nil, .t (.int .i64 0), .nil, .t (.int .i64 0)]), (3, [.t (.bool false), .t (.int .i64 0), .t (.int .i64 0), .t (.int .i64 0), .t (.int .i64 0), .t (.int .i64 0), .nil, .t (.int .i64 0), .nil, .t (.int .i64 0), .nil, .t (.int .i64 0)])], []⟩ ?_
  refine Wp.srg [] [] ?_
  refine Runs.alln ?_
  refine Wp.fg ⟨[(1, .obj 1 0), (2, .obj 2 0), (3, .obj 3 0)], [(1, [.t (.bool p0.fOn), .t (.int .i64 p0.fBoss), .t (.int .i64 p0.fQuiet), .t (.int .i64 p0.fMan.fGen), .t (.int .i64 p0.fMan.fSize), .t (.int .i64 p0.fMan.fLen), .ext false (.sl 2 (p0.fMan.fSums.map Sum.enc)), .t (.int .i64 p0.fBld.fHave), .ext false (.sl 1 (p0.fBld.fBuf.map (eInt .u8))), .t (.int .i64 p0.fPhase), .ext false (.sl 5 (p0.fKids.map Kid.enc)), .t (.int .i64 p0.fDrops)]), (2, [.t (.bool false), .t (.int .i64 0), .t (.int .i64 0), .t (.int .i64 0), .t (.int .i64 0), .t (.int .i64 0), .nil, .t (.int .i64 0), .nil, .t (.int .i64 0), .nil, .t (.int .i64 0)]), (3, [.t (.bool p0.fOn), .t (.int .i64 0), .t (.int .i64 0), .t (.int .i64 0), .t (.int .i64 0), .t (.int .i64 0), .nil, .t (.int .i64 0), .nil, .t (.int .i64 0), .nil, .t (.int .i64 0)])], []⟩ ?_
  refine Wp.srg [] [] ?_
  refine Runs.alln ?_
  refine Wp.fg ⟨[(1, .obj 1 0), (2, .obj 2 0), (3, .obj 3 0)], [(1, [.t (.bool p0.fOn), .t (.int .i64 p0.fBoss), .t (.int .i64 p0.fQuiet), .t (.int .i64 p0.fMan.fGen), .t (.int .i64 p0.fMan.fSize), .t (.int .i64 p0.fMan.fLen), .ext false (.sl 2 (p0.fMan.fSums.map Sum.enc)), .t (.int .i64 p0.fBld.fHave), .ext false (.sl 1 (p0.fBld.fBuf.map (eInt .u8))), .t (.int .i64 p0.fPhase), .ext false (.sl 5 (p0.fKids.map Kid.enc)), .t (.int .i64 p0.fDrops)]), (2, [.t (.bool false), .t (.int .i64 0), .t (.int .i64 0), .t (.int .i64 0), .t (.int .i64 0), .t (.int .i64 0), .nil, .t (.int .i64 0), .nil, .t (.int .i64 0), .nil, .t (.int .i64 0)]), (3, [.t (.bool p0.fOn), .t (.int .i64 p0.fBoss), .t (.int .i64 0), .t (.int .i64 0), .t (.int .i64 0), .t (.int .i64 0), .nil, .t (.int .i64 0), .nil, .t (.int .i64 0), .nil, .t (.int .i64 0)])], []⟩ ?_
  refine Wp.srg [] [] ?_
  refine Runs.alln ?_
  refine Wp.fg ⟨[(1, .obj 1 0), (2, .obj 2 0), (3, .obj 3 0)], [(1, [.t (.bool p0.fOn), .t (.int .i64 p0.fBoss), .t (.int .i64 p0.fQuiet), .t (.int .i64 p0.fMan.fGen), .t (.int .i64 p0.fMan.fSize), .t (.int .i64 p0.fMan.fLen), .ext false (.sl 2 (p0.fMan.fSums.map Sum.enc)), .t (.int .i64 p0.fBld.fHave), .ext false (.sl 1 (p0.fBld.fBuf.map (eInt .u8))), .t (.int .i64 p0.fPhase), .ext false (.sl 5 (p0.fKids.map Kid.enc)), .t (.int .i64 p0.fDrops)]), (2, [.t (.bool false), .t (.int .i64 0), .t (.int .i64 0), .t (.int .i64 0), .t (.int .i64 0), .t (.int .i64 0), .nil, .t (.int .i64 0), .nil, .t (.int .i64 0), .nil, .t (.int .i64 0)]), (3, [.t (.bool p0.fOn), .t (.int .i64 p0.fBoss), .t (.int .i64 p0.fQuiet), .t (.int .i64 0), .t (.int .i64 0), .t (.int .i64 0), .nil, .t (.int .i64 0), .nil, .t (.int .i64 0), .nil, .t (.int .i64 0)])], []⟩ ?_
  refine Wp.srg [] [] ?_
  refine Runs.batch 2 kr ?_
  obtain ⟨r1, e_r1, h⟩ := bind_some h
  refine Runs.callDK 15 140 [] [.agg [.t (.int .i64 p0.fMan.fGen), .t (.int .i64 p0.fMan.fSize), .t (.int .i64 p0.fMan.fLen), .ext false (.sl 2 (p0.fMan.fSums.map Sum.enc))]] [.agg ((Manifest.enc p0.fMan).map .t)] (.agg [.t (.int .i64 r1.fGen), .t (.int .i64 r1.fSize), .t (.int .i64 r1.fLen), .ow 184 2 (r1.fSums.map Sum.enc)]) rfl rfl kr kr kr kr kr (laws_toManifest_okd u p0.fMan r1 e_r1) kr ?_
  refine Runs.alln ?_
  refine Wp.fg ⟨[(1, .obj 1 0), (2, .obj 2 0), (3, .obj 3 0)], [(1, [.t (.bool p0.fOn), .t (.int .i64 p0.fBoss), .t (.int .i64 p0.fQuiet), .t (.int .i64 p0.fMan.fGen), .t (.int .i64 p0.fMan.fSize), .t (.int .i64 p0.fMan.fLen), .ext false (.sl 2 (p0.fMan.fSums.map Sum.enc)), .t (.int .i64 p0.fBld.fHave), .ext false (.sl 1 (p0.fBld.fBuf.map (eInt .u8))), .t (.int .i64 p0.fPhase), .ext false (.sl 5 (p0.fKids.map Kid.enc)), .t (.int .i64 p0.fDrops)]), (2, [.t (.bool false), .t (.int .i64 0), .t (.int .i64 0), .t (.int .i64 0), .t (.int .i64 0), .t (.int .i64 0), .nil, .t (.int .i64 0), .nil, .t (.int .i64 0), .nil, .t (.int .i64 0)]), (3, [.t (.bool p0.fOn), .t (.int .i64 p0.fBoss), .t (.int .i64 p0.fQuiet), .t (.int .i64 r1.fGen), .t (.int .i64 r1.fSize), .t (.int .i64 r1.fLen), .own 983043, .t (.int .i64 0), .nil, .t (.int .i64 0), .nil, .t (.int .i64 0)])], [(983043, .live 184 2 (r1.fSums.map Sum.enc))]⟩ ?_
  refine Wp.srg [] [] ?_
  refine Runs.batch 2 kr ?_
  obtain ⟨r2, e_r2, h⟩ := bind_some h
  refine Runs.callDK 19 141 [] [.agg [.t (.int .i64 p0.fBld.fHave), .ext false (.sl 1 (p0.fBld.fBuf.map (eInt .u8)))]] [.agg [.t (.int .i64 p0.fBld.fHave), .t (.sl 1 (p0.fBld.fBuf.map (eInt .u8)))]] (.agg [.t (.int .i64 r2.fHave), .ow 5 1 (r2.fBuf.map (eInt .u8))]) rfl rfl kr kr kr kr kr (laws_toBuild_okd u p0.fBld r2 e_r2) kr ?_
  refine Runs.alln ?_
  refine Wp.fg ⟨[(1, .obj 1 0), (2, .obj 2 0), (3, .obj 3 0)], [(1, [.t (.bool p0.fOn), .t (.int .i64 p0.fBoss), .t (.int .i64 p0.fQuiet), .t (.int .i64 p0.fMan.fGen), .t (.int .i64 p0.fMan.fSize), .t (.int .i64 p0.fMan.fLen), .ext false (.sl 2 (p0.fMan.fSums.map Sum.enc)), .t (.int .i64 p0.fBld.fHave), .ext false (.sl 1 (p0.fBld.fBuf.map (eInt .u8))), .t (.int .i64 p0.fPhase), .ext false (.sl 5 (p0.fKids.map Kid.enc)), .t (.int .i64 p0.fDrops)]), (2, [.t (.bool false), .t (.int .i64 0), .t (.int .i64 0), .t (.int .i64 0), .t (.int .i64 0), .t (.int .i64 0), .nil, .t (.int .i64 0), .nil, .t (.int .i64 0), .nil, .t (.int .i64 0)]), (3, [.t (.bool p0.fOn), .t (.int .i64 p0.fBoss), .t (.int .i64 p0.fQuiet), .t (.int .i64 r1.fGen), .t (.int .i64 r1.fSize), .t (.int .i64 r1.fLen), .own 983043, .t (.int .i64 r2.fHave), .own 1245185, .t (.int .i64 0), .nil, .t (.int .i64 0)])], [(983043, .live 184 2 (r1.fSums.map Sum.enc)), (1245185, .live 5 1 (r2.fBuf.map (eInt .u8)))]⟩ ?_
  refine Wp.srg [] [] ?_
  refine Runs.alln ?_
  refine Wp.fg ⟨[(1, .obj 1 0), (2, .obj 2 0), (3, .obj 3 0)], [(1, [.t (.bool p0.fOn), .t (.int .i64 p0.fBoss), .t (.int .i64 p0.fQuiet), .t (.int .i64 p0.fMan.fGen), .t (.int .i64 p0.fMan.fSize), .t (.int .i64 p0.fMan.fLen), .ext false (.sl 2 (p0.fMan.fSums.map Sum.enc)), .t (.int .i64 p0.fBld.fHave), .ext false (.sl 1 (p0.fBld.fBuf.map (eInt .u8))), .t (.int .i64 p0.fPhase), .ext false (.sl 5 (p0.fKids.map Kid.enc)), .t (.int .i64 p0.fDrops)]), (2, [.t (.bool false), .t (.int .i64 0), .t (.int .i64 0), .t (.int .i64 0), .t (.int .i64 0), .t (.int .i64 0), .nil, .t (.int .i64 0), .nil, .t (.int .i64 0), .nil, .t (.int .i64 0)]), (3, [.t (.bool p0.fOn), .t (.int .i64 p0.fBoss), .t (.int .i64 p0.fQuiet), .t (.int .i64 r1.fGen), .t (.int .i64 r1.fSize), .t (.int .i64 r1.fLen), .own 983043, .t (.int .i64 r2.fHave), .own 1245185, .t (.int .i64 p0.fPhase), .nil, .t (.int .i64 0)])], [(983043, .live 184 2 (r1.fSums.map Sum.enc)), (1245185, .live 5 1 (r2.fBuf.map (eInt .u8)))]⟩ ?_
  refine Wp.srg [] [] ?_
  refine Runs.batch 2 kr ?_
  obtain ⟨r3, e_r3, h⟩ := bind_some h
  refine Runs.callDK 26 142 [] [.ext false (.sl 5 (p0.fKids.map Kid.enc))] [.one (.t (.sl 5 (p0.fKids.map Kid.enc)))] (.one (.ow 175 5 (r3.map Kid.enc))) rfl rfl kr kr kr kr kr (laws_toKidS_okd u p0.fKids r3 e_r3) kr ?_
  refine Runs.alln ?_
  refine Wp.fg ⟨[(1, .obj 1 0), (2, .obj 2 0), (3, .obj 3 0)], [(1, [.t (.bool p0.fOn), .t (.int .i64 p0.fBoss), .t (.int .i64 p0.fQuiet), .t (.int .i64 p0.fMan.fGen), .t (.int .i64 p0.fMan.fSize), .t (.int .i64 p0.fMan.fLen), .ext false (.sl 2 (p0.fMan.fSums.map Sum.enc)), .t (.int .i64 p0.fBld.fHave), .ext false (.sl 1 (p0.fBld.fBuf.map (eInt .u8))), .t (.int .i64 p0.fPhase), .ext false (.sl 5 (p0.fKids.map Kid.enc)), .t (.int .i64 p0.fDrops)]), (2, [.t (.bool false), .t (.int .i64 0), .t (.int .i64 0), .t (.int .i64 0), .t (.int .i64 0), .t (.int .i64 0), .nil, .t (.int .i64 0), .nil, .t (.int .i64 0), .nil, .t (.int .i64 0)]), (3, [.t (.bool p0.fOn), .t (.int .i64 p0.fBoss), .t (.int .i64 p0.fQuiet), .t (.int .i64 r1.fGen), .t (.int .i64 r1.fSize), .t (.int .i64 r1.fLen), .own 983043, .t (.int .i64 r2.fHave), .own 1245185, .t (.int .i64 p0.fPhase), .own 1703936, .t (.int .i64 0)])], [(983043, .live 184 2 (r1.fSums.map Sum.enc)), (1245185, .live 5 1 (r2.fBuf.map (eInt .u8))), (1703936, .live 175 5 (r3.map Kid.enc))]⟩ ?_
  refine Wp.srg [] [] ?_
  refine Runs.alln ?_
  refine Wp.fg ⟨[(2, .obj 2 0), (3, .obj 3 0)], [(2, [.t (.bool false), .t (.int .i64 0), .t (.int .i64 0), .t (.int .i64 0), .t (.int .i64 0), .t (.int .i64 0), .nil, .t (.int .i64 0), .nil, .t (.int .i64 0), .nil, .t (.int .i64 0)]), (3, [.t (.bool p0.fOn), .t (.int .i64 p0.fBoss), .t (.int .i64 p0.fQuiet), .t (.int .i64 r1.fGen), .t (.int .i64 r1.fSize), .t (.int .i64 r1.fLen), .own 983043, .t (.int .i64 r2.fHave), .own 1245185, .t (.int .i64 p0.fPhase), .own 1703936, .t (.int .i64 p0.fDrops)])], [(983043, .live 184 2 (r1.fSums.map Sum.enc)), (1245185, .live 5 1 (r2.fBuf.map (eInt .u8))), (1703936, .live 175 5 (r3.map Kid.enc))]⟩ ?_
  refine Wp.srg [] [] ?_
  refine Runs.alln ?_
  refine Wp.fg ⟨[(2, .obj 2 0)], [(2, [.t (.bool p0.fOn), .t (.int .i64 p0.fBoss), .t (.int .i64 p0.fQuiet), .t (.int .i64 r1.fGen), .t (.int .i64 r1.fSize), .t (.int .i64 r1.fLen), .own 983043, .t (.int .i64 r2.fHave), .own 1245185, .t (.int .i64 p0.fPhase), .own 1703936, .t (.int .i64 p0.fDrops)])], [(983043, .live 184 2 (r1.fSums.map Sum.enc)), (1245185, .live 5 1 (r2.fBuf.map (eInt .u8))), (1703936, .live 175 5 (r3.map Kid.enc))]⟩ ?_
  refine Wp.ret ?_
  obtain rfl := Option.some.inj h
  exact RetK [.agg [.t (.bool p0.fOn), .t (.int .i64 p0.fBoss), .t (.int .i64 p0.fQuiet), .t (.int .i64 r1.fGen), .t (.int .i64 r1.fSize), .t (.int .i64 r1.fLen), .own 983043, .t (.int .i64 r2.fHave), .own 1245185, .t (.int .i64 p0.fPhase), .own 1703936, .t (.int .i64 p0.fDrops)]] _ [] kr kr (.refl _) .nil
theorem laws_toNodeS_okd (u : Nat) (p0 : List Node) (r : (List Node)) (h : laws_toNodeS u p0 = some r) : DOK Tryz.prog 48 [.one (.t (.sl 12 (p0.map Node.enc)))] (.one (.ow 97 12 (r.map Node.enc))) := by
  unfold laws_toNodeS at h
  refine DOK.of_bodyK (fn := Tryz.f48) (m := true) kr rfl kr kr kr ?_
  refine Wp.srg [] [] ?_
  refine Runs.alln ?_
  refine Wp.fg ⟨[(0, .ext false (.sl 12 (p0.map Node.enc))), (2, .nil)], [], []⟩ ?_
  refine Wp.srg [] [] ?_
  refine Runs.batch 1 kr ?_
  refine Runs.lenX (e := 121) Node.enc p0 false 12 rfl rfl rfl kr kr kr kr ?_
  obtain ⟨_, e_1, h⟩ := bind_some h
  obtain ⟨_, e_2, h⟩ := bind_some h
  refine Runs.mkS Node.enc ((Node.mk false 0 0 ((Manifest.mk 0 0 0 ([]))) ((Build.mk 0 ([]))) 0 ([]) 0) : Node) 7 97 12 144 ((p0.length : Int)) ((p0.length : Int)) rfl rfl kr kr kr kr kr kr (chk_some e_1) (of_decide_eq_true (chk_some e_2)) kr ?_
  refine Runs.alln ?_
  refine Wp.fg ⟨[(0, .ext false (.sl 12 (p0.map Node.enc))), (2, .nil), (3, .own 458752)], [], [(458752, .live 97 12 ((List.replicate (Int.toNat ((p0.length : Int))) ((Node.mk false 0 0 ((Manifest.mk 0 0 0 ([]))) ((Build.mk 0 ([]))) 0 ([]) 0) : Node)).map Node.enc))]⟩ ?_
  refine Wp.seqJ (α := (List Node)) (fun a => ⟨[(2, .nil), (3, .own 196609)], [], [(196609, .live 97 12 (a.map Node.enc))]⟩) (fun a => laws_toNodeS_j1 u a = some r) ?_ ?_
  · rintro x12 h
    change laws_toNodeS_j1 u x12 = some r at h
    unfold laws_toNodeS_j1 at h
    refine Wp.srg [] [] ?_
    refine Runs.alln ?_
    refine Wp.fg ⟨[(2, .own 196609)], [], [(196609, .live 97 12 (x12.map Node.enc))]⟩ ?_
    refine Wp.ret ?_
    obtain rfl := Option.some.inj h
    exact RetK [.own 196609] _ [] kr kr (.refl _) .nil
  · refine Wp.srg [] [] ?_
    refine Runs.alln ?_
    refine Wp.fg ⟨[(0, .ext false (.sl 12 (p0.map Node.enc))), (2, .nil), (3, .own 458752), (4, .t (.int .i64 0))], [], [(458752, .live 97 12 ((List.replicate (Int.toNat ((p0.length : Int))) ((Node.mk false 0 0 ((Manifest.mk 0 0 0 ([]))) ((Build.mk 0 ([]))) 0 ([]) 0) : Node)).map Node.enc))]⟩ ?_
    refine Wp.block ?_
    refine Wp.loopF (α := (List Node) × (List Node) × Int) (fun a => ⟨[(0, .ext false (.sl 12 (a.1.map Node.enc))), (2, .nil), (3, .own 196609), (4, .t (.int .i64 a.2.2))], [], [(196609, .live 97 12 (a.2.1.map Node.enc))]⟩) (fun k_laws_toNodeS_l2 a => laws_toNodeS_l2 u k_laws_toNodeS_l2 a.1 a.2.1 a.2.2 = some r) ?_ ?_ u (p0, List.replicate (Int.toNat ((p0.length : Int))) ((Node.mk false 0 0 ((Manifest.mk 0 0 0 ([]))) ((Build.mk 0 ([]))) 0 ([]) 0) : Node), 0) h (Le.of (mo := []) (mr := [(196609, 458752)]) kr kr kr kr)
    · intro a h; unfold laws_toNodeS_l2 at h; cases h
    · rintro k_laws_toNodeS_l2 ⟨p0, x5, x6⟩ h
      change laws_toNodeS_l2 u (k_laws_toNodeS_l2 + 1) p0 x5 x6 = some r at h
      rw [laws_toNodeS_l2] at h
      refine Wp.seq ?_
      refine Wp.srg [] [] ?_
      refine Runs.batch 2 kr ?_
      refine Runs.lenX (e := 121) Node.enc p0 false 12 rfl rfl rfl kr kr kr kr ?_
      refine Runs.alln ?_
      refine Wp.fg ⟨[(0, .ext false (.sl 12 (p0.map Node.enc))), (2, .nil), (3, .own 196609), (4, .t (.int .i64 x6)), (11, .t (.bool (decide (x6 < ((p0.length : Int))))))], [], [(196609, .live 97 12 (x5.map Node.enc))]⟩ ?_
      refine Wp.cond2 (b := decide (x6 < ((p0.length : Int)))) kr (fun hc => ?_) (fun hc => ?_)
      · have h := cond_t h hc
        refine Wp.skip (thenN ?_)
        refine Wp.seq ?_
        refine Wp.block ?_
        refine Wp.rg [] [] ?_
        refine Runs.batch 4 kr ?_
        obtain ⟨y9, e_y9, h⟩ := bind_some h
        refine Runs.idxX (e := 121) (kk := .i64) (sz := 12) Node.enc p0 x6 false rfl kr kr kr kr kr kr e_y9 ?_
        refine Runs.batch 1 kr ?_
        obtain ⟨r10, e_r10, h⟩ := bind_some h
        refine Runs.callDK 20 102 [] [.agg [.t (.bool y9.fOn), .t (.int .i64 y9.fBoss), .t (.int .i64 y9.fQuiet), .t (.int .i64 y9.fMan.fGen), .t (.int .i64 y9.fMan.fSize), .t (.int .i64 y9.fMan.fLen), .ext false (.sl 2 (y9.fMan.fSums.map Sum.enc)), .t (.int .i64 y9.fBld.fHave), .ext false (.sl 1 (y9.fBld.fBuf.map (eInt .u8))), .t (.int .i64 y9.fPhase), .ext false (.sl 5 (y9.fKids.map Kid.enc)), .t (.int .i64 y9.fDrops)]] [.agg ((Node.enc y9).map .t)] (.agg [.t (.bool r10.fOn), .t (.int .i64 r10.fBoss), .t (.int .i64 r10.fQuiet), .t (.int .i64 r10.fMan.fGen), .t (.int .i64 r10.fMan.fSize), .t (.int .i64 r10.fMan.fLen), .ow 184 2 (r10.fMan.fSums.map Sum.enc), .t (.int .i64 r10.fBld.fHave), .ow 5 1 (r10.fBld.fBuf.map (eInt .u8)), .t (.int .i64 r10.fPhase), .ow 175 5 (r10.fKids.map Kid.enc), .t (.int .i64 r10.fDrops)]) rfl rfl kr kr kr kr kr (laws_toNode_okd u y9 r10 e_r10) kr ?_
        obtain ⟨y11, e_y11, h⟩ := bind_some h
        refine Runs.idxO (e := 97) (e' := 97) (kk := .i64) (sz := 12) Node.enc x5 x6 196609 rfl kr kr kr kr kr kr kr e_y11 ?_
        refine Runs.storeU (e := 97) (sz := 12) (m := 12) Node.enc x5 196609 (Int.toNat x6) 0 r10 (.agg [.t (.bool r10.fOn), .t (.int .i64 r10.fBoss), .t (.int .i64 r10.fQuiet), .t (.int .i64 r10.fMan.fGen), .t (.int .i64 r10.fMan.fSize), .t (.int .i64 r10.fMan.fLen), .own 1310726, .t (.int .i64 r10.fBld.fHave), .own 1310728, .t (.int .i64 r10.fPhase), .own 1310730, .t (.int .i64 r10.fDrops)]) (Node.enc r10) rfl kr kr kr kr kr kr kr kr (idx_some e_y11).2 kr kr ?_
        refine Runs.done ?_
        refine blkN ?_
        refine thenN ?_
        refine Wp.rg [] [] ?_
        refine Runs.alln ?_
        exact ⟨(p0, x5.set (Int.toNat x6) r10, bAdd .i64 x6 1), h, Le.of (mo := []) (mr := []) kr kr kr kr⟩
      have h := cond_f h hc
      refine Wp.exit ?_
      refine thenE ?_
      refine thenE ?_
      refine blkE ?_
      refine thenN ?_
      exact ⟨x5, h, Le.of (mo := []) (mr := []) kr kr kr kr⟩
theorem laws_toRecord_ok (u : Nat) (p0 : Record) (r : Record) (h : laws_toRecord u p0 = some r) : CallOK Tryz.prog 143 [.agg [.t (.int .i64 p0.fGen), .t (.int .i64 p0.fSlot), .t (.int .i64 p0.fLen)]] (.agg [.t (.int .i64 r.fGen), .t (.int .i64 r.fSlot), .t (.int .i64 r.fLen)]) [] := by
  unfold laws_toRecord at h
  refine CallOK.of_bodyK (fn := Tryz.f143) (m := false) [.agg ((Record.enc p0).map .t)] kr rfl kr kr kr kr kr ?_
  refine Wp.srg [] [] ?_
  refine Runs.alln ?_
  refine Wp.fg ⟨[(1, .obj 1 0), (2, .obj 2 0)], [(1, ((Record.enc p0).map .t)), (2, [.t (.int .i64 0), .t (.int .i64 0), .t (.int .i64 0)])], []⟩ ?_
  refine Wp.srg [] [] ?_
  refine Runs.alln ?_
  refine Wp.fg ⟨[(1, .obj 1 0), (2, .obj 2 0), (3, .obj 3 0)], [(1, ((Record.enc p0).map .t)), (2, [.t (.int .i64 0), .t (.int .i64 0), .t (.int .i64 0)]), (3, [.t (.int .i64 0), .t (.int .i64 0), .t (.int .i64 0)])], []⟩ ?_
  refine Wp.srg [] [] ?_
  refine Runs.alln ?_
  refine Wp.fg ⟨[(1, .obj 1 0), (2, .obj 2 0), (3, .obj 3 0)], [(1, ((Record.enc p0).map .t)), (2, [.t (.int .i64 0), .t (.int .i64 0), .t (.int .i64 0)]), (3, [.t (.int .i64 p0.fGen), .t (.int .i64 0), .t (.int .i64 0)])], []⟩ ?_
  refine Wp.srg [] [] ?_
  refine Runs.alln ?_
  refine Wp.fg ⟨[(1, .obj 1 0), (2, .obj 2 0), (3, .obj 3 0)], [(1, ((Record.enc p0).map .t)), (2, [.t (.int .i64 0), .t (.int .i64 0), .t (.int .i64 0)]), (3, [.t (.int .i64 p0.fGen), .t (.int .i64 p0.fSlot), .t (.int .i64 0)])], []⟩ ?_
  refine Wp.srg [] [] ?_
  refine Runs.alln ?_
  refine Wp.fg ⟨[(2, .obj 2 0), (3, .obj 3 0)], [(2, [.t (.int .i64 0), .t (.int .i64 0), .t (.int .i64 0)]), (3, ((Record.enc p0).map .t))], []⟩ ?_
  refine Wp.srg [] [] ?_
  refine Runs.alln ?_
  refine Wp.fg ⟨[(2, .obj 2 0)], [(2, ((Record.enc p0).map .t))], []⟩ ?_
  refine Wp.ret ?_
  obtain rfl := Option.some.inj h
  exact RetK [.agg ((Record.enc p0).map .t)] _ [] kr kr (.refl _) .nil
theorem laws_toPut_okd (u : Nat) (p0 : Put) (r : Put) (h : laws_toPut u p0 = some r) : DOK Tryz.prog 177 [.agg [.t (.int .i64 p0.fWhat), .t (.int .i64 p0.fAt), .t (.sl 1 (p0.fB.map (eInt .u8))), .t (.int .i64 p0.fR.fGen), .t (.int .i64 p0.fR.fSlot), .t (.int .i64 p0.fR.fLen)]] (.agg [.t (.int .i64 r.fWhat), .t (.int .i64 r.fAt), .ow 5 1 (r.fB.map (eInt .u8)), .t (.int .i64 r.fR.fGen), .t (.int .i64 r.fR.fSlot), .t (.int .i64 r.fR.fLen)]) := by
  unfold laws_toPut at h
  refine DOK.of_bodyK (fn := Tryz.f177) (m := true) kr rfl kr kr kr ?_
  refine Wp.srg [] [] ?_
  refine Runs.alln ?_
  refine Wp.fg ⟨[(1, .obj 1 0), (2, .obj 2 0)], [(1, [.t (.int .i64 p0.fWhat), .t (.int .i64 p0.fAt), .ext false (.sl 1 (p0.fB.map (eInt .u8))), .t (.int .i64 p0.fR.fGen), .t (.int .i64 p0.fR.fSlot), .t (.int .i64 p0.fR.fLen)]), (2, [.t (.int .i64 0), .t (.int .i64 0), .nil, .t (.int .i64 0), .t (.int .i64 0), .t (.int .i64 0)])], []⟩ ?_
  refine Wp.srg [] [] ?_
  refine Runs.alln ?_
  refine Wp.fg ⟨[(1, .obj 1 0), (2, .obj 2 0), (3, .obj 3 0)], [(1, [.t (.int .i64 p0.fWhat), .t (.int .i64 p0.fAt), .ext false (.sl 1 (p0.fB.map (eInt .u8))), .t (.int .i64 p0.fR.fGen), .t (.int .i64 p0.fR.fSlot), .t (.int .i64 p0.fR.fLen)]), (2, [.t (.int .i64 0), .t (.int .i64 0), .nil, .t (.int .i64 0), .t (.int .i64 0), .t (.int .i64 0)]), (3, [.t (.int .i64 0), .t (.int .i64 0), .nil, .t (.int .i64 0), .t (.int .i64 0), .t (.int .i64 0)])], []⟩ ?_
  refine Wp.srg [] [] ?_
  refine Runs.alln ?_
  refine Wp.fg ⟨[(1, .obj 1 0), (2, .obj 2 0), (3, .obj 3 0)], [(1, [.t (.int .i64 p0.fWhat), .t (.int .i64 p0.fAt), .ext false (.sl 1 (p0.fB.map (eInt .u8))), .t (.int .i64 p0.fR.fGen), .t (.int .i64 p0.fR.fSlot), .t (.int .i64 p0.fR.fLen)]), (2, [.t (.int .i64 0), .t (.int .i64 0), .nil, .t (.int .i64 0), .t (.int .i64 0), .t (.int .i64 0)]), (3, [.t (.int .i64 p0.fWhat), .t (.int .i64 0), .nil, .t (.int .i64 0), .t (.int .i64 0), .t (.int .i64 0)])], []⟩ ?_
  refine Wp.srg [] [] ?_
  refine Runs.alln ?_
  refine Wp.fg ⟨[(1, .obj 1 0), (2, .obj 2 0), (3, .obj 3 0)], [(1, [.t (.int .i64 p0.fWhat), .t (.int .i64 p0.fAt), .ext false (.sl 1 (p0.fB.map (eInt .u8))), .t (.int .i64 p0.fR.fGen), .t (.int .i64 p0.fR.fSlot), .t (.int .i64 p0.fR.fLen)]), (2, [.t (.int .i64 0), .t (.int .i64 0), .nil, .t (.int .i64 0), .t (.int .i64 0), .t (.int .i64 0)]), (3, [.t (.int .i64 p0.fWhat), .t (.int .i64 p0.fAt), .nil, .t (.int .i64 0), .t (.int .i64 0), .t (.int .i64 0)])], []⟩ ?_
  refine Wp.srg [] [] ?_
  refine Runs.batch 2 kr ?_
  obtain ⟨r1, e_r1, h⟩ := bind_some h
  refine Runs.callDK 12 46 [] [.ext false (.sl 1 (p0.fB.map (eInt .u8)))] [.one (.t (.sl 1 (p0.fB.map (eInt .u8))))] (.one (.ow 5 1 (r1.map (eInt .u8)))) rfl rfl kr kr kr kr kr (laws_toByteS_okd u p0.fB r1 e_r1) kr ?_
  refine Runs.alln ?_
  refine Wp.fg ⟨[(1, .obj 1 0), (2, .obj 2 0), (3, .obj 3 0)], [(1, [.t (.int .i64 p0.fWhat), .t (.int .i64 p0.fAt), .ext false (.sl 1 (p0.fB.map (eInt .u8))), .t (.int .i64 p0.fR.fGen), .t (.int .i64 p0.fR.fSlot), .t (.int .i64 p0.fR.fLen)]), (2, [.t (.int .i64 0), .t (.int .i64 0), .nil, .t (.int .i64 0), .t (.int .i64 0), .t (.int .i64 0)]), (3, [.t (.int .i64 p0.fWhat), .t (.int .i64 p0.fAt), .own 786432, .t (.int .i64 0), .t (.int .i64 0), .t (.int .i64 0)])], [(786432, .live 5 1 (r1.map (eInt .u8)))]⟩ ?_
  refine Wp.srg [] [] ?_
  refine Runs.batch 2 kr ?_
  obtain ⟨r2, e_r2, h⟩ := bind_some h
  refine Runs.callK false 16 143 [] [.agg ((Record.enc p0.fR).map .t)] _ _ _ rfl rfl kr kr kr kr kr (laws_toRecord_ok u p0.fR r2 e_r2) kr ?_
  refine Runs.alln ?_
  refine Wp.fg ⟨[(2, .obj 2 0), (3, .obj 3 0)], [(2, [.t (.int .i64 0), .t (.int .i64 0), .nil, .t (.int .i64 0), .t (.int .i64 0), .t (.int .i64 0)]), (3, [.t (.int .i64 p0.fWhat), .t (.int .i64 p0.fAt), .own 786432, .t (.int .i64 r2.fGen), .t (.int .i64 r2.fSlot), .t (.int .i64 r2.fLen)])], [(786432, .live 5 1 (r1.map (eInt .u8)))]⟩ ?_
  refine Wp.srg [] [] ?_
  refine Runs.alln ?_
  refine Wp.fg ⟨[(2, .obj 2 0)], [(2, [.t (.int .i64 p0.fWhat), .t (.int .i64 p0.fAt), .own 786432, .t (.int .i64 r2.fGen), .t (.int .i64 r2.fSlot), .t (.int .i64 r2.fLen)])], [(786432, .live 5 1 (r1.map (eInt .u8)))]⟩ ?_
  refine Wp.ret ?_
  obtain rfl := Option.some.inj h
  exact RetK [.agg [.t (.int .i64 p0.fWhat), .t (.int .i64 p0.fAt), .own 786432, .t (.int .i64 r2.fGen), .t (.int .i64 r2.fSlot), .t (.int .i64 r2.fLen)]] _ [] kr kr (.refl _) .nil
theorem laws_toPutS_okd (u : Nat) (p0 : List Put) (r : (List Put)) (h : laws_toPutS u p0 = some r) : DOK Tryz.prog 144 [.one (.t (.sl 6 (p0.map Put.enc)))] (.one (.ow 186 6 (r.map Put.enc))) := by
  unfold laws_toPutS at h
  refine DOK.of_bodyK (fn := Tryz.f144) (m := true) kr rfl kr kr kr ?_
  refine Wp.srg [] [] ?_
  refine Runs.alln ?_
  refine Wp.fg ⟨[(0, .ext false (.sl 6 (p0.map Put.enc))), (2, .nil)], [], []⟩ ?_
  refine Wp.srg [] [] ?_
  refine Runs.batch 1 kr ?_
  refine Runs.lenX (e := 193) Put.enc p0 false 6 rfl rfl rfl kr kr kr kr ?_
  obtain ⟨_, e_1, h⟩ := bind_some h
  obtain ⟨_, e_2, h⟩ := bind_some h
  refine Runs.mkS Put.enc ((Put.mk 0 0 ([]) ((Record.mk 0 0 0))) : Put) 7 186 6 64 ((p0.length : Int)) ((p0.length : Int)) rfl rfl kr kr kr kr kr kr (chk_some e_1) (of_decide_eq_true (chk_some e_2)) kr ?_
  refine Runs.alln ?_
  refine Wp.fg ⟨[(0, .ext false (.sl 6 (p0.map Put.enc))), (2, .nil), (3, .own 458752)], [], [(458752, .live 186 6 ((List.replicate (Int.toNat ((p0.length : Int))) ((Put.mk 0 0 ([]) ((Record.mk 0 0 0))) : Put)).map Put.enc))]⟩ ?_
  refine Wp.seqJ (α := (List Put)) (fun a => ⟨[(2, .nil), (3, .own 196609)], [], [(196609, .live 186 6 (a.map Put.enc))]⟩) (fun a => laws_toPutS_j1 u a = some r) ?_ ?_
  · rintro x12 h
    change laws_toPutS_j1 u x12 = some r at h
    unfold laws_toPutS_j1 at h
    refine Wp.srg [] [] ?_
    refine Runs.alln ?_
    refine Wp.fg ⟨[(2, .own 196609)], [], [(196609, .live 186 6 (x12.map Put.enc))]⟩ ?_
    refine Wp.ret ?_
    obtain rfl := Option.some.inj h
    exact RetK [.own 196609] _ [] kr kr (.refl _) .nil
  · refine Wp.srg [] [] ?_
    refine Runs.alln ?_
    refine Wp.fg ⟨[(0, .ext false (.sl 6 (p0.map Put.enc))), (2, .nil), (3, .own 458752), (4, .t (.int .i64 0))], [], [(458752, .live 186 6 ((List.replicate (Int.toNat ((p0.length : Int))) ((Put.mk 0 0 ([]) ((Record.mk 0 0 0))) : Put)).map Put.enc))]⟩ ?_
    refine Wp.block ?_
    refine Wp.loopF (α := (List Put) × (List Put) × Int) (fun a => ⟨[(0, .ext false (.sl 6 (a.1.map Put.enc))), (2, .nil), (3, .own 196609), (4, .t (.int .i64 a.2.2))], [], [(196609, .live 186 6 (a.2.1.map Put.enc))]⟩) (fun k_laws_toPutS_l2 a => laws_toPutS_l2 u k_laws_toPutS_l2 a.1 a.2.1 a.2.2 = some r) ?_ ?_ u (p0, List.replicate (Int.toNat ((p0.length : Int))) ((Put.mk 0 0 ([]) ((Record.mk 0 0 0))) : Put), 0) h (Le.of (mo := []) (mr := [(196609, 458752)]) kr kr kr kr)
    · intro a h; unfold laws_toPutS_l2 at h; cases h
    · rintro k_laws_toPutS_l2 ⟨p0, x5, x6⟩ h
      change laws_toPutS_l2 u (k_laws_toPutS_l2 + 1) p0 x5 x6 = some r at h
      rw [laws_toPutS_l2] at h
      refine Wp.seq ?_
      refine Wp.srg [] [] ?_
      refine Runs.batch 2 kr ?_
      refine Runs.lenX (e := 193) Put.enc p0 false 6 rfl rfl rfl kr kr kr kr ?_
      refine Runs.alln ?_
      refine Wp.fg ⟨[(0, .ext false (.sl 6 (p0.map Put.enc))), (2, .nil), (3, .own 196609), (4, .t (.int .i64 x6)), (11, .t (.bool (decide (x6 < ((p0.length : Int))))))], [], [(196609, .live 186 6 (x5.map Put.enc))]⟩ ?_
      refine Wp.cond2 (b := decide (x6 < ((p0.length : Int)))) kr (fun hc => ?_) (fun hc => ?_)
      · have h := cond_t h hc
        refine Wp.skip (thenN ?_)
        refine Wp.seq ?_
        refine Wp.block ?_
        refine Wp.rg [] [] ?_
        refine Runs.batch 4 kr ?_
        obtain ⟨y9, e_y9, h⟩ := bind_some h
        refine Runs.idxX (e := 193) (kk := .i64) (sz := 6) Put.enc p0 x6 false rfl kr kr kr kr kr kr e_y9 ?_
        refine Runs.batch 1 kr ?_
        obtain ⟨r10, e_r10, h⟩ := bind_some h
        refine Runs.callDK 20 177 [] [.agg [.t (.int .i64 y9.fWhat), .t (.int .i64 y9.fAt), .ext false (.sl 1 (y9.fB.map (eInt .u8))), .t (.int .i64 y9.fR.fGen), .t (.int .i64 y9.fR.fSlot), .t (.int .i64 y9.fR.fLen)]] [.agg ((Put.enc y9).map .t)] (.agg [.t (.int .i64 r10.fWhat), .t (.int .i64 r10.fAt), .ow 5 1 (r10.fB.map (eInt .u8)), .t (.int .i64 r10.fR.fGen), .t (.int .i64 r10.fR.fSlot), .t (.int .i64 r10.fR.fLen)]) rfl rfl kr kr kr kr kr (laws_toPut_okd u y9 r10 e_r10) kr ?_
        obtain ⟨y11, e_y11, h⟩ := bind_some h
        refine Runs.idxO (e := 186) (e' := 186) (kk := .i64) (sz := 6) Put.enc x5 x6 196609 rfl kr kr kr kr kr kr kr e_y11 ?_
        refine Runs.storeU (e := 186) (sz := 6) (m := 6) Put.enc x5 196609 (Int.toNat x6) 0 r10 (.agg [.t (.int .i64 r10.fWhat), .t (.int .i64 r10.fAt), .own 1310722, .t (.int .i64 r10.fR.fGen), .t (.int .i64 r10.fR.fSlot), .t (.int .i64 r10.fR.fLen)]) (Put.enc r10) rfl kr kr kr kr kr kr kr kr (idx_some e_y11).2 kr kr ?_
        refine Runs.done ?_
        refine blkN ?_
        refine thenN ?_
        refine Wp.rg [] [] ?_
        refine Runs.alln ?_
        exact ⟨(p0, x5.set (Int.toNat x6) r10, bAdd .i64 x6 1), h, Le.of (mo := []) (mr := []) kr kr kr kr⟩
      have h := cond_f h hc
      refine Wp.exit ?_
      refine thenE ?_
      refine thenE ?_
      refine blkE ?_
      refine thenN ?_
      exact ⟨x5, h, Le.of (mo := []) (mr := []) kr kr kr kr⟩
theorem laws_toDisk_okd (u : Nat) (p0 : Disk) (r : Disk) (h : laws_toDisk u p0 = some r) : DOK Tryz.prog 103 [.agg [.t (.sl 1 (p0.fA.map (eInt .u8))), .t (.sl 1 (p0.fB.map (eInt .u8))), .t (.int .i64 p0.fR.fGen), .t (.int .i64 p0.fR.fSlot), .t (.int .i64 p0.fR.fLen), .t (.sl 6 (p0.fP.map Put.enc))]] (.agg [.ow 5 1 (r.fA.map (eInt .u8)), .ow 5 1 (r.fB.map (eInt .u8)), .t (.int .i64 r.fR.fGen), .t (.int .i64 r.fR.fSlot), .t (.int .i64 r.fR.fLen), .ow 186 6 (r.fP.map Put.enc)]) := by
  unfold laws_toDisk at h
  refine DOK.of_bodyK (fn := Tryz.f103) (m := true) kr rfl kr kr kr ?_
  refine Wp.srg [] [] ?_
  refine Runs.alln ?_
  refine Wp.fg ⟨[(1, .obj 1 0), (2, .obj 2 0)], [(1, [.ext false (.sl 1 (p0.fA.map (eInt .u8))), .ext false (.sl 1 (p0.fB.map (eInt .u8))), .t (.int .i64 p0.fR.fGen), .t (.int .i64 p0.fR.fSlot), .t (.int .i64 p0.fR.fLen), .ext false (.sl 6 (p0.fP.map Put.enc))]), (2, [.nil, .nil, .t (.int .i64 0), .t (.int .i64 0), .t (.int .i64 0), .nil])], []⟩ ?_
  refine Wp.srg [] [] ?_
  refine Runs.alln ?_
  refine Wp.fg ⟨[(1, .obj 1 0), (2, .obj 2 0), (3, .obj 3 0)], [(1, [.ext false (.sl 1 (p0.fA.map (eInt .u8))), .ext false (.sl 1 (p0.fB.map (eInt .u8))), .t (.int .i64 p0.fR.fGen), .t (.int .i64 p0.fR.fSlot), .t (.int .i64 p0.fR.fLen), .ext false (.sl 6 (p0.fP.map Put.enc))]), (2, [.nil, .nil, .t (.int .i64 0), .t (.int .i64 0), .t (.int .i64 0), .nil]), (3, [.nil, .nil, .t (.int .i64 0), .t (.int .i64 0), .t (.int .i64 0), .nil])], []⟩ ?_
  refine Wp.srg [] [] ?_
  refine Runs.batch 2 kr ?_
  obtain ⟨r1, e_r1, h⟩ := bind_some h
  refine Runs.callDK 6 46 [] [.ext false (.sl 1 (p0.fA.map (eInt .u8)))] [.one (.t (.sl 1 (p0.fA.map (eInt .u8))))] (.one (.ow 5 1 (r1.map (eInt .u8)))) rfl rfl kr kr kr kr kr (laws_toByteS_okd u p0.fA r1 e_r1) kr ?_
  refine Runs.alln ?_
  refine Wp.fg ⟨[(1, .obj 1 0), (2, .obj 2 0), (3, .obj 3 0)], [(1, [.ext false (.sl 1 (p0.fA.map (eInt .u8))), .ext false (.sl 1 (p0.fB.map (eInt .u8))), .t (.int .i64 p0.fR.fGen), .t (.int .i64 p0.fR.fSlot), .t (.int .i64 p0.fR.fLen), .ext false (.sl 6 (p0.fP.map Put.enc))]), (2, [.nil, .nil, .t (.int .i64 0), .t (.int .i64 0), .t (.int .i64 0), .nil]), (3, [.own 393216, .nil, .t (.int .i64 0), .t (.int .i64 0), .t (.int .i64 0), .nil])], [(393216, .live 5 1 (r1.map (eInt .u8)))]⟩ ?_
  refine Wp.srg [] [] ?_
  refine Runs.batch 2 kr ?_
  obtain ⟨r2, e_r2, h⟩ := bind_some h
  refine Runs.callDK 10 46 [] [.ext false (.sl 1 (p0.fB.map (eInt .u8)))] [.one (.t (.sl 1 (p0.fB.map (eInt .u8))))] (.one (.ow 5 1 (r2.map (eInt .u8)))) rfl rfl kr kr kr kr kr (laws_toByteS_okd u p0.fB r2 e_r2) kr ?_
  refine Runs.alln ?_
  refine Wp.fg ⟨[(1, .obj 1 0), (2, .obj 2 0), (3, .obj 3 0)], [(1, [.ext false (.sl 1 (p0.fA.map (eInt .u8))), .ext false (.sl 1 (p0.fB.map (eInt .u8))), .t (.int .i64 p0.fR.fGen), .t (.int .i64 p0.fR.fSlot), .t (.int .i64 p0.fR.fLen), .ext false (.sl 6 (p0.fP.map Put.enc))]), (2, [.nil, .nil, .t (.int .i64 0), .t (.int .i64 0), .t (.int .i64 0), .nil]), (3, [.own 393216, .own 655360, .t (.int .i64 0), .t (.int .i64 0), .t (.int .i64 0), .nil])], [(393216, .live 5 1 (r1.map (eInt .u8))), (655360, .live 5 1 (r2.map (eInt .u8)))]⟩ ?_
  refine Wp.srg [] [] ?_
  refine Runs.batch 2 kr ?_
  obtain ⟨r3, e_r3, h⟩ := bind_some h
  refine Runs.callK false 14 143 [] [.agg ((Record.enc p0.fR).map .t)] _ _ _ rfl rfl kr kr kr kr kr (laws_toRecord_ok u p0.fR r3 e_r3) kr ?_
  refine Runs.alln ?_
  refine Wp.fg ⟨[(1, .obj 1 0), (2, .obj 2 0), (3, .obj 3 0)], [(1, [.ext false (.sl 1 (p0.fA.map (eInt .u8))), .ext false (.sl 1 (p0.fB.map (eInt .u8))), .t (.int .i64 p0.fR.fGen), .t (.int .i64 p0.fR.fSlot), .t (.int .i64 p0.fR.fLen), .ext false (.sl 6 (p0.fP.map Put.enc))]), (2, [.nil, .nil, .t (.int .i64 0), .t (.int .i64 0), .t (.int .i64 0), .nil]), (3, [.own 393216, .own 655360, .t (.int .i64 r3.fGen), .t (.int .i64 r3.fSlot), .t (.int .i64 r3.fLen), .nil])], [(393216, .live 5 1 (r1.map (eInt .u8))), (655360, .live 5 1 (r2.map (eInt .u8)))]⟩ ?_
  refine Wp.srg [] [] ?_
  refine Runs.batch 2 kr ?_
  obtain ⟨r4, e_r4, h⟩ := bind_some h
  refine Runs.callDK 18 144 [] [.ext false (.sl 6 (p0.fP.map Put.enc))] [.one (.t (.sl 6 (p0.fP.map Put.enc)))] (.one (.ow 186 6 (r4.map Put.enc))) rfl rfl kr kr kr kr kr (laws_toPutS_okd u p0.fP r4 e_r4) kr ?_
  refine Runs.alln ?_
  refine Wp.fg ⟨[(2, .obj 2 0), (3, .obj 3 0)], [(2, [.nil, .nil, .t (.int .i64 0), .t (.int .i64 0), .t (.int .i64 0), .nil]), (3, [.own 393216, .own 655360, .t (.int .i64 r3.fGen), .t (.int .i64 r3.fSlot), .t (.int .i64 r3.fLen), .own 1179648])], [(393216, .live 5 1 (r1.map (eInt .u8))), (655360, .live 5 1 (r2.map (eInt .u8))), (1179648, .live 186 6 (r4.map Put.enc))]⟩ ?_
  refine Wp.srg [] [] ?_
  refine Runs.alln ?_
  refine Wp.fg ⟨[(2, .obj 2 0)], [(2, [.own 393216, .own 655360, .t (.int .i64 r3.fGen), .t (.int .i64 r3.fSlot), .t (.int .i64 r3.fLen), .own 1179648])], [(393216, .live 5 1 (r1.map (eInt .u8))), (655360, .live 5 1 (r2.map (eInt .u8))), (1179648, .live 186 6 (r4.map Put.enc))]⟩ ?_
  refine Wp.ret ?_
  obtain rfl := Option.some.inj h
  exact RetK [.agg [.own 393216, .own 655360, .t (.int .i64 r3.fGen), .t (.int .i64 r3.fSlot), .t (.int .i64 r3.fLen), .own 1179648]] _ [] kr kr (.refl _) .nil
theorem laws_toDiskS_okd (u : Nat) (p0 : List Disk) (r : (List Disk)) (h : laws_toDiskS u p0 = some r) : DOK Tryz.prog 49 [.one (.t (.sl 6 (p0.map Disk.enc)))] (.one (.ow 87 6 (r.map Disk.enc))) := by
  unfold laws_toDiskS at h
  refine DOK.of_bodyK (fn := Tryz.f49) (m := true) kr rfl kr kr kr ?_
  refine Wp.srg [] [] ?_
  refine Runs.alln ?_
  refine Wp.fg ⟨[(0, .ext false (.sl 6 (p0.map Disk.enc))), (2, .nil)], [], []⟩ ?_
  refine Wp.srg [] [] ?_
  refine Runs.batch 1 kr ?_
  refine Runs.lenX (e := 126) Disk.enc p0 false 6 rfl rfl rfl kr kr kr kr ?_
  obtain ⟨_, e_1, h⟩ := bind_some h
  obtain ⟨_, e_2, h⟩ := bind_some h
  refine Runs.mkS Disk.enc ((Disk.mk ([]) ([]) ((Record.mk 0 0 0)) ([])) : Disk) 7 87 6 96 ((p0.length : Int)) ((p0.length : Int)) rfl rfl kr kr kr kr kr kr (chk_some e_1) (of_decide_eq_true (chk_some e_2)) kr ?_
  refine Runs.alln ?_
  refine Wp.fg ⟨[(0, .ext false (.sl 6 (p0.map Disk.enc))), (2, .nil), (3, .own 458752)], [], [(458752, .live 87 6 ((List.replicate (Int.toNat ((p0.length : Int))) ((Disk.mk ([]) ([]) ((Record.mk 0 0 0)) ([])) : Disk)).map Disk.enc))]⟩ ?_
  refine Wp.seqJ (α := (List Disk)) (fun a => ⟨[(2, .nil), (3, .own 196609)], [], [(196609, .live 87 6 (a.map Disk.enc))]⟩) (fun a => laws_toDiskS_j1 u a = some r) ?_ ?_
  · rintro x12 h
    change laws_toDiskS_j1 u x12 = some r at h
    unfold laws_toDiskS_j1 at h
    refine Wp.srg [] [] ?_
    refine Runs.alln ?_
    refine Wp.fg ⟨[(2, .own 196609)], [], [(196609, .live 87 6 (x12.map Disk.enc))]⟩ ?_
    refine Wp.ret ?_
    obtain rfl := Option.some.inj h
    exact RetK [.own 196609] _ [] kr kr (.refl _) .nil
  · refine Wp.srg [] [] ?_
    refine Runs.alln ?_
    refine Wp.fg ⟨[(0, .ext false (.sl 6 (p0.map Disk.enc))), (2, .nil), (3, .own 458752), (4, .t (.int .i64 0))], [], [(458752, .live 87 6 ((List.replicate (Int.toNat ((p0.length : Int))) ((Disk.mk ([]) ([]) ((Record.mk 0 0 0)) ([])) : Disk)).map Disk.enc))]⟩ ?_
    refine Wp.block ?_
    refine Wp.loopF (α := (List Disk) × (List Disk) × Int) (fun a => ⟨[(0, .ext false (.sl 6 (a.1.map Disk.enc))), (2, .nil), (3, .own 196609), (4, .t (.int .i64 a.2.2))], [], [(196609, .live 87 6 (a.2.1.map Disk.enc))]⟩) (fun k_laws_toDiskS_l2 a => laws_toDiskS_l2 u k_laws_toDiskS_l2 a.1 a.2.1 a.2.2 = some r) ?_ ?_ u (p0, List.replicate (Int.toNat ((p0.length : Int))) ((Disk.mk ([]) ([]) ((Record.mk 0 0 0)) ([])) : Disk), 0) h (Le.of (mo := []) (mr := [(196609, 458752)]) kr kr kr kr)
    · intro a h; unfold laws_toDiskS_l2 at h; cases h
    · rintro k_laws_toDiskS_l2 ⟨p0, x5, x6⟩ h
      change laws_toDiskS_l2 u (k_laws_toDiskS_l2 + 1) p0 x5 x6 = some r at h
      rw [laws_toDiskS_l2] at h
      refine Wp.seq ?_
      refine Wp.srg [] [] ?_
      refine Runs.batch 2 kr ?_
      refine Runs.lenX (e := 126) Disk.enc p0 false 6 rfl rfl rfl kr kr kr kr ?_
      refine Runs.alln ?_
      refine Wp.fg ⟨[(0, .ext false (.sl 6 (p0.map Disk.enc))), (2, .nil), (3, .own 196609), (4, .t (.int .i64 x6)), (11, .t (.bool (decide (x6 < ((p0.length : Int))))))], [], [(196609, .live 87 6 (x5.map Disk.enc))]⟩ ?_
      refine Wp.cond2 (b := decide (x6 < ((p0.length : Int)))) kr (fun hc => ?_) (fun hc => ?_)
      · have h := cond_t h hc
        refine Wp.skip (thenN ?_)
        refine Wp.seq ?_
        refine Wp.block ?_
        refine Wp.rg [] [] ?_
        refine Runs.batch 4 kr ?_
        obtain ⟨y9, e_y9, h⟩ := bind_some h
        refine Runs.idxX (e := 126) (kk := .i64) (sz := 6) Disk.enc p0 x6 false rfl kr kr kr kr kr kr e_y9 ?_
        refine Runs.batch 1 kr ?_
        obtain ⟨r10, e_r10, h⟩ := bind_some h
        refine Runs.callDK 20 103 [] [.agg [.ext false (.sl 1 (y9.fA.map (eInt .u8))), .ext false (.sl 1 (y9.fB.map (eInt .u8))), .t (.int .i64 y9.fR.fGen), .t (.int .i64 y9.fR.fSlot), .t (.int .i64 y9.fR.fLen), .ext false (.sl 6 (y9.fP.map Put.enc))]] [.agg ((Disk.enc y9).map .t)] (.agg [.ow 5 1 (r10.fA.map (eInt .u8)), .ow 5 1 (r10.fB.map (eInt .u8)), .t (.int .i64 r10.fR.fGen), .t (.int .i64 r10.fR.fSlot), .t (.int .i64 r10.fR.fLen), .ow 186 6 (r10.fP.map Put.enc)]) rfl rfl kr kr kr kr kr (laws_toDisk_okd u y9 r10 e_r10) kr ?_
        obtain ⟨y11, e_y11, h⟩ := bind_some h
        refine Runs.idxO (e := 87) (e' := 87) (kk := .i64) (sz := 6) Disk.enc x5 x6 196609 rfl kr kr kr kr kr kr kr e_y11 ?_
        refine Runs.storeU (e := 87) (sz := 6) (m := 6) Disk.enc x5 196609 (Int.toNat x6) 0 r10 (.agg [.own 1310720, .own 1310721, .t (.int .i64 r10.fR.fGen), .t (.int .i64 r10.fR.fSlot), .t (.int .i64 r10.fR.fLen), .own 1310725]) (Disk.enc r10) rfl kr kr kr kr kr kr kr kr (idx_some e_y11).2 kr kr ?_
        refine Runs.done ?_
        refine blkN ?_
        refine thenN ?_
        refine Wp.rg [] [] ?_
        refine Runs.alln ?_
        exact ⟨(p0, x5.set (Int.toNat x6) r10, bAdd .i64 x6 1), h, Le.of (mo := []) (mr := []) kr kr kr kr⟩
      have h := cond_f h hc
      refine Wp.exit ?_
      refine thenE ?_
      refine thenE ?_
      refine blkE ?_
      refine thenN ?_
      exact ⟨x5, h, Le.of (mo := []) (mr := []) kr kr kr kr⟩
theorem laws_toPacket_okd (u : Nat) (p0 : Packet) (r : Packet) (h : laws_toPacket u p0 = some r) : DOK Tryz.prog 104 [.agg [.t (.int .i64 p0.fFrom), .t (.int .i64 p0.fTo), .t (.sl 1 (p0.fB.map (eInt .u8)))]] (.agg [.t (.int .i64 r.fFrom), .t (.int .i64 r.fTo), .ow 5 1 (r.fB.map (eInt .u8))]) := by
  unfold laws_toPacket at h
  refine DOK.of_bodyK (fn := Tryz.f104) (m := true) kr rfl kr kr kr ?_
  refine Wp.srg [] [] ?_
  refine Runs.alln ?_
  refine Wp.fg ⟨[(1, .obj 1 0), (2, .obj 2 0)], [(1, [.t (.int .i64 p0.fFrom), .t (.int .i64 p0.fTo), .ext false (.sl 1 (p0.fB.map (eInt .u8)))]), (2, [.t (.int .i64 0), .t (.int .i64 0), .nil])], []⟩ ?_
  refine Wp.srg [] [] ?_
  refine Runs.alln ?_
  refine Wp.fg ⟨[(1, .obj 1 0), (2, .obj 2 0), (3, .obj 3 0)], [(1, [.t (.int .i64 p0.fFrom), .t (.int .i64 p0.fTo), .ext false (.sl 1 (p0.fB.map (eInt .u8)))]), (2, [.t (.int .i64 0), .t (.int .i64 0), .nil]), (3, [.t (.int .i64 0), .t (.int .i64 0), .nil])], []⟩ ?_
  refine Wp.srg [] [] ?_
  refine Runs.alln ?_
  refine Wp.fg ⟨[(1, .obj 1 0), (2, .obj 2 0), (3, .obj 3 0)], [(1, [.t (.int .i64 p0.fFrom), .t (.int .i64 p0.fTo), .ext false (.sl 1 (p0.fB.map (eInt .u8)))]), (2, [.t (.int .i64 0), .t (.int .i64 0), .nil]), (3, [.t (.int .i64 p0.fFrom), .t (.int .i64 0), .nil])], []⟩ ?_
  refine Wp.srg [] [] ?_
  refine Runs.alln ?_
  refine Wp.fg ⟨[(1, .obj 1 0), (2, .obj 2 0), (3, .obj 3 0)], [(1, [.t (.int .i64 p0.fFrom), .t (.int .i64 p0.fTo), .ext false (.sl 1 (p0.fB.map (eInt .u8)))]), (2, [.t (.int .i64 0), .t (.int .i64 0), .nil]), (3, [.t (.int .i64 p0.fFrom), .t (.int .i64 p0.fTo), .nil])], []⟩ ?_
  refine Wp.srg [] [] ?_
  refine Runs.batch 2 kr ?_
  obtain ⟨r1, e_r1, h⟩ := bind_some h
  refine Runs.callDK 12 46 [] [.ext false (.sl 1 (p0.fB.map (eInt .u8)))] [.one (.t (.sl 1 (p0.fB.map (eInt .u8))))] (.one (.ow 5 1 (r1.map (eInt .u8)))) rfl rfl kr kr kr kr kr (laws_toByteS_okd u p0.fB r1 e_r1) kr ?_
  refine Runs.alln ?_
  refine Wp.fg ⟨[(2, .obj 2 0), (3, .obj 3 0)], [(2, [.t (.int .i64 0), .t (.int .i64 0), .nil]), (3, [.t (.int .i64 p0.fFrom), .t (.int .i64 p0.fTo), .own 786432])], [(786432, .live 5 1 (r1.map (eInt .u8)))]⟩ ?_
  refine Wp.srg [] [] ?_
  refine Runs.alln ?_
  refine Wp.fg ⟨[(2, .obj 2 0)], [(2, [.t (.int .i64 p0.fFrom), .t (.int .i64 p0.fTo), .own 786432])], [(786432, .live 5 1 (r1.map (eInt .u8)))]⟩ ?_
  refine Wp.ret ?_
  obtain rfl := Option.some.inj h
  exact RetK [.agg [.t (.int .i64 p0.fFrom), .t (.int .i64 p0.fTo), .own 786432]] _ [] kr kr (.refl _) .nil
theorem laws_toPacketS_okd (u : Nat) (p0 : List Packet) (r : (List Packet)) (h : laws_toPacketS u p0 = some r) : DOK Tryz.prog 50 [.one (.t (.sl 3 (p0.map Packet.enc)))] (.one (.ow 134 3 (r.map Packet.enc))) := by
  unfold laws_toPacketS at h
  refine DOK.of_bodyK (fn := Tryz.f50) (m := true) kr rfl kr kr kr ?_
  refine Wp.srg [] [] ?_
  refine Runs.alln ?_
  refine Wp.fg ⟨[(0, .ext false (.sl 3 (p0.map Packet.enc))), (2, .nil)], [], []⟩ ?_
  refine Wp.srg [] [] ?_
  refine Runs.batch 1 kr ?_
  refine Runs.lenX (e := 129) Packet.enc p0 false 3 rfl rfl rfl kr kr kr kr ?_
  obtain ⟨_, e_1, h⟩ := bind_some h
  obtain ⟨_, e_2, h⟩ := bind_some h
  refine Runs.mkS Packet.enc ((Packet.mk 0 0 ([])) : Packet) 7 134 3 40 ((p0.length : Int)) ((p0.length : Int)) rfl rfl kr kr kr kr kr kr (chk_some e_1) (of_decide_eq_true (chk_some e_2)) kr ?_
  refine Runs.alln ?_
  refine Wp.fg ⟨[(0, .ext false (.sl 3 (p0.map Packet.enc))), (2, .nil), (3, .own 458752)], [], [(458752, .live 134 3 ((List.replicate (Int.toNat ((p0.length : Int))) ((Packet.mk 0 0 ([])) : Packet)).map Packet.enc))]⟩ ?_
  refine Wp.seqJ (α := (List Packet)) (fun a => ⟨[(2, .nil), (3, .own 196609)], [], [(196609, .live 134 3 (a.map Packet.enc))]⟩) (fun a => laws_toPacketS_j1 u a = some r) ?_ ?_
  · rintro x12 h
    change laws_toPacketS_j1 u x12 = some r at h
    unfold laws_toPacketS_j1 at h
    refine Wp.srg [] [] ?_
    refine Runs.alln ?_
    refine Wp.fg ⟨[(2, .own 196609)], [], [(196609, .live 134 3 (x12.map Packet.enc))]⟩ ?_
    refine Wp.ret ?_
    obtain rfl := Option.some.inj h
    exact RetK [.own 196609] _ [] kr kr (.refl _) .nil
  · refine Wp.srg [] [] ?_
    refine Runs.alln ?_
    refine Wp.fg ⟨[(0, .ext false (.sl 3 (p0.map Packet.enc))), (2, .nil), (3, .own 458752), (4, .t (.int .i64 0))], [], [(458752, .live 134 3 ((List.replicate (Int.toNat ((p0.length : Int))) ((Packet.mk 0 0 ([])) : Packet)).map Packet.enc))]⟩ ?_
    refine Wp.block ?_
    refine Wp.loopF (α := (List Packet) × (List Packet) × Int) (fun a => ⟨[(0, .ext false (.sl 3 (a.1.map Packet.enc))), (2, .nil), (3, .own 196609), (4, .t (.int .i64 a.2.2))], [], [(196609, .live 134 3 (a.2.1.map Packet.enc))]⟩) (fun k_laws_toPacketS_l2 a => laws_toPacketS_l2 u k_laws_toPacketS_l2 a.1 a.2.1 a.2.2 = some r) ?_ ?_ u (p0, List.replicate (Int.toNat ((p0.length : Int))) ((Packet.mk 0 0 ([])) : Packet), 0) h (Le.of (mo := []) (mr := [(196609, 458752)]) kr kr kr kr)
    · intro a h; unfold laws_toPacketS_l2 at h; cases h
    · rintro k_laws_toPacketS_l2 ⟨p0, x5, x6⟩ h
      change laws_toPacketS_l2 u (k_laws_toPacketS_l2 + 1) p0 x5 x6 = some r at h
      rw [laws_toPacketS_l2] at h
      refine Wp.seq ?_
      refine Wp.srg [] [] ?_
      refine Runs.batch 2 kr ?_
      refine Runs.lenX (e := 129) Packet.enc p0 false 3 rfl rfl rfl kr kr kr kr ?_
      refine Runs.alln ?_
      refine Wp.fg ⟨[(0, .ext false (.sl 3 (p0.map Packet.enc))), (2, .nil), (3, .own 196609), (4, .t (.int .i64 x6)), (11, .t (.bool (decide (x6 < ((p0.length : Int))))))], [], [(196609, .live 134 3 (x5.map Packet.enc))]⟩ ?_
      refine Wp.cond2 (b := decide (x6 < ((p0.length : Int)))) kr (fun hc => ?_) (fun hc => ?_)
      · have h := cond_t h hc
        refine Wp.skip (thenN ?_)
        refine Wp.seq ?_
        refine Wp.block ?_
        refine Wp.rg [] [] ?_
        refine Runs.batch 4 kr ?_
        obtain ⟨y9, e_y9, h⟩ := bind_some h
        refine Runs.idxX (e := 129) (kk := .i64) (sz := 3) Packet.enc p0 x6 false rfl kr kr kr kr kr kr e_y9 ?_
        refine Runs.batch 1 kr ?_
        obtain ⟨r10, e_r10, h⟩ := bind_some h
        refine Runs.callDK 20 104 [] [.agg [.t (.int .i64 y9.fFrom), .t (.int .i64 y9.fTo), .ext false (.sl 1 (y9.fB.map (eInt .u8)))]] [.agg ((Packet.enc y9).map .t)] (.agg [.t (.int .i64 r10.fFrom), .t (.int .i64 r10.fTo), .ow 5 1 (r10.fB.map (eInt .u8))]) rfl rfl kr kr kr kr kr (laws_toPacket_okd u y9 r10 e_r10) kr ?_
        obtain ⟨y11, e_y11, h⟩ := bind_some h
        refine Runs.idxO (e := 134) (e' := 134) (kk := .i64) (sz := 3) Packet.enc x5 x6 196609 rfl kr kr kr kr kr kr kr e_y11 ?_
        refine Runs.storeU (e := 134) (sz := 3) (m := 3) Packet.enc x5 196609 (Int.toNat x6) 0 r10 (.agg [.t (.int .i64 r10.fFrom), .t (.int .i64 r10.fTo), .own 1310722]) (Packet.enc r10) rfl kr kr kr kr kr kr kr kr (idx_some e_y11).2 kr kr ?_
        refine Runs.done ?_
        refine blkN ?_
        refine thenN ?_
        refine Wp.rg [] [] ?_
        refine Runs.alln ?_
        exact ⟨(p0, x5.set (Int.toNat x6) r10, bAdd .i64 x6 1), h, Le.of (mo := []) (mr := []) kr kr kr kr⟩
      have h := cond_f h hc
      refine Wp.exit ?_
      refine thenE ?_
      refine thenE ?_
      refine blkE ?_
      refine thenN ?_
      exact ⟨x5, h, Le.of (mo := []) (mr := []) kr kr kr kr⟩
theorem laws_toSent_ok (u : Nat) (p0 : Sent) (r : Sent) (h : laws_toSent u p0 = some r) : CallOK Tryz.prog 105 [.agg [.t (.int .i64 p0.fFrom), .t (.int .i64 p0.fTo), .t (.int .i64 p0.fI)]] (.agg [.t (.int .i64 r.fFrom), .t (.int .i64 r.fTo), .t (.int .i64 r.fI)]) [] := by
  unfold laws_toSent at h
  refine CallOK.of_bodyK (fn := Tryz.f105) (m := false) [.agg ((Sent.enc p0).map .t)] kr rfl kr kr kr kr kr ?_
  refine Wp.srg [] [] ?_
  refine Runs.alln ?_
  refine Wp.fg ⟨[(1, .obj 1 0), (2, .obj 2 0)], [(1, ((Sent.enc p0).map .t)), (2, [.t (.int .i64 0), .t (.int .i64 0), .t (.int .i64 0)])], []⟩ ?_
  refine Wp.srg [] [] ?_
  refine Runs.alln ?_
  refine Wp.fg ⟨[(1, .obj 1 0), (2, .obj 2 0), (3, .obj 3 0)], [(1, ((Sent.enc p0).map .t)), (2, [.t (.int .i64 0), .t (.int .i64 0), .t (.int .i64 0)]), (3, [.t (.int .i64 0), .t (.int .i64 0), .t (.int .i64 0)])], []⟩ ?_
  refine Wp.srg [] [] ?_
  refine Runs.alln ?_
  refine Wp.fg ⟨[(1, .obj 1 0), (2, .obj 2 0), (3, .obj 3 0)], [(1, ((Sent.enc p0).map .t)), (2, [.t (.int .i64 0), .t (.int .i64 0), .t (.int .i64 0)]), (3, [.t (.int .i64 p0.fFrom), .t (.int .i64 0), .t (.int .i64 0)])], []⟩ ?_
  refine Wp.srg [] [] ?_
  refine Runs.alln ?_
  refine Wp.fg ⟨[(1, .obj 1 0), (2, .obj 2 0), (3, .obj 3 0)], [(1, ((Sent.enc p0).map .t)), (2, [.t (.int .i64 0), .t (.int .i64 0), .t (.int .i64 0)]), (3, [.t (.int .i64 p0.fFrom), .t (.int .i64 p0.fTo), .t (.int .i64 0)])], []⟩ ?_
  refine Wp.srg [] [] ?_
  refine Runs.alln ?_
  refine Wp.fg ⟨[(2, .obj 2 0), (3, .obj 3 0)], [(2, [.t (.int .i64 0), .t (.int .i64 0), .t (.int .i64 0)]), (3, ((Sent.enc p0).map .t))], []⟩ ?_
  refine Wp.srg [] [] ?_
  refine Runs.alln ?_
  refine Wp.fg ⟨[(2, .obj 2 0)], [(2, ((Sent.enc p0).map .t))], []⟩ ?_
  refine Wp.ret ?_
  obtain rfl := Option.some.inj h
  exact RetK [.agg ((Sent.enc p0).map .t)] _ [] kr kr (.refl _) .nil
theorem laws_toSentS_okd (u : Nat) (p0 : List Sent) (r : (List Sent)) (h : laws_toSentS u p0 = some r) : DOK Tryz.prog 51 [.one (.t (.sl 3 (p0.map Sent.enc)))] (.one (.ow 137 3 (r.map Sent.enc))) := by
  unfold laws_toSentS at h
  refine DOK.of_bodyK (fn := Tryz.f51) (m := true) kr rfl kr kr kr ?_
  refine Wp.srg [] [] ?_
  refine Runs.alln ?_
  refine Wp.fg ⟨[(0, .ext false (.sl 3 (p0.map Sent.enc))), (2, .nil)], [], []⟩ ?_
  refine Wp.srg [] [] ?_
  refine Runs.batch 1 kr ?_
  refine Runs.lenX (e := 139) Sent.enc p0 false 3 rfl rfl rfl kr kr kr kr ?_
  obtain ⟨_, e_1, h⟩ := bind_some h
  obtain ⟨_, e_2, h⟩ := bind_some h
  refine Runs.mkS Sent.enc ((Sent.mk 0 0 0) : Sent) 7 137 3 24 ((p0.length : Int)) ((p0.length : Int)) rfl rfl kr kr kr kr kr kr (chk_some e_1) (of_decide_eq_true (chk_some e_2)) kr ?_
  refine Runs.alln ?_
  refine Wp.fg ⟨[(0, .ext false (.sl 3 (p0.map Sent.enc))), (2, .nil), (3, .own 458752)], [], [(458752, .live 137 3 ((List.replicate (Int.toNat ((p0.length : Int))) ((Sent.mk 0 0 0) : Sent)).map Sent.enc))]⟩ ?_
  refine Wp.seqJ (α := (List Sent)) (fun a => ⟨[(2, .nil), (3, .own 196609)], [], [(196609, .live 137 3 (a.map Sent.enc))]⟩) (fun a => laws_toSentS_j1 u a = some r) ?_ ?_
  · rintro x12 h
    change laws_toSentS_j1 u x12 = some r at h
    unfold laws_toSentS_j1 at h
    refine Wp.srg [] [] ?_
    refine Runs.alln ?_
    refine Wp.fg ⟨[(2, .own 196609)], [], [(196609, .live 137 3 (x12.map Sent.enc))]⟩ ?_
    refine Wp.ret ?_
    obtain rfl := Option.some.inj h
    exact RetK [.own 196609] _ [] kr kr (.refl _) .nil
  · refine Wp.srg [] [] ?_
    refine Runs.alln ?_
    refine Wp.fg ⟨[(0, .ext false (.sl 3 (p0.map Sent.enc))), (2, .nil), (3, .own 458752), (4, .t (.int .i64 0))], [], [(458752, .live 137 3 ((List.replicate (Int.toNat ((p0.length : Int))) ((Sent.mk 0 0 0) : Sent)).map Sent.enc))]⟩ ?_
    refine Wp.block ?_
    refine Wp.loopF (α := (List Sent) × (List Sent) × Int) (fun a => ⟨[(0, .ext false (.sl 3 (a.1.map Sent.enc))), (2, .nil), (3, .own 196609), (4, .t (.int .i64 a.2.2))], [], [(196609, .live 137 3 (a.2.1.map Sent.enc))]⟩) (fun k_laws_toSentS_l2 a => laws_toSentS_l2 u k_laws_toSentS_l2 a.1 a.2.1 a.2.2 = some r) ?_ ?_ u (p0, List.replicate (Int.toNat ((p0.length : Int))) ((Sent.mk 0 0 0) : Sent), 0) h (Le.of (mo := []) (mr := [(196609, 458752)]) kr kr kr kr)
    · intro a h; unfold laws_toSentS_l2 at h; cases h
    · rintro k_laws_toSentS_l2 ⟨p0, x5, x6⟩ h
      change laws_toSentS_l2 u (k_laws_toSentS_l2 + 1) p0 x5 x6 = some r at h
      rw [laws_toSentS_l2] at h
      refine Wp.seq ?_
      refine Wp.srg [] [] ?_
      refine Runs.batch 2 kr ?_
      refine Runs.lenX (e := 139) Sent.enc p0 false 3 rfl rfl rfl kr kr kr kr ?_
      refine Runs.alln ?_
      refine Wp.fg ⟨[(0, .ext false (.sl 3 (p0.map Sent.enc))), (2, .nil), (3, .own 196609), (4, .t (.int .i64 x6)), (11, .t (.bool (decide (x6 < ((p0.length : Int))))))], [], [(196609, .live 137 3 (x5.map Sent.enc))]⟩ ?_
      refine Wp.cond2 (b := decide (x6 < ((p0.length : Int)))) kr (fun hc => ?_) (fun hc => ?_)
      · have h := cond_t h hc
        refine Wp.skip (thenN ?_)
        refine Wp.seq ?_
        refine Wp.block ?_
        refine Wp.rg [] [] ?_
        refine Runs.batch 4 kr ?_
        obtain ⟨y9, e_y9, h⟩ := bind_some h
        refine Runs.idxX (e := 139) (kk := .i64) (sz := 3) Sent.enc p0 x6 false rfl kr kr kr kr kr kr e_y9 ?_
        refine Runs.batch 1 kr ?_
        obtain ⟨r10, e_r10, h⟩ := bind_some h
        refine Runs.callK false 20 105 [] [.agg ((Sent.enc y9).map .t)] _ _ _ rfl rfl kr kr kr kr kr (laws_toSent_ok u y9 r10 e_r10) kr ?_
        obtain ⟨y11, e_y11, h⟩ := bind_some h
        refine Runs.idxO (e := 137) (e' := 137) (kk := .i64) (sz := 3) Sent.enc x5 x6 196609 rfl kr kr kr kr kr kr kr e_y11 ?_
        refine Runs.storeT (e := 137) (sz := 3) (m := 3) Sent.enc x5 196609 (Int.toNat x6) 0 r10 (.agg ((Sent.enc r10).map .t)) (Sent.enc r10) rfl kr kr kr kr kr kr kr kr (idx_some e_y11).2 kr kr ?_
        refine Runs.done ?_
        refine blkN ?_
        refine thenN ?_
        refine Wp.rg [] [] ?_
        refine Runs.alln ?_
        exact ⟨(p0, x5.set (Int.toNat x6) r10, bAdd .i64 x6 1), h, Le.of (mo := []) (mr := []) kr kr kr kr⟩
      have h := cond_f h hc
      refine Wp.exit ?_
      refine thenE ?_
      refine thenE ?_
      refine blkE ?_
      refine thenN ?_
      exact ⟨x5, h, Le.of (mo := []) (mr := []) kr kr kr kr⟩
theorem laws_toWorld_okd (u : Nat) (p0 : World) (r : World) (h : laws_toWorld u p0 = some r) : DOK Tryz.prog 14 [.agg [.t (.int .i64 p0.fC.fSize), .t (.int .i64 p0.fC.fWindow), .t (.int .i64 p0.fC.fSuspect), .t (.int .i64 p0.fC.fForget), .t (.sl 1 (p0.fT.fUp.map (eInt .i64))), .t (.sl 1 (p0.fNew.map (eInt .u8))), .t (.sl 1 (p0.fOld.map Image.enc)), .t (.sl 12 (p0.fN.map Node.enc)), .t (.sl 6 (p0.fD.map Disk.enc)), .t (.sl 3 (p0.fNet.map Packet.enc)), .t (.sl 3 (p0.fLog.map Sent.enc)), .t (.int .i64 p0.fLost)]] (.agg [.t (.int .i64 r.fC.fSize), .t (.int .i64 r.fC.fWindow), .t (.int .i64 r.fC.fSuspect), .t (.int .i64 r.fC.fForget), .ow 3 1 (r.fT.fUp.map (eInt .i64)), .ow 5 1 (r.fNew.map (eInt .u8)), .ow 89 1 (r.fOld.map Image.enc), .ow 97 12 (r.fN.map Node.enc), .ow 87 6 (r.fD.map Disk.enc), .ow 134 3 (r.fNet.map Packet.enc), .ow 137 3 (r.fLog.map Sent.enc), .t (.int .i64 r.fLost)]) := by
  unfold laws_toWorld at h
  refine DOK.of_bodyK (fn := Tryz.f14) (m := true) kr rfl kr kr kr ?_
  refine Wp.srg [] [] ?_
  refine Runs.alln ?_
  refine Wp.fg ⟨[(1, .obj 1 0), (2, .obj 2 0)], [(1, [.t (.int .i64 p0.fC.fSize), .t (.int .i64 p0.fC.fWindow), .t (.int .i64 p0.fC.fSuspect), .t (.int .i64 p0.fC.fForget), .ext false (.sl 1 (p0.fT.fUp.map (eInt .i64))), .ext false (.sl 1 (p0.fNew.map (eInt .u8))), .ext false (.sl 1 (p0.fOld.map Image.enc)), .ext false (.sl 12 (p0.fN.map Node.enc)), .ext false (.sl 6 (p0.fD.map Disk.enc)), .ext false (.sl 3 (p0.fNet.map Packet.enc)), .ext false (.sl 3 (p0.fLog.map Sent.enc)), .t (.int .i64 p0.fLost)]), (2, [.t (.int .i64 0), .t (.int .i64 0), .t (.int .i64 0), .t (.int .i64 0), .nil, .nil, .nil, .nil, .nil, .nil, .nil, .t (.int .i64 0)])], []⟩ ?_
  refine Wp.srg [] [] ?_
  refine Runs.alln ?_
  refine Wp.fg ⟨[(1, .obj 1 0), (2, .obj 2 0), (3, .obj 3 0)], [(1, [.t (.int .i64 p0.fC.fSize), .t (.int .i64 p0.fC.fWindow), .t (.int .i64 p0.fC.fSuspect), .t (.int .i64 p0.fC.fForget), .ext false (.sl 1 (p0.fT.fUp.map (eInt .i64))), .ext false (.sl 1 (p0.fNew.map (eInt .u8))), .ext false (.sl 1 (p0.fOld.map Image.enc)), .ext false (.sl 12 (p0.fN.map Node.enc)), .ext false (.sl 6 (p0.fD.map Disk.enc)), .ext false (.sl 3 (p0.fNet.map Packet.enc)), .ext false (.sl 3 (p0.fLog.map Sent.enc)), .t (.int .i64 p0.fLost)]), (2, [.t (.int .i64 0), .t (.int .i64 0), .t (.int .i64 0), .t (.int .i64 0), .nil, .nil, .nil, .nil, .nil, .nil, .nil, .t (.int .i64 0)]), (3, [.t (.int .i64 0), .t (.int .i64 0), .t (.int .i64 0), .t (.int .i64 0), .nil, .nil, .nil, .nil, .nil, .nil, .nil, .t (.int .i64 0)])], []⟩ ?_
  refine Wp.srg [] [] ?_
  refine Runs.batch 2 kr ?_
  obtain ⟨r1, e_r1, h⟩ := bind_some h
  refine Runs.callK false 6 44 [] [.agg ((Conf.enc p0.fC).map .t)] _ _ _ rfl rfl kr kr kr kr kr (laws_toConf_ok u p0.fC r1 e_r1) kr ?_
  refine Runs.alln ?_
  refine Wp.fg ⟨[(1, .obj 1 0), (2, .obj 2 0), (3, .obj 3 0)], [(1, [.t (.int .i64 p0.fC.fSize), .t (.int .i64 p0.fC.fWindow), .t (.int .i64 p0.fC.fSuspect), .t (.int .i64 p0.fC.fForget), .ext false (.sl 1 (p0.fT.fUp.map (eInt .i64))), .ext false (.sl 1 (p0.fNew.map (eInt .u8))), .ext false (.sl 1 (p0.fOld.map Image.enc)), .ext false (.sl 12 (p0.fN.map Node.enc)), .ext false (.sl 6 (p0.fD.map Disk.enc)), .ext false (.sl 3 (p0.fNet.map Packet.enc)), .ext false (.sl 3 (p0.fLog.map Sent.enc)), .t (.int .i64 p0.fLost)]), (2, [.t (.int .i64 0), .t (.int .i64 0), .t (.int .i64 0), .t (.int .i64 0), .nil, .nil, .nil, .nil, .nil, .nil, .nil, .t (.int .i64 0)]), (3, [.t (.int .i64 r1.fSize), .t (.int .i64 r1.fWindow), .t (.int .i64 r1.fSuspect), .t (.int .i64 r1.fForget), .nil, .nil, .nil, .nil, .nil, .nil, .nil, .t (.int .i64 0)])], []⟩ ?_
  refine Wp.srg [] [] ?_
  refine Runs.batch 2 kr ?_
  obtain ⟨r2, e_r2, h⟩ := bind_some h
  refine Runs.callDK 10 45 [] [.agg [.ext false (.sl 1 (p0.fT.fUp.map (eInt .i64)))]] [.agg [.t (.sl 1 (p0.fT.fUp.map (eInt .i64)))]] (.agg [.ow 3 1 (r2.fUp.map (eInt .i64))]) rfl rfl kr kr kr kr kr (laws_toTree_okd u p0.fT r2 e_r2) kr ?_
  refine Runs.alln ?_
  refine Wp.fg ⟨[(1, .obj 1 0), (2, .obj 2 0), (3, .obj 3 0)], [(1, [.t (.int .i64 p0.fC.fSize), .t (.int .i64 p0.fC.fWindow), .t (.int .i64 p0.fC.fSuspect), .t (.int .i64 p0.fC.fForget), .ext false (.sl 1 (p0.fT.fUp.map (eInt .i64))), .ext false (.sl 1 (p0.fNew.map (eInt .u8))), .ext false (.sl 1 (p0.fOld.map Image.enc)), .ext false (.sl 12 (p0.fN.map Node.enc)), .ext false (.sl 6 (p0.fD.map Disk.enc)), .ext false (.sl 3 (p0.fNet.map Packet.enc)), .ext false (.sl 3 (p0.fLog.map Sent.enc)), .t (.int .i64 p0.fLost)]), (2, [.t (.int .i64 0), .t (.int .i64 0), .t (.int .i64 0), .t (.int .i64 0), .nil, .nil, .nil, .nil, .nil, .nil, .nil, .t (.int .i64 0)]), (3, [.t (.int .i64 r1.fSize), .t (.int .i64 r1.fWindow), .t (.int .i64 r1.fSuspect), .t (.int .i64 r1.fForget), .own 655360, .nil, .nil, .nil, .nil, .nil, .nil, .t (.int .i64 0)])], [(655360, .live 3 1 (r2.fUp.map (eInt .i64)))]⟩ ?_
  refine Wp.srg [] [] ?_
  refine Runs.batch 2 kr ?_
  obtain ⟨r3, e_r3, h⟩ := bind_some h
  refine Runs.callDK 14 46 [] [.ext false (.sl 1 (p0.fNew.map (eInt .u8)))] [.one (.t (.sl 1 (p0.fNew.map (eInt .u8))))] (.one (.ow 5 1 (r3.map (eInt .u8)))) rfl rfl kr kr kr kr kr (laws_toByteS_okd u p0.fNew r3 e_r3) kr ?_
  refine Runs.alln ?_
  refine Wp.fg ⟨[(1, .obj 1 0), (2, .obj 2 0), (3, .obj 3 0)], [(1, [.t (.int .i64 p0.fC.fSize), .t (.int .i64 p0.fC.fWindow), .t (.int .i64 p0.fC.fSuspect), .t (.int .i64 p0.fC.fForget), .ext false (.sl 1 (p0.fT.fUp.map (eInt .i64))), .ext false (.sl 1 (p0.fNew.map (eInt .u8))), .ext false (.sl 1 (p0.fOld.map Image.enc)), .ext false (.sl 12 (p0.fN.map Node.enc)), .ext false (.sl 6 (p0.fD.map Disk.enc)), .ext false (.sl 3 (p0.fNet.map Packet.enc)), .ext false (.sl 3 (p0.fLog.map Sent.enc)), .t (.int .i64 p0.fLost)]), (2, [.t (.int .i64 0), .t (.int .i64 0), .t (.int .i64 0), .t (.int .i64 0), .nil, .nil, .nil, .nil, .nil, .nil, .nil, .t (.int .i64 0)]), (3, [.t (.int .i64 r1.fSize), .t (.int .i64 r1.fWindow), .t (.int .i64 r1.fSuspect), .t (.int .i64 r1.fForget), .own 655360, .own 917504, .nil, .nil, .nil, .nil, .nil, .t (.int .i64 0)])], [(655360, .live 3 1 (r2.fUp.map (eInt .i64))), (917504, .live 5 1 (r3.map (eInt .u8)))]⟩ ?_
  refine Wp.srg [] [] ?_
  refine Runs.batch 2 kr ?_
  obtain ⟨r4, e_r4, h⟩ := bind_some h
  refine Runs.callDK 18 47 [] [.ext false (.sl 1 (p0.fOld.map Image.enc))] [.one (.t (.sl 1 (p0.fOld.map Image.enc)))] (.one (.ow 89 1 (r4.map Image.enc))) rfl rfl kr kr kr kr kr (laws_toImageS_okd u p0.fOld r4 e_r4) kr ?_
  refine Runs.alln ?_
  refine Wp.fg ⟨[(1, .obj 1 0), (2, .obj 2 0), (3, .obj 3 0)], [(1, [.t (.int .i64 p0.fC.fSize), .t (.int .i64 p0.fC.fWindow), .t (.int .i64 p0.fC.fSuspect), .t (.int .i64 p0.fC.fForget), .ext false (.sl 1 (p0.fT.fUp.map (eInt .i64))), .ext false (.sl 1 (p0.fNew.map (eInt .u8))), .ext false (.sl 1 (p0.fOld.map Image.enc)), .ext false (.sl 12 (p0.fN.map Node.enc)), .ext false (.sl 6 (p0.fD.map Disk.enc)), .ext false (.sl 3 (p0.fNet.map Packet.enc)), .ext false (.sl 3 (p0.fLog.map Sent.enc)), .t (.int .i64 p0.fLost)]), (2, [.t (.int .i64 0), .t (.int .i64 0), .t (.int .i64 0), .t (.int .i64 0), .nil, .nil, .nil, .nil, .nil, .nil, .nil, .t (.int .i64 0)]), (3, [.t (.int .i64 r1.fSize), .t (.int .i64 r1.fWindow), .t (.int .i64 r1.fSuspect), .t (.int .i64 r1.fForget), .own 655360, .own 917504, .own 1179648, .nil, .nil, .nil, .nil, .t (.int .i64 0)])], [(655360, .live 3 1 (r2.fUp.map (eInt .i64))), (917504, .live 5 1 (r3.map (eInt .u8))), (1179648, .live 89 1 (r4.map Image.enc))]⟩ ?_
  refine Wp.srg [] [] ?_
  refine Runs.batch 2 kr ?_
  obtain ⟨r5, e_r5, h⟩ := bind_some h
  refine Runs.callDK 22 48 [] [.ext false (.sl 12 (p0.fN.map Node.enc))] [.one (.t (.sl 12 (p0.fN.map Node.enc)))] (.one (.ow 97 12 (r5.map Node.enc))) rfl rfl kr kr kr kr kr (laws_toNodeS_okd u p0.fN r5 e_r5) kr ?_
  refine Runs.alln ?_
  refine Wp.fg ⟨[(1, .obj 1 0), (2, .obj 2 0), (3, .obj 3 0)], [(1, [.t (.int .i64 p0.fC.fSize), .t (.int .i64 p0.fC.fWindow), .t (.int .i64 p0.fC.fSuspect), .t (.int .i64 p0.fC.fForget), .ext false (.sl 1 (p0.fT.fUp.map (eInt .i64))), .ext false (.sl 1 (p0.fNew.map (eInt .u8))), .ext false (.sl 1 (p0.fOld.map Image.enc)), .ext false (.sl 12 (p0.fN.map Node.enc)), .ext false (.sl 6 (p0.fD.map Disk.enc)), .ext false (.sl 3 (p0.fNet.map Packet.enc)), .ext false (.sl 3 (p0.fLog.map Sent.enc)), .t (.int .i64 p0.fLost)]), (2, [.t (.int .i64 0), .t (.int .i64 0), .t (.int .i64 0), .t (.int .i64 0), .nil, .nil, .nil, .nil, .nil, .nil, .nil, .t (.int .i64 0)]), (3, [.t (.int .i64 r1.fSize), .t (.int .i64 r1.fWindow), .t (.int .i64 r1.fSuspect), .t (.int .i64 r1.fForget), .own 655360, .own 917504, .own 1179648, .own 1441792, .nil, .nil, .nil, .t (.int .i64 0)])], [(655360, .live 3 1 (r2.fUp.map (eInt .i64))), (917504, .live 5 1 (r3.map (eInt .u8))), (1179648, .live 89 1 (r4.map Image.enc)), (1441792, .live 97 12 (r5.map Node.enc))]⟩ ?_
  refine Wp.srg [] [] ?_
  refine Runs.batch 2 kr ?_
  obtain ⟨r6, e_r6, h⟩ := bind_some h
  refine Runs.callDK 26 49 [] [.ext false (.sl 6 (p0.fD.map Disk.enc))] [.one (.t (.sl 6 (p0.fD.map Disk.enc)))] (.one (.ow 87 6 (r6.map Disk.enc))) rfl rfl kr kr kr kr kr (laws_toDiskS_okd u p0.fD r6 e_r6) kr ?_
  refine Runs.alln ?_
  refine Wp.fg ⟨[(1, .obj 1 0), (2, .obj 2 0), (3, .obj 3 0)], [(1, [.t (.int .i64 p0.fC.fSize), .t (.int .i64 p0.fC.fWindow), .t (.int .i64 p0.fC.fSuspect), .t (.int .i64 p0.fC.fForget), .ext false (.sl 1 (p0.fT.fUp.map (eInt .i64))), .ext false (.sl 1 (p0.fNew.map (eInt .u8))), .ext false (.sl 1 (p0.fOld.map Image.enc)), .ext false (.sl 12 (p0.fN.map Node.enc)), .ext false (.sl 6 (p0.fD.map Disk.enc)), .ext false (.sl 3 (p0.fNet.map Packet.enc)), .ext false (.sl 3 (p0.fLog.map Sent.enc)), .t (.int .i64 p0.fLost)]), (2, [.t (.int .i64 0), .t (.int .i64 0), .t (.int .i64 0), .t (.int .i64 0), .nil, .nil, .nil, .nil, .nil, .nil, .nil, .t (.int .i64 0)]), (3, [.t (.int .i64 r1.fSize), .t (.int .i64 r1.fWindow), .t (.int .i64 r1.fSuspect), .t (.int .i64 r1.fForget), .own 655360, .own 917504, .own 1179648, .own 1441792, .own 1703936, .nil, .nil, .t (.int .i64 0)])], [(655360, .live 3 1 (r2.fUp.map (eInt .i64))), (917504, .live 5 1 (r3.map (eInt .u8))), (1179648, .live 89 1 (r4.map Image.enc)), (1441792, .live 97 12 (r5.map Node.enc)), (1703936, .live 87 6 (r6.map Disk.enc))]⟩ ?_
  refine Wp.srg [] [] ?_
  refine Runs.batch 2 kr ?_
  obtain ⟨r7, e_r7, h⟩ := bind_some h
  refine Runs.callDK 30 50 [] [.ext false (.sl 3 (p0.fNet.map Packet.enc))] [.one (.t (.sl 3 (p0.fNet.map Packet.enc)))] (.one (.ow 134 3 (r7.map Packet.enc))) rfl rfl kr kr kr kr kr (laws_toPacketS_okd u p0.fNet r7 e_r7) kr ?_
  refine Runs.alln ?_
  refine Wp.fg ⟨[(1, .obj 1 0), (2, .obj 2 0), (3, .obj 3 0)], [(1, [.t (.int .i64 p0.fC.fSize), .t (.int .i64 p0.fC.fWindow), .t (.int .i64 p0.fC.fSuspect), .t (.int .i64 p0.fC.fForget), .ext false (.sl 1 (p0.fT.fUp.map (eInt .i64))), .ext false (.sl 1 (p0.fNew.map (eInt .u8))), .ext false (.sl 1 (p0.fOld.map Image.enc)), .ext false (.sl 12 (p0.fN.map Node.enc)), .ext false (.sl 6 (p0.fD.map Disk.enc)), .ext false (.sl 3 (p0.fNet.map Packet.enc)), .ext false (.sl 3 (p0.fLog.map Sent.enc)), .t (.int .i64 p0.fLost)]), (2, [.t (.int .i64 0), .t (.int .i64 0), .t (.int .i64 0), .t (.int .i64 0), .nil, .nil, .nil, .nil, .nil, .nil, .nil, .t (.int .i64 0)]), (3, [.t (.int .i64 r1.fSize), .t (.int .i64 r1.fWindow), .t (.int .i64 r1.fSuspect), .t (.int .i64 r1.fForget), .own 655360, .own 917504, .own 1179648, .own 1441792, .own 1703936, .own 1966080, .nil, .t (.int .i64 0)])], [(655360, .live 3 1 (r2.fUp.map (eInt .i64))), (917504, .live 5 1 (r3.map (eInt .u8))), (1179648, .live 89 1 (r4.map Image.enc)), (1441792, .live 97 12 (r5.map Node.enc)), (1703936, .live 87 6 (r6.map Disk.enc)), (1966080, .live 134 3 (r7.map Packet.enc))]⟩ ?_
  refine Wp.srg [] [] ?_
  refine Runs.batch 2 kr ?_
  obtain ⟨r8, e_r8, h⟩ := bind_some h
  refine Runs.callDK 34 51 [] [.ext false (.sl 3 (p0.fLog.map Sent.enc))] [.one (.t (.sl 3 (p0.fLog.map Sent.enc)))] (.one (.ow 137 3 (r8.map Sent.enc))) rfl rfl kr kr kr kr kr (laws_toSentS_okd u p0.fLog r8 e_r8) kr ?_
  refine Runs.alln ?_
  refine Wp.fg ⟨[(1, .obj 1 0), (2, .obj 2 0), (3, .obj 3 0)], [(1, [.t (.int .i64 p0.fC.fSize), .t (.int .i64 p0.fC.fWindow), .t (.int .i64 p0.fC.fSuspect), .t (.int .i64 p0.fC.fForget), .ext false (.sl 1 (p0.fT.fUp.map (eInt .i64))), .ext false (.sl 1 (p0.fNew.map (eInt .u8))), .ext false (.sl 1 (p0.fOld.map Image.enc)), .ext false (.sl 12 (p0.fN.map Node.enc)), .ext false (.sl 6 (p0.fD.map Disk.enc)), .ext false (.sl 3 (p0.fNet.map Packet.enc)), .ext false (.sl 3 (p0.fLog.map Sent.enc)), .t (.int .i64 p0.fLost)]), (2, [.t (.int .i64 0), .t (.int .i64 0), .t (.int .i64 0), .t (.int .i64 0), .nil, .nil, .nil, .nil, .nil, .nil, .nil, .t (.int .i64 0)]), (3, [.t (.int .i64 r1.fSize), .t (.int .i64 r1.fWindow), .t (.int .i64 r1.fSuspect), .t (.int .i64 r1.fForget), .own 655360, .own 917504, .own 1179648, .own 1441792, .own 1703936, .own 1966080, .own 2228224, .t (.int .i64 0)])], [(655360, .live 3 1 (r2.fUp.map (eInt .i64))), (917504, .live 5 1 (r3.map (eInt .u8))), (1179648, .live 89 1 (r4.map Image.enc)), (1441792, .live 97 12 (r5.map Node.enc)), (1703936, .live 87 6 (r6.map Disk.enc)), (1966080, .live 134 3 (r7.map Packet.enc)), (2228224, .live 137 3 (r8.map Sent.enc))]⟩ ?_
  refine Wp.srg [] [] ?_
  refine Runs.alln ?_
  refine Wp.fg ⟨[(2, .obj 2 0), (3, .obj 3 0)], [(2, [.t (.int .i64 0), .t (.int .i64 0), .t (.int .i64 0), .t (.int .i64 0), .nil, .nil, .nil, .nil, .nil, .nil, .nil, .t (.int .i64 0)]), (3, [.t (.int .i64 r1.fSize), .t (.int .i64 r1.fWindow), .t (.int .i64 r1.fSuspect), .t (.int .i64 r1.fForget), .own 655360, .own 917504, .own 1179648, .own 1441792, .own 1703936, .own 1966080, .own 2228224, .t (.int .i64 p0.fLost)])], [(655360, .live 3 1 (r2.fUp.map (eInt .i64))), (917504, .live 5 1 (r3.map (eInt .u8))), (1179648, .live 89 1 (r4.map Image.enc)), (1441792, .live 97 12 (r5.map Node.enc)), (1703936, .live 87 6 (r6.map Disk.enc)), (1966080, .live 134 3 (r7.map Packet.enc)), (2228224, .live 137 3 (r8.map Sent.enc))]⟩ ?_
  refine Wp.srg [] [] ?_
  refine Runs.alln ?_
  refine Wp.fg ⟨[(2, .obj 2 0)], [(2, [.t (.int .i64 r1.fSize), .t (.int .i64 r1.fWindow), .t (.int .i64 r1.fSuspect), .t (.int .i64 r1.fForget), .own 655360, .own 917504, .own 1179648, .own 1441792, .own 1703936, .own 1966080, .own 2228224, .t (.int .i64 p0.fLost)])], [(655360, .live 3 1 (r2.fUp.map (eInt .i64))), (917504, .live 5 1 (r3.map (eInt .u8))), (1179648, .live 89 1 (r4.map Image.enc)), (1441792, .live 97 12 (r5.map Node.enc)), (1703936, .live 87 6 (r6.map Disk.enc)), (1966080, .live 134 3 (r7.map Packet.enc)), (2228224, .live 137 3 (r8.map Sent.enc))]⟩ ?_
  refine Wp.ret ?_
  obtain rfl := Option.some.inj h
  exact RetK [.agg [.t (.int .i64 r1.fSize), .t (.int .i64 r1.fWindow), .t (.int .i64 r1.fSuspect), .t (.int .i64 r1.fForget), .own 655360, .own 917504, .own 1179648, .own 1441792, .own 1703936, .own 1966080, .own 2228224, .t (.int .i64 p0.fLost)]] _ [] kr kr (.refl _) .nil
theorem spec_l1In_ok (u : Nat) (p0 : Int) (p1 : Int) (p2 : Int) (r : Bool) (h : spec_l1In u p0 p1 p2 = some r) : CallOK Tryz.prog 89 [.one (.t (.int .i64 p0)), .one (.t (.int .i64 p1)), .one (.t (.int .i64 p2))] (.one (.t (.bool r))) [] := by
  unfold spec_l1In at h
  refine CallOK.of_bodyK (fn := Tryz.f89) (m := false) [.t (.int .i64 p0), .t (.int .i64 p1), .t (.int .i64 p2)] kr rfl kr kr kr kr kr ?_
  refine Wp.srg [] [] ?_
  refine Runs.alln ?_
  refine Wp.fg ⟨[(0, .t (.int .i64 p0)), (1, .t (.int .i64 p1)), (2, .t (.int .i64 p2)), (6, .t (.bool false))], [], []⟩ ?_
  refine Wp.srg [] [] ?_
  refine Runs.batch 4 kr ?_
  rcases tf (decide (p0 ≥ p1)) with hc | hc
  · have h := cond_t h hc
    refine Runs.known 10 (v := true) kr hc ?_
    refine Runs.alln ?_
    refine Wp.fg ⟨[(6, .t (.bool (decide (p0 ≤ p2))))], [], []⟩ ?_
    refine Wp.ret ?_
    obtain rfl := Option.some.inj h
    exact RetK [.t (.bool (decide (p0 ≤ p2)))] _ [] kr kr (.refl _) .nil
  have h := cond_f h hc
  refine Runs.known 10 (v := false) kr hc ?_
  refine Runs.alln ?_
  refine Wp.fg ⟨[(6, .t (.bool false))], [], []⟩ ?_
  refine Wp.ret ?_
  obtain rfl := Option.some.inj h
  exact RetK [.t (.bool false)] _ [] kr kr (.refl _) .nil
theorem spec_l9Record_ok (u : Nat) (p0 : Record) (r : Bool) (h : spec_l9Record u p0 = some r) : CallOK Tryz.prog 204 [.agg [.t (.int .i64 p0.fGen), .t (.int .i64 p0.fSlot), .t (.int .i64 p0.fLen)]] (.one (.t (.bool r))) [] := by
  unfold spec_l9Record at h
  refine CallOK.of_bodyK (fn := Tryz.f204) (m := false) [.agg ((Record.enc p0).map .t)] kr rfl kr kr kr kr kr ?_
  refine Wp.srg [] [] ?_
  refine Runs.alln ?_
  refine Wp.fg ⟨[(1, .obj 1 0), (2, .t (.bool false))], [(1, ((Record.enc p0).map .t))], []⟩ ?_
  refine Wp.srg [] [] ?_
  refine Runs.batch 2 kr ?_
  obtain ⟨r1, e_r1, h⟩ := bind_some h
  refine Runs.callK false 5 89 [] [.t (.int .i64 p0.fGen), .t (.int .i64 0), .t (.int .i64 1000000)] _ _ _ rfl rfl kr kr kr kr kr (spec_l1In_ok u p0.fGen 0 1000000 r1 e_r1) kr ?_
  refine Runs.batch 1 kr ?_
  rcases tf (r1) with hc | hc
  · have h := cond_t h hc
    refine Runs.known 6 (v := true) kr hc ?_
    refine Runs.batch 2 kr ?_
    obtain ⟨r2, e_r2, h⟩ := bind_some h
    refine Runs.callK false 9 89 [] [.t (.int .i64 p0.fSlot), .t (.int .i64 0), .t (.int .i64 1)] _ _ _ rfl rfl kr kr kr kr kr (spec_l1In_ok u p0.fSlot 0 1 r2 e_r2) kr ?_
    refine Runs.batch 2 kr ?_
    rcases tf (r2) with hc | hc
    · have h := cond_t h hc
      refine Runs.known 11 (v := true) kr hc ?_
      refine Runs.batch 2 kr ?_
      obtain ⟨r3, e_r3, h⟩ := bind_some h
      refine Runs.callK false 14 89 [] [.t (.int .i64 p0.fLen), .t (.int .i64 0), .t (.int .i64 240)] _ _ _ rfl rfl kr kr kr kr kr (spec_l1In_ok u p0.fLen 0 240 r3 e_r3) kr ?_
      refine Runs.alln ?_
      refine Wp.fg ⟨[(2, .t (.bool r3))], [], []⟩ ?_
      refine Wp.ret ?_
      obtain rfl := Option.some.inj h
      exact RetK [.t (.bool r3)] _ [] kr kr (.refl _) .nil
    have h := cond_f h hc
    refine Runs.known 11 (v := false) kr hc ?_
    refine Runs.alln ?_
    refine Wp.fg ⟨[(2, .t (.bool false))], [], []⟩ ?_
    refine Wp.ret ?_
    obtain rfl := Option.some.inj h
    exact RetK [.t (.bool false)] _ [] kr kr (.refl _) .nil
  have h := cond_f h hc
  refine Runs.known 6 (v := false) kr hc ?_
  refine Runs.alln ?_
  refine Wp.fg ⟨[(2, .t (.bool false))], [], []⟩ ?_
  refine Wp.ret ?_
  obtain rfl := Option.some.inj h
  exact RetK [.t (.bool false)] _ [] kr kr (.refl _) .nil
theorem spec_l9Slot_ok (u : Nat) (p0 : Disk) (p1 : Int) (r : (List Int)) (h : spec_l9Slot u p0 p1 = some r) : CallOK Tryz.prog 182 [.agg [.t (.sl 1 (p0.fA.map (eInt .u8))), .t (.sl 1 (p0.fB.map (eInt .u8))), .t (.int .i64 p0.fR.fGen), .t (.int .i64 p0.fR.fSlot), .t (.int .i64 p0.fR.fLen), .t (.sl 6 (p0.fP.map Put.enc))], .one (.t (.int .i64 p1))] (.one (.t (.sl 1 (r.map (eInt .u8))))) [] := by
  unfold spec_l9Slot at h
  refine CallOK.of_bodyK (fn := Tryz.f182) (m := false) [.agg ((Disk.enc p0).map .t), .t (.int .i64 p1)] kr rfl kr kr kr kr kr ?_
  refine Wp.srg [] [] ?_
  refine Runs.alln ?_
  refine Wp.fg ⟨[(1, .t (.int .i64 p1)), (2, .obj 2 0), (4, .nil)], [(2, ((Disk.enc p0).map .t))], []⟩ ?_
  refine Wp.seq ?_
  refine Wp.srg [] [] ?_
  refine Runs.alln ?_
  refine Wp.fg ⟨[(2, .obj 2 0), (4, .nil), (6, .t (.bool (p1 == 1)))], [(2, ((Disk.enc p0).map .t))], []⟩ ?_
  refine Wp.cond2 (b := p1 == 1) kr (fun hc => ?_) (fun hc => ?_)
  · have h := cond_t h hc
    refine Wp.srg [] [] ?_
    refine Runs.alln ?_
    refine Wp.fg ⟨[(2, .obj 2 0), (4, .t (.sl 1 (p0.fB.map (eInt .u8))))], [(2, ((Disk.enc p0).map .t))], []⟩ ?_
    refine Wp.ret ?_
    refine thenR ?_
    obtain rfl := Option.some.inj h
    exact RetK [.t (.sl 1 (p0.fB.map (eInt .u8)))] _ [] kr kr (.refl _) .nil
  have h := cond_f h hc
  refine Wp.skip (thenN ?_)
  refine Wp.srg [] [] ?_
  refine Runs.alln ?_
  refine Wp.fg ⟨[(4, .t (.sl 1 (p0.fA.map (eInt .u8))))], [], []⟩ ?_
  refine Wp.ret ?_
  obtain rfl := Option.some.inj h
  exact RetK [.t (.sl 1 (p0.fA.map (eInt .u8)))] _ [] kr kr (.refl _) .nil
theorem spec_l9Put_ok (u : Nat) (p0 : Put) (r : Bool) (h : spec_l9Put u p0 = some r) : CallOK Tryz.prog 205 [.agg [.t (.int .i64 p0.fWhat), .t (.int .i64 p0.fAt), .t (.sl 1 (p0.fB.map (eInt .u8))), .t (.int .i64 p0.fR.fGen), .t (.int .i64 p0.fR.fSlot), .t (.int .i64 p0.fR.fLen)]] (.one (.t (.bool r))) [] := by
  unfold spec_l9Put at h
  refine CallOK.of_bodyK (fn := Tryz.f205) (m := false) [.agg ((Put.enc p0).map .t)] kr rfl kr kr kr kr kr ?_
  refine Wp.srg [] [] ?_
  refine Runs.alln ?_
  refine Wp.fg ⟨[(1, .obj 1 0), (2, .t (.bool false))], [(1, ((Put.enc p0).map .t))], []⟩ ?_
  refine Wp.srg [] [] ?_
  refine Runs.alln ?_
  refine Wp.fg ⟨[(1, .obj 1 0), (2, .t (.bool false)), (3, .obj 3 0)], [(1, ((Put.enc p0).map .t)), (3, [.t (.int .i64 0), .t (.int .i64 0), .t (.int .i64 0)])], []⟩ ?_
  refine Wp.seq ?_
  refine Wp.srg [] [] ?_
  refine Runs.alln ?_
  refine Wp.fg ⟨[(1, .obj 1 0), (2, .t (.bool false)), (3, .obj 3 0), (7, .t (.bool (p0.fWhat == 2)))], [(1, ((Put.enc p0).map .t)), (3, [.t (.int .i64 0), .t (.int .i64 0), .t (.int .i64 0)])], []⟩ ?_
  refine Wp.cond2 (b := p0.fWhat == 2) kr (fun hc => ?_) (fun hc => ?_)
  · have h := cond_t h hc
    refine Wp.srg [] [] ?_
    refine Runs.batch 4 kr ?_
    rcases tf (p0.fAt == 0) with hc | hc
    · have h := cond_t h hc
      refine Runs.known 11 (v := true) kr hc ?_
      refine Runs.batch 2 kr ?_
      refine Runs.lenT (y := .t (.sl 1 (p0.fB.map (eInt .u8)))) (e := 5) (eInt .u8) p0.fB 1 rfl rfl rfl kr kr kr kr kr ?_
      refine Runs.batch 3 kr ?_
      rcases tf (((p0.fB.length : Int)) == 0) with hc | hc
      · have h := cond_t h hc
        refine Runs.known 17 (v := true) kr hc ?_
        refine Runs.batch 2 kr ?_
        obtain ⟨r1, e_r1, h⟩ := bind_some h
        refine Runs.callK false 20 204 [] [.agg ((Record.enc p0.fR).map .t)] _ _ _ rfl rfl kr kr kr kr kr (spec_l9Record_ok u p0.fR r1 e_r1) kr ?_
        refine Runs.alln ?_
        refine Wp.fg ⟨[(1, .obj 1 0), (2, .t (.bool r1)), (3, .obj 3 0)], [(1, ((Put.enc p0).map .t)), (3, [.t (.int .i64 0), .t (.int .i64 0), .t (.int .i64 0)])], []⟩ ?_
        refine Wp.ret ?_
        refine thenR ?_
        obtain rfl := Option.some.inj h
        exact RetK [.t (.bool r1)] _ [] kr kr (.refl _) .nil
      have h := cond_f h hc
      refine Runs.known 17 (v := false) kr hc ?_
      refine Runs.alln ?_
      refine Wp.fg ⟨[(1, .obj 1 0), (2, .t (.bool false)), (3, .obj 3 0)], [(1, ((Put.enc p0).map .t)), (3, [.t (.int .i64 0), .t (.int .i64 0), .t (.int .i64 0)])], []⟩ ?_
      refine Wp.ret ?_
      refine thenR ?_
      obtain rfl := Option.some.inj h
      exact RetK [.t (.bool false)] _ [] kr kr (.refl _) .nil
    have h := cond_f h hc
    refine Runs.known 11 (v := false) kr hc ?_
    refine Runs.alln ?_
    refine Wp.fg ⟨[(1, .obj 1 0), (2, .t (.bool false)), (3, .obj 3 0)], [(1, ((Put.enc p0).map .t)), (3, [.t (.int .i64 0), .t (.int .i64 0), .t (.int .i64 0)])], []⟩ ?_
    refine Wp.ret ?_
    refine thenR ?_
    obtain rfl := Option.some.inj h
    exact RetK [.t (.bool false)] _ [] kr kr (.refl _) .nil
  have h := cond_f h hc
  refine Wp.skip (thenN ?_)
  refine Wp.srg [] [] ?_
  refine Runs.batch 2 kr ?_
  obtain ⟨r2, e_r2, h⟩ := bind_some h
  refine Runs.callK false 24 89 [] [.t (.int .i64 p0.fWhat), .t (.int .i64 0), .t (.int .i64 1)] _ _ _ rfl rfl kr kr kr kr kr (spec_l1In_ok u p0.fWhat 0 1 r2 e_r2) kr ?_
  refine Runs.batch 1 kr ?_
  rcases tf (r2) with hc | hc
  · have h := cond_t h hc
    refine Runs.known 25 (v := true) kr hc ?_
    refine Runs.batch 2 kr ?_
    obtain ⟨r3, e_r3, h⟩ := bind_some h
    refine Runs.callK false 28 89 [] [.t (.int .i64 p0.fAt), .t (.int .i64 0), .t (.int .i64 240)] _ _ _ rfl rfl kr kr kr kr kr (spec_l1In_ok u p0.fAt 0 240 r3 e_r3) kr ?_
    refine Runs.batch 2 kr ?_
    rcases tf (r3) with hc | hc
    · have h := cond_t h hc
      refine Runs.known 30 (v := true) kr hc ?_
      refine Runs.batch 2 kr ?_
      refine Runs.lenT (y := .t (.sl 1 (p0.fB.map (eInt .u8)))) (e := 5) (eInt .u8) p0.fB 1 rfl rfl rfl kr kr kr kr kr ?_
      refine Runs.batch 6 kr ?_
      rcases tf (decide (((p0.fB.length : Int)) ≤ (bSub .i64 240 p0.fAt))) with hc | hc
      · have h := cond_t h hc
        refine Runs.known 39 (v := true) kr hc ?_
        refine Runs.alln ?_
        refine Wp.fg ⟨[(2, .t (.bool ([p0.fR.fGen, p0.fR.fSlot, p0.fR.fLen] == [0, 0, 0])))], [], []⟩ ?_
        refine Wp.ret ?_
        obtain rfl := Option.some.inj h
        exact RetK [.t (.bool ([p0.fR.fGen, p0.fR.fSlot, p0.fR.fLen] == [0, 0, 0]))] _ [] kr kr (.refl _) .nil
      have h := cond_f h hc
      refine Runs.known 39 (v := false) kr hc ?_
      refine Runs.alln ?_
      refine Wp.fg ⟨[(2, .t (.bool false))], [], []⟩ ?_
      refine Wp.ret ?_
      obtain rfl := Option.some.inj h
      exact RetK [.t (.bool false)] _ [] kr kr (.refl _) .nil
    have h := cond_f h hc
    refine Runs.known 30 (v := false) kr hc ?_
    refine Runs.alln ?_
    refine Wp.fg ⟨[(2, .t (.bool false))], [], []⟩ ?_
    refine Wp.ret ?_
    obtain rfl := Option.some.inj h
    exact RetK [.t (.bool false)] _ [] kr kr (.refl _) .nil
  have h := cond_f h hc
  refine Runs.known 25 (v := false) kr hc ?_
  refine Runs.alln ?_
  refine Wp.fg ⟨[(2, .t (.bool false))], [], []⟩ ?_
  refine Wp.ret ?_
  obtain rfl := Option.some.inj h
  exact RetK [.t (.bool false)] _ [] kr kr (.refl _) .nil
theorem spec_DiskOk_ok (u : Nat) (p0 : Disk) (r : Bool) (h : spec_DiskOk u p0 = some r) : CallOK Tryz.prog 181 [.agg [.t (.sl 1 (p0.fA.map (eInt .u8))), .t (.sl 1 (p0.fB.map (eInt .u8))), .t (.int .i64 p0.fR.fGen), .t (.int .i64 p0.fR.fSlot), .t (.int .i64 p0.fR.fLen), .t (.sl 6 (p0.fP.map Put.enc))]] (.one (.t (.bool r))) [] := by
  unfold spec_DiskOk at h
  refine CallOK.of_bodyK (fn := Tryz.f181) (m := false) [.agg ((Disk.enc p0).map .t)] kr rfl kr kr kr kr kr ?_
  refine Wp.srg [] [] ?_
  refine Runs.alln ?_
  refine Wp.fg ⟨[(1, .obj 1 0), (2, .t (.bool false))], [(1, ((Disk.enc p0).map .t))], []⟩ ?_
  refine Wp.seq ?_
  refine Wp.seqJ (α := Bool × Disk) (fun a => ⟨[(1, .obj 1 0), (2, .t (.bool false)), (37, .t (.bool a.1))], [(1, ((Disk.enc a.2).map .t))], []⟩) (fun a => spec_DiskOk_j1 u a.1 a.2 = some r) ?_ ?_
  · rintro ⟨x3, p0⟩ h
    change spec_DiskOk_j1 u x3 p0 = some r at h
    unfold spec_DiskOk_j1 at h
    refine Wp.cond2 (b := x3) kr (fun hc => ?_) (fun hc => ?_)
    · have h := cond_t h hc
      refine Wp.srg [] [] ?_
      refine Runs.alln ?_
      refine Wp.fg ⟨[(1, .obj 1 0), (2, .t (.bool false))], [(1, ((Disk.enc p0).map .t))], []⟩ ?_
      refine Wp.ret ?_
      refine thenR ?_
      obtain rfl := Option.some.inj h
      exact RetK [.t (.bool false)] _ [] kr kr (.refl _) .nil
    have h := cond_f h hc
    refine Wp.skip (thenN ?_)
    refine Wp.seqJ (α := Unit) (fun a => ⟨[(2, .t (.bool false))], [], []⟩) (fun a => spec_DiskOk_j2 u = some r) ?_ ?_
    · rintro ⟨⟩ h
      change spec_DiskOk_j2 u = some r at h
      unfold spec_DiskOk_j2 at h
      refine Wp.srg [] [] ?_
      refine Runs.alln ?_
      refine Wp.fg ⟨[(2, .t (.bool true))], [], []⟩ ?_
      refine Wp.ret ?_
      obtain rfl := Option.some.inj h
      exact RetK [.t (.bool true)] _ [] kr kr (.refl _) .nil
    · refine Wp.srg [] [] ?_
      refine Runs.alln ?_
      refine Wp.fg ⟨[(1, .obj 1 0), (2, .t (.bool false)), (3, .t (.int .i64 0))], [(1, ((Disk.enc p0).map .t))], []⟩ ?_
      refine Wp.block ?_
      refine Wp.loopF (α := Int × Disk) (fun a => ⟨[(1, .obj 1 0), (2, .t (.bool false)), (3, .t (.int .i64 a.1))], [(1, ((Disk.enc a.2).map .t))], []⟩) (fun k_spec_DiskOk_l3 a => spec_DiskOk_l3 u k_spec_DiskOk_l3 a.1 a.2 = some r) ?_ ?_ u (0, p0) h (Le.of (mo := []) (mr := []) kr kr kr kr)
      · intro a h; unfold spec_DiskOk_l3 at h; cases h
      · rintro k_spec_DiskOk_l3 ⟨x5, p0⟩ h
        change spec_DiskOk_l3 u (k_spec_DiskOk_l3 + 1) x5 p0 = some r at h
        rw [spec_DiskOk_l3] at h
        refine Wp.seq ?_
        refine Wp.srg [] [] ?_
        refine Runs.batch 3 kr ?_
        refine Runs.lenT (y := .t (.sl 6 (p0.fP.map Put.enc))) (e := 186) Put.enc p0.fP 6 rfl rfl rfl kr kr kr kr kr ?_
        refine Runs.alln ?_
        refine Wp.fg ⟨[(1, .obj 1 0), (2, .t (.bool false)), (3, .t (.int .i64 x5)), (42, .t (.bool (decide (x5 < ((p0.fP.length : Int))))))], [(1, ((Disk.enc p0).map .t))], []⟩ ?_
        refine Wp.cond2 (b := decide (x5 < ((p0.fP.length : Int)))) kr (fun hc => ?_) (fun hc => ?_)
        · have h := cond_t h hc
          refine Wp.skip (thenN ?_)
          refine Wp.seq ?_
          refine Wp.block ?_
          refine Wp.srg [] [] ?_
          refine Runs.batch 3 kr ?_
          obtain ⟨y7, e_y7, h⟩ := bind_some h
          refine Runs.idxT (e := 186) (kk := .i64) (sz := 6) Put.enc p0.fP x5 rfl kr kr kr kr kr kr e_y7 ?_
          refine Runs.batch 1 kr ?_
          obtain ⟨r8, e_r8, h⟩ := bind_some h
          refine Runs.callK false 50 205 [] [.agg ((Put.enc y7).map .t)] _ _ _ rfl rfl kr kr kr kr kr (spec_l9Put_ok u y7 r8 e_r8) kr ?_
          refine Runs.alln ?_
          refine Wp.fg ⟨[(1, .obj 1 0), (2, .t (.bool false)), (3, .t (.int .i64 x5)), (51, .t (.bool (!r8)))], [(1, ((Disk.enc p0).map .t))], []⟩ ?_
          refine Wp.cond2 (b := !r8) kr (fun hc => ?_) (fun hc => ?_)
          · have h := cond_t h hc
            refine Wp.srg [] [] ?_
            refine Runs.alln ?_
            refine Wp.fg ⟨[(1, .obj 1 0), (2, .t (.bool false)), (3, .t (.int .i64 x5))], [(1, ((Disk.enc p0).map .t))], []⟩ ?_
            refine Wp.ret ?_
            refine blkR ?_
            refine thenR ?_
            refine thenR ?_
            refine blkR ?_
            refine thenR ?_
            obtain rfl := Option.some.inj h
            exact RetK [.t (.bool false)] _ [] kr kr (.refl _) .nil
          have h := cond_f h hc
          refine Wp.skip ?_
          refine blkN ?_
          refine thenN ?_
          refine Wp.rg [] [] ?_
          refine Runs.alln ?_
          exact ⟨(bAdd .i64 x5 1, p0), h, Le.of (mo := []) (mr := []) kr kr kr kr⟩
        have h := cond_f h hc
        refine Wp.exit ?_
        refine thenE ?_
        refine thenE ?_
        refine blkE ?_
        refine thenN ?_
        exact ⟨(), h, Le.of (mo := []) (mr := []) kr kr kr kr⟩
  · refine Wp.regionA (pOf []) (rhoOf [(1, .obj 1), (4, .obj 1), (5, .frz), (6, .frz), (7, .frz), (8, .frz), (9, .obj 1), (10, .frz), (11, .frz), (13, .frz), (14, .frz), (15, .obj 1), (16, .frz), (17, .frz), (19, .frz), (20, .frz), (21, .obj 1), (22, .obj 1), (23, .frz), (24, .frz), (25, .obj 1), (26, .obj 1), (27, .frz), (28, .frz), (29, .frz), (31, .frz), (32, .frz), (33, .obj 1), (34, .frz), (35, .frz)]) kr kr ?_
    refine Runs.batch 2 kr ?_
    refine Runs.lenT (y := .t (.sl 1 (p0.fA.map (eInt .u8)))) (e := 5) (eInt .u8) p0.fA 1 rfl rfl rfl kr kr kr kr kr ?_
    refine Runs.batch 2 kr ?_
    rcases tf (decide (((p0.fA.length : Int)) > 240)) with hc | hc
    · have h := cond_t h hc
      refine Runs.known 8 (v := true) kr hc ?_
      refine Runs.alln ?_
      exact ⟨(true, p0), h, Le.of (mo := []) (mr := []) kr kr kr kr⟩
    have h := cond_f h hc
    refine Runs.known 8 (v := false) kr hc ?_
    refine Runs.batch 2 kr ?_
    refine Runs.lenT (y := .t (.sl 1 (p0.fB.map (eInt .u8)))) (e := 5) (eInt .u8) p0.fB 1 rfl rfl rfl kr kr kr kr kr ?_
    refine Runs.batch 3 kr ?_
    rcases tf (decide (((p0.fB.length : Int)) > 240)) with hc | hc
    · have h := cond_t h hc
      refine Runs.known 14 (v := true) kr hc ?_
      refine Runs.alln ?_
      exact ⟨(true, p0), h, Le.of (mo := []) (mr := []) kr kr kr kr⟩
    have h := cond_f h hc
    refine Runs.known 14 (v := false) kr hc ?_
    refine Runs.batch 2 kr ?_
    obtain ⟨r1, e_r1, h⟩ := bind_some h
    refine Runs.callK false 17 204 [] [.agg ((Record.enc p0.fR).map .t)] _ _ _ rfl rfl kr kr kr kr kr (spec_l9Record_ok u p0.fR r1 e_r1) kr ?_
    refine Runs.batch 3 kr ?_
    rcases tf (!r1) with hc | hc
    · have h := cond_t h hc
      refine Runs.known 20 (v := true) kr hc ?_
      refine Runs.alln ?_
      exact ⟨(true, p0), h, Le.of (mo := []) (mr := []) kr kr kr kr⟩
    have h := cond_f h hc
    refine Runs.known 20 (v := false) kr hc ?_
    refine Runs.batch 7 kr ?_
    obtain ⟨r2, e_r2, h⟩ := bind_some h
    refine Runs.callK false 28 182 [] [.agg ((Disk.enc p0).map .t), .t (.int .i64 p0.fR.fSlot)] _ _ _ rfl rfl kr kr kr kr kr (spec_l9Slot_ok u p0 p0.fR.fSlot r2 e_r2) kr ?_
    refine Runs.lenT (y := .t (.sl 1 (r2.map (eInt .u8)))) (e := 5) (eInt .u8) r2 1 rfl rfl rfl kr kr kr kr kr ?_
    refine Runs.batch 3 kr ?_
    rcases tf (decide (p0.fR.fLen > ((r2.length : Int)))) with hc | hc
    · have h := cond_t h hc
      refine Runs.known 32 (v := true) kr hc ?_
      refine Runs.alln ?_
      exact ⟨(true, p0), h, Le.of (mo := []) (mr := []) kr kr kr kr⟩
    have h := cond_f h hc
    refine Runs.known 32 (v := false) kr hc ?_
    refine Runs.batch 2 kr ?_
    refine Runs.lenT (y := .t (.sl 6 (p0.fP.map Put.enc))) (e := 186) Put.enc p0.fP 6 rfl rfl rfl kr kr kr kr kr ?_
    refine Runs.alln ?_
    exact ⟨(decide (((p0.fP.length : Int)) > 200), p0), h, Le.of (mo := []) (mr := []) kr kr kr kr⟩
theorem spec_Recover_ok (u : Nat) (p0 : Disk) (r : Int × (List Int)) (h : spec_Recover u p0 = some r) : CallOK Tryz.prog 152 [.agg [.t (.sl 1 (p0.fA.map (eInt .u8))), .t (.sl 1 (p0.fB.map (eInt .u8))), .t (.int .i64 p0.fR.fGen), .t (.int .i64 p0.fR.fSlot), .t (.int .i64 p0.fR.fLen), .t (.sl 6 (p0.fP.map Put.enc))]] (.tup [.one (.t (.int .i64 r.1)), .one (.ow 5 1 (r.2.map (eInt .u8)))]) [] := by
  unfold spec_Recover at h
  refine CallOK.of_bodyK (fn := Tryz.f152) (m := true) [.agg ((Disk.enc p0).map .t)] kr rfl kr kr kr kr kr ?_
  refine Wp.srg [] [] ?_
  refine Runs.alln ?_
  refine Wp.fg ⟨[(1, .obj 1 0), (2, .t (.int .i64 0)), (3, .nil)], [(1, ((Disk.enc p0).map .t))], []⟩ ?_
  refine Wp.seq ?_
  refine Wp.srg [] [] ?_
  refine Runs.batch 1 kr ?_
  obtain ⟨r1, e_r1, h⟩ := bind_some h
  refine Runs.callK false 5 181 [] [.agg ((Disk.enc p0).map .t)] _ _ _ rfl rfl kr kr kr kr kr (spec_DiskOk_ok u p0 r1 e_r1) kr ?_
  refine Runs.alln ?_
  refine Wp.fg ⟨[(1, .obj 1 0), (2, .t (.int .i64 0)), (3, .nil), (6, .t (.bool (!r1)))], [(1, ((Disk.enc p0).map .t))], []⟩ ?_
  refine Wp.cond2 (b := !r1) kr (fun hc => ?_) (fun hc => ?_)
  · have h := cond_t h hc
    refine Wp.srg [] [] ?_
    refine Runs.alln ?_
    refine Wp.fg ⟨[(1, .obj 1 0), (2, .t (.int .i64 0)), (3, .own 458752)], [(1, ((Disk.enc p0).map .t))], [(458752, .live 5 1 ((([] : List Int)).map (eInt .u8)))]⟩ ?_
    refine Wp.ret ?_
    refine thenR ?_
    obtain rfl := Option.some.inj h
    exact RetK [.t (.int .i64 0), .own 458752] _ [] kr kr (.refl _) .nil
  have h := cond_f h hc
  refine Wp.skip (thenN ?_)
  refine Wp.seq ?_
  refine Wp.regionA (pOf []) (rhoOf [(1, .obj 1), (8, .obj 1), (9, .obj 1), (10, .frz), (11, .own 11), (12, .frz), (13, .obj 1), (14, .obj 1), (15, .frz), (16, .frz), (17, .obj 1), (18, .obj 1), (19, .frz), (20, .frz), (21, .own 21)]) kr kr ?_
  refine Runs.batch 8 kr ?_
  obtain ⟨r2, e_r2, h⟩ := bind_some h
  refine Runs.callK false 16 182 [] [.agg ((Disk.enc p0).map .t), .t (.int .i64 p0.fR.fSlot)] _ _ _ rfl rfl kr kr kr kr kr (spec_l9Slot_ok u p0 p0.fR.fSlot r2 e_r2) kr ?_
  refine Runs.batch 3 kr ?_
  obtain ⟨_, e_3, h⟩ := bind_some h
  refine Runs.subsl (e := 5) (ax := .t (.sl 1 (r2.map (eInt .u8)))) (alo := none) (ahi := (some (.t (.int .i64 p0.fR.fLen)))) (eInt .u8) r2 1 0 p0.fR.fLen rfl kr kr kr kr kr kr kr kr kr kr kr (chk_some e_3) ?_
  obtain ⟨_, e_4, h⟩ := bind_some h
  refine Runs.appT (y := .t (.sl 1 (((r2.take (Int.toNat p0.fR.fLen)).drop (Int.toNat 0)).map (eInt .u8)))) (eInt .u8) 21 1 5 1 1 720896 (([] : List Int)) ((r2.take (Int.toNat p0.fR.fLen)).drop (Int.toNat 0)) rfl rfl rfl rfl kr kr kr kr kr kr (.inl rfl) kr (of_decide_eq_true (chk_some e_4)) kr kr ?_
  refine Runs.alln ?_
  refine Wp.fg ⟨[(2, .t (.int .i64 p0.fR.fGen)), (3, .own 1376256)], [], [(1376256, .live 5 1 (((([] : List Int)) ++ ((r2.take (Int.toNat p0.fR.fLen)).drop (Int.toNat 0))).map (eInt .u8)))]⟩ ?_
  refine Wp.ret ?_
  obtain rfl := Option.some.inj h
  exact RetK [.t (.int .i64 p0.fR.fGen), .own 1376256] _ [] kr kr (.refl _) .nil
theorem spec_SameBytes_ok (u : Nat) (p0 : List Int) (p1 : List Int) (r : Bool) (h : spec_SameBytes u p0 p1 = some r) : CallOK Tryz.prog 153 [.one (.t (.sl 1 (p0.map (eInt .u8)))), .one (.t (.sl 1 (p1.map (eInt .u8))))] (.one (.t (.bool r))) [] := by
  unfold spec_SameBytes at h
  refine CallOK.of_bodyK (fn := Tryz.f153) (m := false) [.t (.sl 1 (p0.map (eInt .u8))), .t (.sl 1 (p1.map (eInt .u8)))] kr rfl kr kr kr kr kr ?_
  refine Wp.srg [] [] ?_
  refine Runs.alln ?_
  refine Wp.fg ⟨[(0, .t (.sl 1 (p0.map (eInt .u8)))), (1, .t (.sl 1 (p1.map (eInt .u8)))), (4, .t (.bool false))], [], []⟩ ?_
  refine Wp.srg [] [] ?_
  refine Runs.batch 1 kr ?_
  refine Runs.bytesStr (y := .t (.sl 1 (p0.map (eInt .u8)))) (e := 5) p0 1 rfl kr kr kr kr kr kr kr ?_
  refine Runs.batch 1 kr ?_
  refine Runs.bytesStr (y := .t (.sl 1 (p1.map (eInt .u8)))) (e := 5) p1 1 rfl kr kr kr kr kr kr kr ?_
  refine Runs.alln ?_
  refine Wp.fg ⟨[(4, .t (.bool ((strOfNums p0).toList == (strOfNums p1).toList)))], [], []⟩ ?_
  refine Wp.ret ?_
  obtain rfl := Option.some.inj h
  exact RetK [.t (.bool ((strOfNums p0).toList == (strOfNums p1).toList))] _ [] kr kr (.refl _) .nil
theorem spec_Holds_ok (u : Nat) (p0 : Disk) (p1 : Int) (p2 : List Int) (r : Bool) (h : spec_Holds u p0 p1 p2 = some r) : CallOK Tryz.prog 113 [.agg [.t (.sl 1 (p0.fA.map (eInt .u8))), .t (.sl 1 (p0.fB.map (eInt .u8))), .t (.int .i64 p0.fR.fGen), .t (.int .i64 p0.fR.fSlot), .t (.int .i64 p0.fR.fLen), .t (.sl 6 (p0.fP.map Put.enc))], .one (.t (.int .i64 p1)), .one (.t (.sl 1 (p2.map (eInt .u8))))] (.one (.t (.bool r))) [] := by
  unfold spec_Holds at h
  refine CallOK.of_bodyK (fn := Tryz.f113) (m := false) [.agg ((Disk.enc p0).map .t), .t (.int .i64 p1), .t (.sl 1 (p2.map (eInt .u8)))] kr rfl kr kr kr kr kr ?_
  refine Wp.srg [] [] ?_
  refine Runs.alln ?_
  refine Wp.fg ⟨[(1, .t (.int .i64 p1)), (2, .t (.sl 1 (p2.map (eInt .u8)))), (3, .obj 3 0), (6, .t (.bool false))], [(3, ((Disk.enc p0).map .t))], []⟩ ?_
  refine Wp.srg [] [] ?_
  refine Runs.batch 1 kr ?_
  obtain ⟨r1, e_r1, h⟩ := bind_some h
  refine Runs.callK false 11 152 [] [.agg ((Disk.enc p0).map .t)] _ _ _ rfl rfl kr kr kr kr kr (spec_Recover_ok u p0 r1 e_r1) kr ?_
  refine Runs.alln ?_
  refine Wp.fg ⟨[(1, .t (.int .i64 p1)), (2, .t (.sl 1 (p2.map (eInt .u8)))), (6, .t (.bool false)), (7, .t (.int .i64 r1.1)), (8, .own 721920)], [], [(721920, .live 5 1 (r1.2.map (eInt .u8)))]⟩ ?_
  refine Wp.srg [] [] ?_
  refine Runs.batch 4 kr ?_
  rcases tf (r1.1 == p1) with hc | hc
  · have h := cond_t h hc
    refine Runs.known 17 (v := true) kr hc ?_
    refine Runs.batch 2 kr ?_
    obtain ⟨r2, e_r2, h⟩ := bind_some h
    refine Runs.callBK 20 153 [] [.own 721920, .t (.sl 1 (p2.map (eInt .u8)))] [.one (.t (.sl 1 (r1.2.map (eInt .u8)))), .one (.t (.sl 1 (p2.map (eInt .u8))))] (.one (.t (.bool r2))) rfl rfl kr kr kr kr kr (spec_SameBytes_ok u r1.2 p2 r2 e_r2) (by simp [V.plain, V.plains, C.plain, T.sc]) kr ?_
    refine Runs.alln ?_
    refine Wp.fg ⟨[(6, .t (.bool r2))], [], []⟩ ?_
    refine Wp.ret ?_
    obtain rfl := Option.some.inj h
    exact RetK [.t (.bool r2)] _ [] kr kr (.refl _) .nil
  have h := cond_f h hc
  refine Runs.known 17 (v := false) kr hc ?_
  refine Runs.alln ?_
  refine Wp.fg ⟨[(6, .t (.bool false))], [], []⟩ ?_
  refine Wp.ret ?_
  obtain rfl := Option.some.inj h
  exact RetK [.t (.bool false)] _ [] kr kr (.refl _) .nil
theorem spec_StateOf_ok (u : Nat) (p0 : World) (p1 : Int) (r : Int) (h : spec_StateOf u p0 p1 = some r) : CallOK Tryz.prog 61 [.agg [.t (.int .i64 p0.fC.fSize), .t (.int .i64 p0.fC.fWindow), .t (.int .i64 p0.fC.fSuspect), .t (.int .i64 p0.fC.fForget), .t (.sl 1 (p0.fT.fUp.map (eInt .i64))), .t (.sl 1 (p0.fNew.map (eInt .u8))), .t (.sl 1 (p0.fOld.map Image.enc)), .t (.sl 12 (p0.fN.map Node.enc)), .t (.sl 6 (p0.fD.map Disk.enc)), .t (.sl 3 (p0.fNet.map Packet.enc)), .t (.sl 3 (p0.fLog.map Sent.enc)), .t (.int .i64 p0.fLost)], .one (.t (.int .i64 p1))] (.one (.t (.int .i64 r))) [] := by
  unfold spec_StateOf at h
  refine CallOK.of_bodyK (fn := Tryz.f61) (m := false) [.agg ((World.enc p0).map .t), .t (.int .i64 p1)] kr rfl kr kr kr kr kr ?_
  refine Wp.srg [] [] ?_
  refine Runs.alln ?_
  refine Wp.fg ⟨[(1, .t (.int .i64 p1)), (2, .obj 2 0), (4, .t (.int .i64 0))], [(2, ((World.enc p0).map .t))], []⟩ ?_
  refine Wp.seq ?_
  refine Wp.seqJ (α := Int × Bool × World) (fun a => ⟨[(1, .t (.int .i64 a.1)), (2, .obj 2 0), (4, .t (.int .i64 0)), (18, .t (.bool a.2.1))], [(2, ((World.enc a.2.2).map .t))], []⟩) (fun a => spec_StateOf_j1 u a.1 a.2.1 a.2.2 = some r) ?_ ?_
  · rintro ⟨p1, x2, p0⟩ h
    change spec_StateOf_j1 u p1 x2 p0 = some r at h
    unfold spec_StateOf_j1 at h
    refine Wp.cond2 (b := x2) kr (fun hc => ?_) (fun hc => ?_)
    · have h := cond_t h hc
      refine Wp.srg [] [] ?_
      refine Runs.alln ?_
      refine Wp.fg ⟨[(1, .t (.int .i64 p1)), (2, .obj 2 0), (4, .t (.int .i64 (-1)))], [(2, ((World.enc p0).map .t))], []⟩ ?_
      refine Wp.ret ?_
      refine thenR ?_
      obtain rfl := Option.some.inj h
      exact RetK [.t (.int .i64 (-1))] _ [] kr kr (.refl _) .nil
    have h := cond_f h hc
    refine Wp.skip (thenN ?_)
    refine Wp.seq ?_
    refine Wp.block ?_
    refine Wp.seq ?_
    refine Wp.regionA (pOf []) (rhoOf [(1, .frz), (2, .obj 2), (20, .obj 2), (21, .frz), (22, .frz), (23, .frz), (24, .frz), (25, .obj 2), (26, .frz), (27, .frz), (28, .frz), (29, .frz), (30, .frz), (31, .frz)]) kr kr ?_
    refine Runs.batch 3 kr ?_
    obtain ⟨y3, e_y3, h⟩ := bind_some h
    refine Runs.idxT (e := 87) (kk := .i64) (sz := 6) Disk.enc p0.fD p1 rfl kr kr kr kr kr kr e_y3 ?_
    refine Runs.batch 4 kr ?_
    obtain ⟨y4, e_y4, h⟩ := bind_some h
    refine Runs.idxT (e := 89) (kk := .i64) (sz := 1) Image.enc p0.fOld p1 rfl kr kr kr kr kr kr e_y4 ?_
    refine Runs.batch 2 kr ?_
    obtain ⟨r5, e_r5, h⟩ := bind_some h
    refine Runs.callK false 31 113 [] [.agg ((Disk.enc y3).map .t), .t (.int .i64 0), .t (.sl 1 (y4.fB.map (eInt .u8)))] _ _ _ rfl rfl kr kr kr kr kr (spec_Holds_ok u y3 0 y4.fB r5 e_r5) kr ?_
    refine Runs.alln ?_
    refine Wp.fg ⟨[(1, .t (.int .i64 p1)), (2, .obj 2 0), (4, .t (.int .i64 0)), (19, .t (.bool r5))], [(2, ((World.enc p0).map .t))], []⟩ ?_
    refine Wp.cond2 (b := r5) kr (fun hc => ?_) (fun hc => ?_)
    · have h := cond_t h hc
      refine Wp.srg [] [] ?_
      refine Runs.alln ?_
      refine Wp.fg ⟨[(4, .t (.int .i64 0))], [], []⟩ ?_
      refine Wp.ret ?_
      refine blkR ?_
      refine thenR ?_
      obtain rfl := Option.some.inj h
      exact RetK [.t (.int .i64 0)] _ [] kr kr (.refl _) .nil
    have h := cond_f h hc
    refine Wp.seq ?_
    refine Wp.regionA (pOf []) (rhoOf [(1, .frz), (2, .obj 2), (33, .obj 2), (34, .frz), (35, .frz), (36, .frz), (37, .frz), (38, .obj 2), (39, .frz), (40, .frz)]) kr kr ?_
    refine Runs.batch 3 kr ?_
    obtain ⟨y6, e_y6, h⟩ := bind_some h
    refine Runs.idxT (e := 87) (kk := .i64) (sz := 6) Disk.enc p0.fD p1 rfl kr kr kr kr kr kr e_y6 ?_
    refine Runs.batch 3 kr ?_
    obtain ⟨r7, e_r7, h⟩ := bind_some h
    refine Runs.callK false 40 113 [] [.agg ((Disk.enc y6).map .t), .t (.int .i64 1), .t (.sl 1 (p0.fNew.map (eInt .u8)))] _ _ _ rfl rfl kr kr kr kr kr (spec_Holds_ok u y6 1 p0.fNew r7 e_r7) kr ?_
    refine Runs.alln ?_
    refine Wp.fg ⟨[(4, .t (.int .i64 0)), (32, .t (.bool r7))], [], []⟩ ?_
    refine Wp.cond2 (b := r7) kr (fun hc => ?_) (fun hc => ?_)
    · have h := cond_t h hc
      refine Wp.srg [] [] ?_
      refine Runs.alln ?_
      refine Wp.fg ⟨[(4, .t (.int .i64 1))], [], []⟩ ?_
      refine Wp.ret ?_
      refine blkR ?_
      refine thenR ?_
      obtain rfl := Option.some.inj h
      exact RetK [.t (.int .i64 1)] _ [] kr kr (.refl _) .nil
    have h := cond_f h hc
    refine Wp.skip ?_
    refine blkN ?_
    refine thenN ?_
    refine Wp.srg [] [] ?_
    refine Runs.alln ?_
    refine Wp.fg ⟨[(4, .t (.int .i64 (-1)))], [], []⟩ ?_
    refine Wp.ret ?_
    obtain rfl := Option.some.inj h
    exact RetK [.t (.int .i64 (-1))] _ [] kr kr (.refl _) .nil
  · refine Wp.rg [] [] ?_
    refine Runs.batch 3 kr ?_
    refine Runs.lenT (y := .t (.sl 6 (p0.fD.map Disk.enc))) (e := 87) Disk.enc p0.fD 6 rfl rfl rfl kr kr kr kr kr ?_
    refine Runs.batch 1 kr ?_
    obtain ⟨r1, e_r1, h⟩ := bind_some h
    refine Runs.callK false 10 89 [] [.t (.int .i64 p1), .t (.int .i64 0), .t (.int .i64 (bSub .i64 ((p0.fD.length : Int)) 1))] _ _ _ rfl rfl kr kr kr kr kr (spec_l1In_ok u p1 0 (bSub .i64 ((p0.fD.length : Int)) 1) r1 e_r1) kr ?_
    refine Runs.batch 2 kr ?_
    rcases tf (!r1) with hc | hc
    · have h := cond_t h hc
      refine Runs.known 12 (v := true) kr hc ?_
      refine Runs.alln ?_
      exact ⟨(p1, true, p0), h, Le.of (mo := []) (mr := []) kr kr kr kr⟩
    have h := cond_f h hc
    refine Runs.known 12 (v := false) kr hc ?_
    refine Runs.batch 3 kr ?_
    refine Runs.lenT (y := .t (.sl 1 (p0.fOld.map Image.enc))) (e := 89) Image.enc p0.fOld 1 rfl rfl rfl kr kr kr kr kr ?_
    refine Runs.alln ?_
    exact ⟨(p1, decide (p1 ≥ ((p0.fOld.length : Int))), p0), h, Le.of (mo := []) (mr := []) kr kr kr kr⟩
theorem spec_LateIn_ok (u : Nat) (p0 : World) (r : (List Int)) (h : spec_LateIn u p0 = some r) : CallOK Tryz.prog 33 [.agg [.t (.int .i64 p0.fC.fSize), .t (.int .i64 p0.fC.fWindow), .t (.int .i64 p0.fC.fSuspect), .t (.int .i64 p0.fC.fForget), .t (.sl 1 (p0.fT.fUp.map (eInt .i64))), .t (.sl 1 (p0.fNew.map (eInt .u8))), .t (.sl 1 (p0.fOld.map Image.enc)), .t (.sl 12 (p0.fN.map Node.enc)), .t (.sl 6 (p0.fD.map Disk.enc)), .t (.sl 3 (p0.fNet.map Packet.enc)), .t (.sl 3 (p0.fLog.map Sent.enc)), .t (.int .i64 p0.fLost)]] (.one (.ow 3 1 (r.map (eInt .i64)))) [] := by
  unfold spec_LateIn at h
  refine CallOK.of_bodyK (fn := Tryz.f33) (m := true) [.agg ((World.enc p0).map .t)] kr rfl kr kr kr kr kr ?_
  refine Wp.srg [] [] ?_
  refine Runs.alln ?_
  refine Wp.fg ⟨[(1, .obj 1 0), (2, .nil)], [(1, ((World.enc p0).map .t))], []⟩ ?_
  refine Wp.srg [] [] ?_
  refine Runs.alln ?_
  refine Wp.fg ⟨[(1, .obj 1 0), (2, .nil), (3, .own 327680)], [(1, ((World.enc p0).map .t))], [(327680, .live 3 1 ((([] : List Int)).map (eInt .i64)))]⟩ ?_
  refine Wp.seqJ (α := (List Int)) (fun a => ⟨[(2, .nil), (3, .own 196609)], [], [(196609, .live 3 1 (a.map (eInt .i64)))]⟩) (fun a => spec_LateIn_j1 u a = some r) ?_ ?_
  · rintro x11 h
    change spec_LateIn_j1 u x11 = some r at h
    unfold spec_LateIn_j1 at h
    refine Wp.srg [] [] ?_
    refine Runs.alln ?_
    refine Wp.fg ⟨[(2, .own 196609)], [], [(196609, .live 3 1 (x11.map (eInt .i64)))]⟩ ?_
    refine Wp.ret ?_
    obtain rfl := Option.some.inj h
    exact RetK [.own 196609] _ [] kr kr (.refl _) .nil
  · refine Wp.srg [] [] ?_
    refine Runs.alln ?_
    refine Wp.fg ⟨[(1, .obj 1 0), (2, .nil), (3, .own 327680), (4, .t (.int .i64 1))], [(1, ((World.enc p0).map .t))], [(327680, .live 3 1 ((([] : List Int)).map (eInt .i64)))]⟩ ?_
    refine Wp.block ?_
    refine Wp.loopF (α := (List Int) × Int × World) (fun a => ⟨[(1, .obj 1 0), (2, .nil), (3, .own 196609), (4, .t (.int .i64 a.2.1))], [(1, ((World.enc a.2.2).map .t))], [(196609, .live 3 1 (a.1.map (eInt .i64)))]⟩) (fun k_spec_LateIn_l2 a => spec_LateIn_l2 u k_spec_LateIn_l2 a.1 a.2.1 a.2.2 = some r) ?_ ?_ u (([] : List Int), 1, p0) h (Le.of (mo := []) (mr := [(196609, 327680)]) kr kr kr kr)
    · intro a h; unfold spec_LateIn_l2 at h; cases h
    · rintro k_spec_LateIn_l2 ⟨x3, x4, p0⟩ h
      change spec_LateIn_l2 u (k_spec_LateIn_l2 + 1) x3 x4 p0 = some r at h
      rw [spec_LateIn_l2] at h
      refine Wp.seq ?_
      refine Wp.srg [] [] ?_
      refine Runs.batch 3 kr ?_
      refine Runs.lenT (y := .t (.sl 12 (p0.fN.map Node.enc))) (e := 97) Node.enc p0.fN 12 rfl rfl rfl kr kr kr kr kr ?_
      refine Runs.alln ?_
      refine Wp.fg ⟨[(1, .obj 1 0), (2, .nil), (3, .own 196609), (4, .t (.int .i64 x4)), (10, .t (.bool (decide (x4 < ((p0.fN.length : Int))))))], [(1, ((World.enc p0).map .t))], [(196609, .live 3 1 (x3.map (eInt .i64)))]⟩ ?_
      refine Wp.cond2 (b := decide (x4 < ((p0.fN.length : Int)))) kr (fun hc => ?_) (fun hc => ?_)
      · have h := cond_t h hc
        refine Wp.skip (thenN ?_)
        refine Wp.seqJ (α := (List Int) × Int × World) (fun a => ⟨[(1, .obj 1 0), (2, .nil), (3, .own 196609), (4, .t (.int .i64 a.2.1))], [(1, ((World.enc a.2.2).map .t))], [(196609, .live 3 1 (a.1.map (eInt .i64)))]⟩) (fun a => spec_LateIn_j3 u (fun z0 z1 z2 => spec_LateIn_l2 u k_spec_LateIn_l2 z0 z1 z2) a.1 a.2.1 a.2.2 = some r) ?_ ?_
        · rintro ⟨x10, x4, p0⟩ h
          change spec_LateIn_j3 u (fun z0 z1 z2 => spec_LateIn_l2 u k_spec_LateIn_l2 z0 z1 z2) x10 x4 p0 = some r at h
          unfold spec_LateIn_j3 at h
          refine Wp.rg [] [] ?_
          refine Runs.alln ?_
          exact ⟨(x10, bAdd .i64 x4 1, p0), h, Le.of (mo := []) (mr := []) kr kr kr kr⟩
        · refine Wp.block ?_
          refine Wp.seqJ (α := (List Int) × Int × Bool × World) (fun a => ⟨[(1, .obj 1 0), (2, .nil), (3, .own 196609), (4, .t (.int .i64 a.2.1)), (24, .t (.bool a.2.2.1))], [(1, ((World.enc a.2.2.2).map .t))], [(196609, .live 3 1 (a.1.map (eInt .i64)))]⟩) (fun a => spec_LateIn_j4 u (fun z0 z1 z2 => spec_LateIn_l2 u k_spec_LateIn_l2 z0 z1 z2) a.1 a.2.1 a.2.2.1 a.2.2.2 = some r) ?_ ?_
          · rintro ⟨x3, x4, x9, p0⟩ h
            change spec_LateIn_j4 u (fun z0 z1 z2 => spec_LateIn_l2 u k_spec_LateIn_l2 z0 z1 z2) x3 x4 x9 p0 = some r at h
            unfold spec_LateIn_j4 at h
            refine Wp.cond2 (b := x9) kr (fun hc => ?_) (fun hc => ?_)
            · have h := cond_t h hc
              refine Wp.rg [] [] ?_
              refine Runs.batch 3 kr ?_
              obtain ⟨_, e_10, h⟩ := bind_some h
              refine Runs.appT (y := .own 1769472) (eInt .i64) 28 1 3 1 8 196609 x3 ([x4]) rfl rfl rfl rfl kr kr kr kr kr kr (.inl rfl) kr (of_decide_eq_true (chk_some e_10)) kr kr ?_
              refine Runs.all kr ?_
              refine blkN ?_
              refine thenN ?_
              exact ⟨(x3 ++ ([x4]), x4, p0), h, Le.of (mo := []) (mr := [(196609, 1835008)]) kr kr kr kr⟩
            have h := cond_f h hc
            refine Wp.skip ?_
            refine blkN ?_
            refine thenN ?_
            exact ⟨(x3, x4, p0), h, Le.of (mo := []) (mr := []) kr kr kr kr⟩
          · refine Wp.rg [] [] ?_
            refine Runs.batch 3 kr ?_
            obtain ⟨y7, e_y7, h⟩ := bind_some h
            refine Runs.idxT (e := 97) (kk := .i64) (sz := 12) Node.enc p0.fN x4 rfl kr kr kr kr kr kr e_y7 ?_
            refine Runs.batch 3 kr ?_
            rcases tf (y7.fOn) with hc | hc
            · have h := cond_t h hc
              refine Runs.known 19 (v := true) kr hc ?_
              refine Runs.batch 2 kr ?_
              obtain ⟨r8, e_r8, h⟩ := bind_some h
              refine Runs.callK false 22 61 [] [.agg ((World.enc p0).map .t), .t (.int .i64 x4)] _ _ _ rfl rfl kr kr kr kr kr (spec_StateOf_ok u p0 x4 r8 e_r8) kr ?_
              refine Runs.alln ?_
              exact ⟨(x3, x4, r8 != 1, p0), h, Le.of (mo := []) (mr := []) kr kr kr kr⟩
            have h := cond_f h hc
            refine Runs.known 19 (v := false) kr hc ?_
            refine Runs.alln ?_
            exact ⟨(x3, x4, false, p0), h, Le.of (mo := []) (mr := []) kr kr kr kr⟩
      have h := cond_f h hc
      refine Wp.exit ?_
      refine thenE ?_
      refine thenE ?_
      refine blkE ?_
      refine thenN ?_
      exact ⟨x3, h, Le.of (mo := []) (mr := []) kr kr kr kr⟩
theorem impl_UpIn_1_ok (u : Nat) (p0 : Node) (r : Bool) (h : impl_UpIn_1 u p0 = some r) : CallOK Tryz.prog 125 [.agg [.t (.bool p0.fOn), .t (.int .i64 p0.fBoss), .t (.int .i64 p0.fQuiet), .t (.int .i64 p0.fMan.fGen), .t (.int .i64 p0.fMan.fSize), .t (.int .i64 p0.fMan.fLen), .t (.sl 2 (p0.fMan.fSums.map Sum.enc)), .t (.int .i64 p0.fBld.fHave), .t (.sl 1 (p0.fBld.fBuf.map (eInt .u8))), .t (.int .i64 p0.fPhase), .t (.sl 5 (p0.fKids.map Kid.enc)), .t (.int .i64 p0.fDrops)]] (.one (.t (.bool r))) [] := by
  unfold impl_UpIn_1 at h
  refine CallOK.of_bodyK (fn := Tryz.f125) (m := false) [.agg ((Node.enc p0).map .t)] kr rfl kr kr kr kr kr ?_
  refine Wp.srg [] [] ?_
  refine Runs.alln ?_
  refine Wp.fg ⟨[(1, .obj 1 0), (2, .t (.bool false))], [(1, ((Node.enc p0).map .t))], []⟩ ?_
  refine Wp.srg [] [] ?_
  refine Runs.alln ?_
  refine Wp.fg ⟨[(2, .t (.bool p0.fOn))], [], []⟩ ?_
  refine Wp.ret ?_
  obtain rfl := Option.some.inj h
  exact RetK [.t (.bool p0.fOn)] _ [] kr kr (.refl _) .nil
theorem impl_World__nodesIn__impl_UpIn_1_ok (u : Nat) (p0 : World) (r : (List Int)) (h : impl_World__nodesIn__impl_UpIn_1 u p0 = some r) : CallOK Tryz.prog 124 [.agg [.t (.int .i64 p0.fC.fSize), .t (.int .i64 p0.fC.fWindow), .t (.int .i64 p0.fC.fSuspect), .t (.int .i64 p0.fC.fForget), .t (.sl 1 (p0.fT.fUp.map (eInt .i64))), .t (.sl 1 (p0.fNew.map (eInt .u8))), .t (.sl 1 (p0.fOld.map Image.enc)), .t (.sl 12 (p0.fN.map Node.enc)), .t (.sl 6 (p0.fD.map Disk.enc)), .t (.sl 3 (p0.fNet.map Packet.enc)), .t (.sl 3 (p0.fLog.map Sent.enc)), .t (.int .i64 p0.fLost)], .clo 125 []] (.one (.ow 3 1 (r.map (eInt .i64)))) [] := by
  unfold impl_World__nodesIn__impl_UpIn_1 at h
  refine CallOK.of_bodyK (fn := Tryz.f124) (m := true) [.agg ((World.enc p0).map .t), .clo 125 []] kr rfl kr kr kr kr kr ?_
  refine Wp.srg [] [] ?_
  refine Runs.alln ?_
  refine Wp.fg ⟨[(1, .clo 125 []), (2, .obj 2 0), (4, .nil)], [(2, ((World.enc p0).map .t))], []⟩ ?_
  refine Wp.srg [] [] ?_
  refine Runs.alln ?_
  refine Wp.fg ⟨[(1, .clo 125 []), (2, .obj 2 0), (4, .nil), (5, .own 524288)], [(2, ((World.enc p0).map .t))], [(524288, .live 3 1 ((([] : List Int)).map (eInt .i64)))]⟩ ?_
  refine Wp.seqJ (α := (List Int)) (fun a => ⟨[(4, .nil), (5, .own 327681)], [], [(327681, .live 3 1 (a.map (eInt .i64)))]⟩) (fun a => impl_World__nodesIn__impl_UpIn_1_j1 u a = some r) ?_ ?_
  · rintro x10 h
    change impl_World__nodesIn__impl_UpIn_1_j1 u x10 = some r at h
    unfold impl_World__nodesIn__impl_UpIn_1_j1 at h
    refine Wp.srg [] [] ?_
    refine Runs.alln ?_
    refine Wp.fg ⟨[(4, .own 327681)], [], [(327681, .live 3 1 (x10.map (eInt .i64)))]⟩ ?_
    refine Wp.ret ?_
    obtain rfl := Option.some.inj h
    exact RetK [.own 327681] _ [] kr kr (.refl _) .nil
  · refine Wp.srg [] [] ?_
    refine Runs.batch 2 kr ?_
    refine Runs.lenT (y := .t (.sl 12 (p0.fN.map Node.enc))) (e := 97) Node.enc p0.fN 12 rfl rfl rfl kr kr kr kr kr ?_
    refine Runs.alln ?_
    refine Wp.fg ⟨[(1, .clo 125 []), (4, .nil), (5, .own 524288), (10, .t (.sl 12 (p0.fN.map Node.enc))), (11, .t (.int .i64 ((p0.fN.length : Int)))), (12, .t (.int .i64 0))], [], [(524288, .live 3 1 ((([] : List Int)).map (eInt .i64)))]⟩ ?_
    refine Wp.block ?_
    refine Wp.loopF (α := (List Int) × World × Int) (fun a => ⟨[(1, .clo 125 []), (4, .nil), (5, .own 327681), (10, .t (.sl 12 (a.2.1.fN.map Node.enc))), (11, .t (.int .i64 ((a.2.1.fN.length : Int)))), (12, .t (.int .i64 a.2.2))], [], [(327681, .live 3 1 (a.1.map (eInt .i64)))]⟩) (fun k_impl_World__nodesIn__impl_UpIn_1_l2 a => impl_World__nodesIn__impl_UpIn_1_l2 u k_impl_World__nodesIn__impl_UpIn_1_l2 a.1 a.2.1 a.2.2 = some r) ?_ ?_ u (([] : List Int), p0, 0) h (Le.of (mo := []) (mr := [(327681, 524288)]) kr kr kr kr)
    · intro a h; unfold impl_World__nodesIn__impl_UpIn_1_l2 at h; cases h
    · rintro k_impl_World__nodesIn__impl_UpIn_1_l2 ⟨x3, p0, x4⟩ h
      change impl_World__nodesIn__impl_UpIn_1_l2 u (k_impl_World__nodesIn__impl_UpIn_1_l2 + 1) x3 p0 x4 = some r at h
      rw [impl_World__nodesIn__impl_UpIn_1_l2] at h
      refine Wp.srg [] [] ?_
      refine Runs.alln ?_
      refine Wp.fg ⟨[(1, .clo 125 []), (4, .nil), (5, .own 327681), (10, .t (.sl 12 (p0.fN.map Node.enc))), (11, .t (.int .i64 ((p0.fN.length : Int)))), (12, .t (.int .i64 x4)), (13, .t (.bool (decide (x4 < ((p0.fN.length : Int))))))], [], [(327681, .live 3 1 (x3.map (eInt .i64)))]⟩ ?_
      refine Wp.seq ?_
      refine Wp.cond2 (b := decide (x4 < ((p0.fN.length : Int)))) kr (fun hc => ?_) (fun hc => ?_)
      · have h := cond_t h hc
        refine Wp.skip (thenN ?_)
        refine Wp.seqJ (α := (List Int) × World × Int) (fun a => ⟨[(1, .clo 125 []), (4, .nil), (5, .own 327681), (10, .t (.sl 12 (a.2.1.fN.map Node.enc))), (11, .t (.int .i64 ((a.2.1.fN.length : Int)))), (12, .t (.int .i64 a.2.2))], [], [(327681, .live 3 1 (a.1.map (eInt .i64)))]⟩) (fun a => impl_World__nodesIn__impl_UpIn_1_j3 u (fun z0 z1 z2 => impl_World__nodesIn__impl_UpIn_1_l2 u k_impl_World__nodesIn__impl_UpIn_1_l2 z0 z1 z2) a.1 a.2.1 a.2.2 = some r) ?_ ?_
        · rintro ⟨x9, p0, x4⟩ h
          change impl_World__nodesIn__impl_UpIn_1_j3 u (fun z0 z1 z2 => impl_World__nodesIn__impl_UpIn_1_l2 u k_impl_World__nodesIn__impl_UpIn_1_l2 z0 z1 z2) x9 p0 x4 = some r at h
          unfold impl_World__nodesIn__impl_UpIn_1_j3 at h
          refine Wp.rg [] [] ?_
          refine Runs.alln ?_
          exact ⟨(x9, p0, bAdd .i64 x4 1), h, Le.of (mo := []) (mr := []) kr kr kr kr⟩
        · refine Wp.block ?_
          refine Wp.srg [] [] ?_
          refine Runs.batch 1 kr ?_
          obtain ⟨y7, e_y7, h⟩ := bind_some h
          refine Runs.idxT (e := 97) (kk := .i64) (sz := 12) Node.enc p0.fN x4 rfl kr kr kr kr kr kr e_y7 ?_
          refine Runs.alln ?_
          refine Wp.fg ⟨[(1, .clo 125 []), (4, .nil), (5, .own 327681), (6, .t (.int .i64 x4)), (7, .obj 7 0), (10, .t (.sl 12 (p0.fN.map Node.enc))), (11, .t (.int .i64 ((p0.fN.length : Int)))), (12, .t (.int .i64 x4))], [(7, ((Node.enc y7).map .t))], [(327681, .live 3 1 (x3.map (eInt .i64)))]⟩ ?_
          refine Wp.srg [] [] ?_
          refine Runs.batch 2 kr ?_
          obtain ⟨r8, e_r8, h⟩ := bind_some h
          refine Runs.callK false 19 125 [] [.agg ((Node.enc y7).map .t)] _ _ _ rfl rfl kr kr kr kr kr (impl_UpIn_1_ok u y7 r8 e_r8) kr ?_
          refine Runs.done ?_
          refine thenN ?_
          refine Wp.fg ⟨[(1, .clo 125 []), (4, .nil), (5, .own 327681), (6, .t (.int .i64 x4)), (10, .t (.sl 12 (p0.fN.map Node.enc))), (11, .t (.int .i64 ((p0.fN.length : Int)))), (12, .t (.int .i64 x4)), (19, .t (.bool r8))], [], [(327681, .live 3 1 (x3.map (eInt .i64)))]⟩ ?_
          refine Wp.cond2 (b := r8) kr (fun hc => ?_) (fun hc => ?_)
          · have h := cond_t h hc
            refine Wp.rg [] [] ?_
            refine Runs.batch 3 kr ?_
            obtain ⟨_, e_9, h⟩ := bind_some h
            refine Runs.appT (y := .own 1441792) (eInt .i64) 23 1 3 1 8 327681 x3 ([x4]) rfl rfl rfl rfl kr kr kr kr kr kr (.inl rfl) kr (of_decide_eq_true (chk_some e_9)) kr kr ?_
            refine Runs.all kr ?_
            refine blkN ?_
            refine thenN ?_
            exact ⟨(x3 ++ ([x4]), p0, x4), h, Le.of (mo := []) (mr := [(327681, 1507328)]) kr kr kr kr⟩
          have h := cond_f h hc
          refine Wp.skip ?_
          refine blkN ?_
          refine thenN ?_
          exact ⟨(x3, p0, x4), h, Le.of (mo := []) (mr := []) kr kr kr kr⟩
      have h := cond_f h hc
      refine Wp.exit ?_
      refine thenE ?_
      refine thenE ?_
      refine blkE ?_
      refine thenN ?_
      exact ⟨x3, h, Le.of (mo := []) (mr := []) kr kr kr kr⟩
theorem impl_UpIn_ok (u : Nat) (p0 : World) (r : (List Int)) (h : impl_UpIn u p0 = some r) : CallOK Tryz.prog 73 [.agg [.t (.int .i64 p0.fC.fSize), .t (.int .i64 p0.fC.fWindow), .t (.int .i64 p0.fC.fSuspect), .t (.int .i64 p0.fC.fForget), .t (.sl 1 (p0.fT.fUp.map (eInt .i64))), .t (.sl 1 (p0.fNew.map (eInt .u8))), .t (.sl 1 (p0.fOld.map Image.enc)), .t (.sl 12 (p0.fN.map Node.enc)), .t (.sl 6 (p0.fD.map Disk.enc)), .t (.sl 3 (p0.fNet.map Packet.enc)), .t (.sl 3 (p0.fLog.map Sent.enc)), .t (.int .i64 p0.fLost)]] (.one (.ow 3 1 (r.map (eInt .i64)))) [] := by
  unfold impl_UpIn at h
  refine CallOK.of_bodyK (fn := Tryz.f73) (m := true) [.agg ((World.enc p0).map .t)] kr rfl kr kr kr kr kr ?_
  refine Wp.srg [] [] ?_
  refine Runs.alln ?_
  refine Wp.fg ⟨[(1, .obj 1 0), (2, .nil)], [(1, ((World.enc p0).map .t))], []⟩ ?_
  refine Wp.srg [] [] ?_
  refine Runs.batch 1 kr ?_
  obtain ⟨r1, e_r1, h⟩ := bind_some h
  refine Runs.callK false 4 124 [] [.agg ((World.enc p0).map .t), .clo 125 []] _ _ _ rfl rfl kr kr kr kr kr (impl_World__nodesIn__impl_UpIn_1_ok u p0 r1 e_r1) kr ?_
  refine Runs.alln ?_
  refine Wp.fg ⟨[(2, .own 262144)], [], [(262144, .live 3 1 (r1.map (eInt .i64)))]⟩ ?_
  refine Wp.ret ?_
  obtain rfl := Option.some.inj h
  exact RetK [.own 262144] _ [] kr kr (.refl _) .nil
theorem impl_within_ok (u : Nat) (p0 : Int) (p1 : Int) (p2 : Int) (r : Bool) (h : impl_within u p0 p1 p2 = some r) : CallOK Tryz.prog 92 [.one (.t (.int .i64 p0)), .one (.t (.int .i64 p1)), .one (.t (.int .i64 p2))] (.one (.t (.bool r))) [] := by
  unfold impl_within at h
  refine CallOK.of_bodyK (fn := Tryz.f92) (m := false) [.t (.int .i64 p0), .t (.int .i64 p1), .t (.int .i64 p2)] kr rfl kr kr kr kr kr ?_
  refine Wp.srg [] [] ?_
  refine Runs.alln ?_
  refine Wp.fg ⟨[(0, .t (.int .i64 p0)), (1, .t (.int .i64 p1)), (2, .t (.int .i64 p2)), (6, .t (.bool false))], [], []⟩ ?_
  refine Wp.srg [] [] ?_
  refine Runs.batch 4 kr ?_
  rcases tf (decide (p0 ≥ p1)) with hc | hc
  · have h := cond_t h hc
    refine Runs.known 10 (v := true) kr hc ?_
    refine Runs.alln ?_
    refine Wp.fg ⟨[(6, .t (.bool (decide (p0 ≤ p2))))], [], []⟩ ?_
    refine Wp.ret ?_
    obtain rfl := Option.some.inj h
    exact RetK [.t (.bool (decide (p0 ≤ p2)))] _ [] kr kr (.refl _) .nil
  have h := cond_f h hc
  refine Runs.known 10 (v := false) kr hc ?_
  refine Runs.alln ?_
  refine Wp.fg ⟨[(6, .t (.bool false))], [], []⟩ ?_
  refine Wp.ret ?_
  obtain rfl := Option.some.inj h
  exact RetK [.t (.bool false)] _ [] kr kr (.refl _) .nil
theorem impl_isGen_ok (u : Nat) (p0 : Int) (r : Bool) (h : impl_isGen u p0 = some r) : CallOK Tryz.prog 219 [.one (.t (.int .i64 p0))] (.one (.t (.bool r))) [] := by
  unfold impl_isGen at h
  refine CallOK.of_bodyK (fn := Tryz.f219) (m := false) [.t (.int .i64 p0)] kr rfl kr kr kr kr kr ?_
  refine Wp.srg [] [] ?_
  refine Runs.alln ?_
  refine Wp.fg ⟨[(0, .t (.int .i64 p0)), (2, .t (.bool false))], [], []⟩ ?_
  refine Wp.srg [] [] ?_
  refine Runs.batch 1 kr ?_
  obtain ⟨r1, e_r1, h⟩ := bind_some h
  refine Runs.callK false 4 92 [] [.t (.int .i64 p0), .t (.int .i64 0), .t (.int .i64 1000000)] _ _ _ rfl rfl kr kr kr kr kr (impl_within_ok u p0 0 1000000 r1 e_r1) kr ?_
  refine Runs.alln ?_
  refine Wp.fg ⟨[(2, .t (.bool r1))], [], []⟩ ?_
  refine Wp.ret ?_
  obtain rfl := Option.some.inj h
  exact RetK [.t (.bool r1)] _ [] kr kr (.refl _) .nil
theorem impl_isSlot_ok (u : Nat) (p0 : Int) (r : Bool) (h : impl_isSlot u p0 = some r) : CallOK Tryz.prog 220 [.one (.t (.int .i64 p0))] (.one (.t (.bool r))) [] := by
  unfold impl_isSlot at h
  refine CallOK.of_bodyK (fn := Tryz.f220) (m := false) [.t (.int .i64 p0)] kr rfl kr kr kr kr kr ?_
  refine Wp.srg [] [] ?_
  refine Runs.alln ?_
  refine Wp.fg ⟨[(0, .t (.int .i64 p0)), (2, .t (.bool false))], [], []⟩ ?_
  refine Wp.srg [] [] ?_
  refine Runs.batch 3 kr ?_
  rcases tf (p0 == 0) with hc | hc
  · have h := cond_t h hc
    refine Runs.known 5 (v := true) kr hc ?_
    refine Runs.alln ?_
    refine Wp.fg ⟨[(2, .t (.bool true))], [], []⟩ ?_
    refine Wp.ret ?_
    obtain rfl := Option.some.inj h
    exact RetK [.t (.bool true)] _ [] kr kr (.refl _) .nil
  have h := cond_f h hc
  refine Runs.known 5 (v := false) kr hc ?_
  refine Runs.alln ?_
  refine Wp.fg ⟨[(2, .t (.bool (p0 == 1)))], [], []⟩ ?_
  refine Wp.ret ?_
  obtain rfl := Option.some.inj h
  exact RetK [.t (.bool (p0 == 1))] _ [] kr kr (.refl _) .nil
theorem impl_isRecord_ok (u : Nat) (p0 : Record) (r : Bool) (h : impl_isRecord u p0 = some r) : CallOK Tryz.prog 206 [.agg [.t (.int .i64 p0.fGen), .t (.int .i64 p0.fSlot), .t (.int .i64 p0.fLen)]] (.one (.t (.bool r))) [] := by
  unfold impl_isRecord at h
  refine CallOK.of_bodyK (fn := Tryz.f206) (m := false) [.agg ((Record.enc p0).map .t)] kr rfl kr kr kr kr kr ?_
  refine Wp.srg [] [] ?_
  refine Runs.alln ?_
  refine Wp.fg ⟨[(1, .obj 1 0), (2, .t (.bool false))], [(1, ((Record.enc p0).map .t))], []⟩ ?_
  refine Wp.srg [] [] ?_
  refine Runs.batch 2 kr ?_
  obtain ⟨r1, e_r1, h⟩ := bind_some h
  refine Runs.callK false 5 219 [] [.t (.int .i64 p0.fGen)] _ _ _ rfl rfl kr kr kr kr kr (impl_isGen_ok u p0.fGen r1 e_r1) kr ?_
  refine Runs.batch 1 kr ?_
  rcases tf (r1) with hc | hc
  · have h := cond_t h hc
    refine Runs.known 6 (v := true) kr hc ?_
    refine Runs.batch 2 kr ?_
    obtain ⟨r2, e_r2, h⟩ := bind_some h
    refine Runs.callK false 9 220 [] [.t (.int .i64 p0.fSlot)] _ _ _ rfl rfl kr kr kr kr kr (impl_isSlot_ok u p0.fSlot r2 e_r2) kr ?_
    refine Runs.batch 2 kr ?_
    rcases tf (r2) with hc | hc
    · have h := cond_t h hc
      refine Runs.known 11 (v := true) kr hc ?_
      refine Runs.batch 2 kr ?_
      obtain ⟨r3, e_r3, h⟩ := bind_some h
      refine Runs.callK false 14 92 [] [.t (.int .i64 p0.fLen), .t (.int .i64 0), .t (.int .i64 240)] _ _ _ rfl rfl kr kr kr kr kr (impl_within_ok u p0.fLen 0 240 r3 e_r3) kr ?_
      refine Runs.alln ?_
      refine Wp.fg ⟨[(2, .t (.bool r3))], [], []⟩ ?_
      refine Wp.ret ?_
      obtain rfl := Option.some.inj h
      exact RetK [.t (.bool r3)] _ [] kr kr (.refl _) .nil
    have h := cond_f h hc
    refine Runs.known 11 (v := false) kr hc ?_
    refine Runs.alln ?_
    refine Wp.fg ⟨[(2, .t (.bool false))], [], []⟩ ?_
    refine Wp.ret ?_
    obtain rfl := Option.some.inj h
    exact RetK [.t (.bool false)] _ [] kr kr (.refl _) .nil
  have h := cond_f h hc
  refine Runs.known 6 (v := false) kr hc ?_
  refine Runs.alln ?_
  refine Wp.fg ⟨[(2, .t (.bool false))], [], []⟩ ?_
  refine Wp.ret ?_
  obtain rfl := Option.some.inj h
  exact RetK [.t (.bool false)] _ [] kr kr (.refl _) .nil
theorem impl_Disk__slot__frz0_ok (u : Nat) (p0 : Disk) (p1 : Int) (r : (List Int)) (h : impl_Disk__slot__frz0 u p0 p1 = some r) : CallOK Tryz.prog 187 [.fptr [.sl 1 (p0.fA.map (eInt .u8)), .sl 1 (p0.fB.map (eInt .u8)), .int .i64 p0.fR.fGen, .int .i64 p0.fR.fSlot, .int .i64 p0.fR.fLen, .sl 6 (p0.fP.map Put.enc)], .one (.t (.int .i64 p1))] (.fptr [.sl 1 (r.map (eInt .u8))]) [] := by
  unfold impl_Disk__slot__frz0 at h
  refine CallOK.of_bodyK (fn := Tryz.f187) (m := false) [.fadr (Disk.enc p0), .t (.int .i64 p1)] kr rfl kr kr kr kr kr ?_
  refine Wp.srg [] [] ?_
  refine Runs.alln ?_
  refine Wp.fg ⟨[(0, .fadr (Disk.enc p0)), (1, .t (.int .i64 p1))], [], []⟩ ?_
  refine Wp.seq ?_
  refine Wp.srg [] [] ?_
  refine Runs.alln ?_
  refine Wp.fg ⟨[(0, .fadr (Disk.enc p0)), (6, .t (.bool (p1 == 0)))], [], []⟩ ?_
  refine Wp.cond2 (b := p1 == 0) kr (fun hc => ?_) (fun hc => ?_)
  · have h := cond_t h hc
    refine Wp.srg [] [] ?_
    refine Runs.alln ?_
    refine Wp.fg ⟨[(0, .fadr (Disk.enc p0)), (4, .fadr (Disk.enc p0))], [], []⟩ ?_
    refine Wp.ret ?_
    refine thenR ?_
    obtain rfl := Option.some.inj h
    exact RetK [.fadr (Disk.enc p0)] (.fptr ([.sl 1 (p0.fA.map (eInt .u8))] ++ [.sl 1 (p0.fB.map (eInt .u8)), .int .i64 p0.fR.fGen, .int .i64 p0.fR.fSlot, .int .i64 p0.fR.fLen, .sl 6 (p0.fP.map Put.enc)])) [] kr kr (.cut _ _) .nil
  have h := cond_f h hc
  refine Wp.skip (thenN ?_)
  refine Wp.srg [] [] ?_
  refine Runs.alln ?_
  refine Wp.fg ⟨[(4, .fadr [.sl 1 (p0.fB.map (eInt .u8)), .int .i64 p0.fR.fGen, .int .i64 p0.fR.fSlot, .int .i64 p0.fR.fLen, .sl 6 (p0.fP.map Put.enc)])], [], []⟩ ?_
  refine Wp.ret ?_
  obtain rfl := Option.some.inj h
  exact RetK [.fadr [.sl 1 (p0.fB.map (eInt .u8)), .int .i64 p0.fR.fGen, .int .i64 p0.fR.fSlot, .int .i64 p0.fR.fLen, .sl 6 (p0.fP.map Put.enc)]] (.fptr ([.sl 1 (p0.fB.map (eInt .u8))] ++ [.int .i64 p0.fR.fGen, .int .i64 p0.fR.fSlot, .int .i64 p0.fR.fLen, .sl 6 (p0.fP.map Put.enc)])) [] kr kr (.cut _ _) .nil
theorem impl_isPut_ok (u : Nat) (p0 : Put) (r : Bool) (h : impl_isPut u p0 = some r) : CallOK Tryz.prog 209 [.agg [.t (.int .i64 p0.fWhat), .t (.int .i64 p0.fAt), .t (.sl 1 (p0.fB.map (eInt .u8))), .t (.int .i64 p0.fR.fGen), .t (.int .i64 p0.fR.fSlot), .t (.int .i64 p0.fR.fLen)]] (.one (.t (.bool r))) [] := by
  unfold impl_isPut at h
  refine CallOK.of_bodyK (fn := Tryz.f209) (m := false) [.agg ((Put.enc p0).map .t)] kr rfl kr kr kr kr kr ?_
  refine Wp.srg [] [] ?_
  refine Runs.alln ?_
  refine Wp.fg ⟨[(1, .obj 1 0), (2, .t (.bool false))], [(1, ((Put.enc p0).map .t))], []⟩ ?_
  refine Wp.seq ?_
  refine Wp.srg [] [] ?_
  refine Runs.alln ?_
  refine Wp.fg ⟨[(1, .obj 1 0), (2, .t (.bool false)), (5, .t (.bool (p0.fWhat == 2)))], [(1, ((Put.enc p0).map .t))], []⟩ ?_
  refine Wp.cond2 (b := p0.fWhat == 2) kr (fun hc => ?_) (fun hc => ?_)
  · have h := cond_t h hc
    refine Wp.srg [] [] ?_
    refine Runs.batch 4 kr ?_
    rcases tf (p0.fAt == 0) with hc | hc
    · have h := cond_t h hc
      refine Runs.known 9 (v := true) kr hc ?_
      refine Runs.batch 2 kr ?_
      refine Runs.lenT (y := .t (.sl 1 (p0.fB.map (eInt .u8)))) (e := 5) (eInt .u8) p0.fB 1 rfl rfl rfl kr kr kr kr kr ?_
      refine Runs.batch 3 kr ?_
      rcases tf (((p0.fB.length : Int)) == 0) with hc | hc
      · have h := cond_t h hc
        refine Runs.known 15 (v := true) kr hc ?_
        refine Runs.batch 2 kr ?_
        obtain ⟨r1, e_r1, h⟩ := bind_some h
        refine Runs.callK false 18 206 [] [.agg ((Record.enc p0.fR).map .t)] _ _ _ rfl rfl kr kr kr kr kr (impl_isRecord_ok u p0.fR r1 e_r1) kr ?_
        refine Runs.alln ?_
        refine Wp.fg ⟨[(1, .obj 1 0), (2, .t (.bool r1))], [(1, ((Put.enc p0).map .t))], []⟩ ?_
        refine Wp.ret ?_
        refine thenR ?_
        obtain rfl := Option.some.inj h
        exact RetK [.t (.bool r1)] _ [] kr kr (.refl _) .nil
      have h := cond_f h hc
      refine Runs.known 15 (v := false) kr hc ?_
      refine Runs.alln ?_
      refine Wp.fg ⟨[(1, .obj 1 0), (2, .t (.bool false))], [(1, ((Put.enc p0).map .t))], []⟩ ?_
      refine Wp.ret ?_
      refine thenR ?_
      obtain rfl := Option.some.inj h
      exact RetK [.t (.bool false)] _ [] kr kr (.refl _) .nil
    have h := cond_f h hc
    refine Runs.known 9 (v := false) kr hc ?_
    refine Runs.alln ?_
    refine Wp.fg ⟨[(1, .obj 1 0), (2, .t (.bool false))], [(1, ((Put.enc p0).map .t))], []⟩ ?_
    refine Wp.ret ?_
    refine thenR ?_
    obtain rfl := Option.some.inj h
    exact RetK [.t (.bool false)] _ [] kr kr (.refl _) .nil
  have h := cond_f h hc
  refine Wp.skip (thenN ?_)
  refine Wp.srg [] [] ?_
  refine Runs.batch 2 kr ?_
  obtain ⟨r2, e_r2, h⟩ := bind_some h
  refine Runs.callK false 22 220 [] [.t (.int .i64 p0.fWhat)] _ _ _ rfl rfl kr kr kr kr kr (impl_isSlot_ok u p0.fWhat r2 e_r2) kr ?_
  refine Runs.batch 1 kr ?_
  rcases tf (r2) with hc | hc
  · have h := cond_t h hc
    refine Runs.known 23 (v := true) kr hc ?_
    refine Runs.batch 6 kr ?_
    rcases tf ([p0.fR.fGen, p0.fR.fSlot, p0.fR.fLen] == [0, 0, 0]) with hc | hc
    · have h := cond_t h hc
      refine Runs.known 29 (v := true) kr hc ?_
      refine Runs.batch 4 kr ?_
      refine Runs.lenT (y := .t (.sl 1 (p0.fB.map (eInt .u8)))) (e := 5) (eInt .u8) p0.fB 1 rfl rfl rfl kr kr kr kr kr ?_
      refine Runs.batch 1 kr ?_
      obtain ⟨r3, e_r3, h⟩ := bind_some h
      refine Runs.callK false 36 92 [] [.t (.int .i64 p0.fAt), .t (.int .i64 0), .t (.int .i64 (bSub .i64 240 ((p0.fB.length : Int))))] _ _ _ rfl rfl kr kr kr kr kr (impl_within_ok u p0.fAt 0 (bSub .i64 240 ((p0.fB.length : Int))) r3 e_r3) kr ?_
      refine Runs.alln ?_
      refine Wp.fg ⟨[(2, .t (.bool r3))], [], []⟩ ?_
      refine Wp.ret ?_
      obtain rfl := Option.some.inj h
      exact RetK [.t (.bool r3)] _ [] kr kr (.refl _) .nil
    have h := cond_f h hc
    refine Runs.known 29 (v := false) kr hc ?_
    refine Runs.alln ?_
    refine Wp.fg ⟨[(2, .t (.bool false))], [], []⟩ ?_
    refine Wp.ret ?_
    obtain rfl := Option.some.inj h
    exact RetK [.t (.bool false)] _ [] kr kr (.refl _) .nil
  have h := cond_f h hc
  refine Runs.known 23 (v := false) kr hc ?_
  refine Runs.alln ?_
  refine Wp.fg ⟨[(2, .t (.bool false))], [], []⟩ ?_
  refine Wp.ret ?_
  obtain rfl := Option.some.inj h
  exact RetK [.t (.bool false)] _ [] kr kr (.refl _) .nil
theorem impl_DiskOk_1_ok (u : Nat) (p0 : Put) (r : Bool) (h : impl_DiskOk_1 u p0 = some r) : CallOK Tryz.prog 208 [.agg [.t (.int .i64 p0.fWhat), .t (.int .i64 p0.fAt), .t (.sl 1 (p0.fB.map (eInt .u8))), .t (.int .i64 p0.fR.fGen), .t (.int .i64 p0.fR.fSlot), .t (.int .i64 p0.fR.fLen)]] (.one (.t (.bool r))) [] := by
  unfold impl_DiskOk_1 at h
  refine CallOK.of_bodyK (fn := Tryz.f208) (m := false) [.agg ((Put.enc p0).map .t)] kr rfl kr kr kr kr kr ?_
  refine Wp.srg [] [] ?_
  refine Runs.alln ?_
  refine Wp.fg ⟨[(1, .obj 1 0), (2, .t (.bool false))], [(1, ((Put.enc p0).map .t))], []⟩ ?_
  refine Wp.srg [] [] ?_
  refine Runs.batch 1 kr ?_
  obtain ⟨r1, e_r1, h⟩ := bind_some h
  refine Runs.callK false 4 209 [] [.agg ((Put.enc p0).map .t)] _ _ _ rfl rfl kr kr kr kr kr (impl_isPut_ok u p0 r1 e_r1) kr ?_
  refine Runs.alln ?_
  refine Wp.fg ⟨[(2, .t (.bool (!r1)))], [], []⟩ ?_
  refine Wp.ret ?_
  obtain rfl := Option.some.inj h
  exact RetK [.t (.bool (!r1))] _ [] kr kr (.refl _) .nil
theorem slices_IndexFunc___impl_Put_impl_Put__impl_DiskOk_1_ok (u : Nat) (p0 : List Put) (r : Int) (h : slices_IndexFunc___impl_Put_impl_Put__impl_DiskOk_1 u p0 = some r) : CallOK Tryz.prog 221 [.one (.t (.sl 6 (p0.map Put.enc))), .clo 208 []] (.one (.t (.int .i64 r))) [] := by
  unfold slices_IndexFunc___impl_Put_impl_Put__impl_DiskOk_1 at h
  refine CallOK.of_bodyK (fn := Tryz.f221) (m := false) [.t (.sl 6 (p0.map Put.enc)), .clo 208 []] kr rfl kr kr kr kr kr ?_
  refine Wp.srg [] [] ?_
  refine Runs.alln ?_
  refine Wp.fg ⟨[(0, .t (.sl 6 (p0.map Put.enc))), (1, .clo 208 []), (4, .t (.int .i64 0))], [], []⟩ ?_
  refine Wp.seqJ (α := Unit) (fun a => ⟨[(4, .t (.int .i64 0))], [], []⟩) (fun a => slices_IndexFunc___impl_Put_impl_Put__impl_DiskOk_1_j1 u = some r) ?_ ?_
  · rintro ⟨⟩ h
    change slices_IndexFunc___impl_Put_impl_Put__impl_DiskOk_1_j1 u = some r at h
    unfold slices_IndexFunc___impl_Put_impl_Put__impl_DiskOk_1_j1 at h
    refine Wp.srg [] [] ?_
    refine Runs.alln ?_
    refine Wp.fg ⟨[(4, .t (.int .i64 (-1)))], [], []⟩ ?_
    refine Wp.ret ?_
    obtain rfl := Option.some.inj h
    exact RetK [.t (.int .i64 (-1))] _ [] kr kr (.refl _) .nil
  · refine Wp.srg [] [] ?_
    refine Runs.batch 1 kr ?_
    refine Runs.lenT (y := .t (.sl 6 (p0.map Put.enc))) (e := 186) Put.enc p0 6 rfl rfl rfl kr kr kr kr kr ?_
    refine Runs.alln ?_
    refine Wp.fg ⟨[(0, .t (.sl 6 (p0.map Put.enc))), (1, .clo 208 []), (4, .t (.int .i64 0)), (7, .t (.int .i64 ((p0.length : Int)))), (8, .t (.int .i64 0))], [], []⟩ ?_
    refine Wp.block ?_
    refine Wp.loopF (α := (List Put) × Int) (fun a => ⟨[(0, .t (.sl 6 (a.1.map Put.enc))), (1, .clo 208 []), (4, .t (.int .i64 0)), (7, .t (.int .i64 ((a.1.length : Int)))), (8, .t (.int .i64 a.2))], [], []⟩) (fun k_slices_IndexFunc___impl_Put_impl_Put__impl_DiskOk_1_l2 a => slices_IndexFunc___impl_Put_impl_Put__impl_DiskOk_1_l2 u k_slices_IndexFunc___impl_Put_impl_Put__impl_DiskOk_1_l2 a.1 a.2 = some r) ?_ ?_ u (p0, 0) h (Le.of (mo := []) (mr := []) kr kr kr kr)
    · intro a h; unfold slices_IndexFunc___impl_Put_impl_Put__impl_DiskOk_1_l2 at h; cases h
    · rintro k_slices_IndexFunc___impl_Put_impl_Put__impl_DiskOk_1_l2 ⟨p0, x2⟩ h
      change slices_IndexFunc___impl_Put_impl_Put__impl_DiskOk_1_l2 u (k_slices_IndexFunc___impl_Put_impl_Put__impl_DiskOk_1_l2 + 1) p0 x2 = some r at h
      rw [slices_IndexFunc___impl_Put_impl_Put__impl_DiskOk_1_l2] at h
      refine Wp.srg [] [] ?_
      refine Runs.alln ?_
      refine Wp.fg ⟨[(0, .t (.sl 6 (p0.map Put.enc))), (1, .clo 208 []), (4, .t (.int .i64 0)), (7, .t (.int .i64 ((p0.length : Int)))), (8, .t (.int .i64 x2)), (9, .t (.bool (decide (x2 < ((p0.length : Int))))))], [], []⟩ ?_
      refine Wp.seq ?_
      refine Wp.cond2 (b := decide (x2 < ((p0.length : Int)))) kr (fun hc => ?_) (fun hc => ?_)
      · have h := cond_t h hc
        refine Wp.skip (thenN ?_)
        refine Wp.seq ?_
        refine Wp.block ?_
        refine Wp.srg [] [] ?_
        refine Runs.alln ?_
        refine Wp.fg ⟨[(0, .t (.sl 6 (p0.map Put.enc))), (1, .clo 208 []), (4, .t (.int .i64 0)), (5, .t (.int .i64 x2)), (7, .t (.int .i64 ((p0.length : Int)))), (8, .t (.int .i64 x2))], [], []⟩ ?_
        refine Wp.srg [] [] ?_
        refine Runs.batch 3 kr ?_
        obtain ⟨y4, e_y4, h⟩ := bind_some h
        refine Runs.idxT (e := 186) (kk := .i64) (sz := 6) Put.enc p0 x2 rfl kr kr kr kr kr kr e_y4 ?_
        refine Runs.batch 1 kr ?_
        obtain ⟨r5, e_r5, h⟩ := bind_some h
        refine Runs.callK false 16 208 [] [.agg ((Put.enc y4).map .t)] _ _ _ rfl rfl kr kr kr kr kr (impl_DiskOk_1_ok u y4 r5 e_r5) kr ?_
        refine Runs.done ?_
        refine thenN ?_
        refine Wp.fg ⟨[(0, .t (.sl 6 (p0.map Put.enc))), (1, .clo 208 []), (4, .t (.int .i64 0)), (5, .t (.int .i64 x2)), (7, .t (.int .i64 ((p0.length : Int)))), (8, .t (.int .i64 x2)), (16, .t (.bool r5))], [], []⟩ ?_
        refine Wp.cond2 (b := r5) kr (fun hc => ?_) (fun hc => ?_)
        · have h := cond_t h hc
          refine Wp.srg [] [] ?_
          refine Runs.alln ?_
          refine Wp.fg ⟨[(0, .t (.sl 6 (p0.map Put.enc))), (1, .clo 208 []), (4, .t (.int .i64 x2)), (7, .t (.int .i64 ((p0.length : Int)))), (8, .t (.int .i64 x2))], [], []⟩ ?_
          refine Wp.ret ?_
          refine blkR ?_
          refine thenR ?_
          refine thenR ?_
          refine blkR ?_
          refine thenR ?_
          obtain rfl := Option.some.inj h
          exact RetK [.t (.int .i64 x2)] _ [] kr kr (.refl _) .nil
        have h := cond_f h hc
        refine Wp.skip ?_
        refine blkN ?_
        refine thenN ?_
        refine Wp.rg [] [] ?_
        refine Runs.alln ?_
        exact ⟨(p0, bAdd .i64 x2 1), h, Le.of (mo := []) (mr := []) kr kr kr kr⟩
      have h := cond_f h hc
      refine Wp.exit ?_
      refine thenE ?_
      refine thenE ?_
      refine blkE ?_
      refine thenN ?_
      exact ⟨(), h, Le.of (mo := []) (mr := []) kr kr kr kr⟩
theorem slices_ContainsFunc___impl_Put_impl_Put__impl_DiskOk_1_ok (u : Nat) (p0 : List Put) (r : Bool) (h : slices_ContainsFunc___impl_Put_impl_Put__impl_DiskOk_1 u p0 = some r) : CallOK Tryz.prog 207 [.one (.t (.sl 6 (p0.map Put.enc))), .clo 208 []] (.one (.t (.bool r))) [] := by
  unfold slices_ContainsFunc___impl_Put_impl_Put__impl_DiskOk_1 at h
  refine CallOK.of_bodyK (fn := Tryz.f207) (m := false) [.t (.sl 6 (p0.map Put.enc)), .clo 208 []] kr rfl kr kr kr kr kr ?_
  refine Wp.srg [] [] ?_
  refine Runs.alln ?_
  refine Wp.fg ⟨[(0, .t (.sl 6 (p0.map Put.enc))), (1, .clo 208 []), (4, .t (.bool false))], [], []⟩ ?_
  refine Wp.srg [] [] ?_
  refine Runs.batch 2 kr ?_
  obtain ⟨r1, e_r1, h⟩ := bind_some h
  refine Runs.callK false 7 221 [] [.t (.sl 6 (p0.map Put.enc)), .clo 208 []] _ _ _ rfl rfl kr kr kr kr kr (slices_IndexFunc___impl_Put_impl_Put__impl_DiskOk_1_ok u p0 r1 e_r1) kr ?_
  refine Runs.alln ?_
  refine Wp.fg ⟨[(4, .t (.bool (decide (r1 ≥ 0))))], [], []⟩ ?_
  refine Wp.ret ?_
  obtain rfl := Option.some.inj h
  exact RetK [.t (.bool (decide (r1 ≥ 0)))] _ [] kr kr (.refl _) .nil
theorem impl_DiskOk_ok (u : Nat) (p0 : Disk) (r : Bool) (h : impl_DiskOk u p0 = some r) : CallOK Tryz.prog 185 [.agg [.t (.sl 1 (p0.fA.map (eInt .u8))), .t (.sl 1 (p0.fB.map (eInt .u8))), .t (.int .i64 p0.fR.fGen), .t (.int .i64 p0.fR.fSlot), .t (.int .i64 p0.fR.fLen), .t (.sl 6 (p0.fP.map Put.enc))]] (.one (.t (.bool r))) [] := by
  unfold impl_DiskOk at h
  refine CallOK.of_bodyK (fn := Tryz.f185) (m := false) [.agg ((Disk.enc p0).map .t)] kr rfl kr kr kr kr kr ?_
  refine Wp.srg [] [] ?_
  refine Runs.alln ?_
  refine Wp.fg ⟨[(1, .obj 1 0), (2, .t (.bool false))], [(1, ((Disk.enc p0).map .t))], []⟩ ?_
  refine Wp.seq ?_
  refine Wp.seqJ (α := Disk × Bool) (fun a => ⟨[(1, .fadr (Disk.enc a.1)), (2, .t (.bool false)), (31, .t (.bool a.2))], [], []⟩) (fun a => impl_DiskOk_j1 u a.1 a.2 = some r) ?_ ?_
  · rintro ⟨p0, x3⟩ h
    change impl_DiskOk_j1 u p0 x3 = some r at h
    unfold impl_DiskOk_j1 at h
    refine Wp.cond2 (b := x3) kr (fun hc => ?_) (fun hc => ?_)
    · have h := cond_t h hc
      refine Wp.srg [] [] ?_
      refine Runs.alln ?_
      refine Wp.fg ⟨[(1, .fadr (Disk.enc p0)), (2, .t (.bool false))], [], []⟩ ?_
      refine Wp.ret ?_
      refine thenR ?_
      obtain rfl := Option.some.inj h
      exact RetK [.t (.bool false)] _ [] kr kr (.refl _) .nil
    have h := cond_f h hc
    refine Wp.skip (thenN ?_)
    refine Wp.srg [] [] ?_
    refine Runs.batch 2 kr ?_
    refine Runs.lenT (y := .t (.sl 6 (p0.fP.map Put.enc))) (e := 186) Put.enc p0.fP 6 rfl rfl rfl kr kr kr kr kr ?_
    refine Runs.batch 2 kr ?_
    rcases tf (decide (((p0.fP.length : Int)) ≤ 200)) with hc | hc
    · have h := cond_t h hc
      refine Runs.known 36 (v := true) kr hc ?_
      refine Runs.batch 2 kr ?_
      obtain ⟨r4, e_r4, h⟩ := bind_some h
      refine Runs.callK false 39 207 [] [.t (.sl 6 (p0.fP.map Put.enc)), .clo 208 []] _ _ _ rfl rfl kr kr kr kr kr (slices_ContainsFunc___impl_Put_impl_Put__impl_DiskOk_1_ok u p0.fP r4 e_r4) kr ?_
      refine Runs.alln ?_
      refine Wp.fg ⟨[(2, .t (.bool (!r4)))], [], []⟩ ?_
      refine Wp.ret ?_
      obtain rfl := Option.some.inj h
      exact RetK [.t (.bool (!r4))] _ [] kr kr (.refl _) .nil
    have h := cond_f h hc
    refine Runs.known 36 (v := false) kr hc ?_
    refine Runs.alln ?_
    refine Wp.fg ⟨[(2, .t (.bool false))], [], []⟩ ?_
    refine Wp.ret ?_
    obtain rfl := Option.some.inj h
    exact RetK [.t (.bool false)] _ [] kr kr (.refl _) .nil
  · refine Wp.le (Le.trans (Le.frzOb 1 (Disk.enc p0) kr kr) (Le.of (s := ⟨[(1, .fadr (Disk.enc p0)), (2, .t (.bool false))], [], []⟩) (mo := []) (mr := []) kr kr kr kr)) ?_
    refine Wp.regionA (pOf []) (rhoOf [(1, .frz), (3, .frz), (4, .frz), (5, .frz), (6, .frz), (7, .frz), (8, .frz), (9, .frz), (10, .frz), (12, .frz), (13, .frz), (14, .frz), (15, .frz), (16, .frz), (18, .frz), (19, .frz), (20, .frz), (21, .frz), (22, .frz), (23, .frz), (24, .frz), (25, .frz), (26, .frz), (27, .frz), (28, .frz), (29, .frz)]) kr kr ?_
    refine Runs.batch 2 kr ?_
    refine Runs.lenT (y := .t (.sl 1 (p0.fA.map (eInt .u8)))) (e := 5) (eInt .u8) p0.fA 1 rfl rfl rfl kr kr kr kr kr ?_
    refine Runs.batch 2 kr ?_
    rcases tf (decide (((p0.fA.length : Int)) > 240)) with hc | hc
    · have h := cond_t h hc
      refine Runs.known 7 (v := true) kr hc ?_
      refine Runs.alln ?_
      exact ⟨(p0, true), h, Le.of (mo := []) (mr := []) kr kr kr kr⟩
    have h := cond_f h hc
    refine Runs.known 7 (v := false) kr hc ?_
    refine Runs.batch 2 kr ?_
    refine Runs.lenT (y := .t (.sl 1 (p0.fB.map (eInt .u8)))) (e := 5) (eInt .u8) p0.fB 1 rfl rfl rfl kr kr kr kr kr ?_
    refine Runs.batch 3 kr ?_
    rcases tf (decide (((p0.fB.length : Int)) > 240)) with hc | hc
    · have h := cond_t h hc
      refine Runs.known 13 (v := true) kr hc ?_
      refine Runs.alln ?_
      exact ⟨(p0, true), h, Le.of (mo := []) (mr := []) kr kr kr kr⟩
    have h := cond_f h hc
    refine Runs.known 13 (v := false) kr hc ?_
    refine Runs.batch 2 kr ?_
    obtain ⟨r1, e_r1, h⟩ := bind_some h
    refine Runs.callK false 16 206 [] [.agg ((Record.enc p0.fR).map .t)] _ _ _ rfl rfl kr kr kr kr kr (impl_isRecord_ok u p0.fR r1 e_r1) kr ?_
    refine Runs.batch 3 kr ?_
    rcases tf (!r1) with hc | hc
    · have h := cond_t h hc
      refine Runs.known 19 (v := true) kr hc ?_
      refine Runs.alln ?_
      exact ⟨(p0, true), h, Le.of (mo := []) (mr := []) kr kr kr kr⟩
    have h := cond_f h hc
    refine Runs.known 19 (v := false) kr hc ?_
    refine Runs.batch 6 kr ?_
    obtain ⟨r2, e_r2, h⟩ := bind_some h
    refine Runs.callK false 26 187 [] [.fadr (Disk.enc p0), .t (.int .i64 p0.fR.fSlot)] _ _ _ rfl rfl kr kr kr kr kr (impl_Disk__slot__frz0_ok u p0 p0.fR.fSlot r2 e_r2) kr ?_
    refine Runs.batch 2 kr ?_
    refine Runs.lenT (y := .t (.sl 1 (r2.map (eInt .u8)))) (e := 5) (eInt .u8) r2 1 rfl rfl rfl kr kr kr kr kr ?_
    refine Runs.alln ?_
    exact ⟨(p0, decide (p0.fR.fLen > ((r2.length : Int)))), h, Le.of (mo := []) (mr := []) kr kr kr kr⟩
theorem impl_cloned_ok (u : Nat) (p0 : List Int) (r : (List Int)) (h : impl_cloned u p0 = some r) : CallOK Tryz.prog 186 [.one (.t (.sl 1 (p0.map (eInt .u8))))] (.one (.ow 5 1 (r.map (eInt .u8)))) [] := by
  unfold impl_cloned at h
  refine CallOK.of_bodyK (fn := Tryz.f186) (m := true) [.t (.sl 1 (p0.map (eInt .u8)))] kr rfl kr kr kr kr kr ?_
  refine Wp.srg [] [] ?_
  refine Runs.alln ?_
  refine Wp.fg ⟨[(0, .t (.sl 1 (p0.map (eInt .u8)))), (2, .nil)], [], []⟩ ?_
  refine Wp.srg [] [] ?_
  refine Runs.batch 1 kr ?_
  refine Runs.lenT (y := .t (.sl 1 (p0.map (eInt .u8)))) (e := 5) (eInt .u8) p0 1 rfl rfl rfl kr kr kr kr kr ?_
  obtain ⟨_, e_1, h⟩ := bind_some h
  obtain ⟨_, e_2, h⟩ := bind_some h
  refine Runs.mkS (eInt .u8) (0 : Int) 5 5 1 1 0 ((p0.length : Int)) rfl rfl kr kr kr kr kr kr (chk_some e_1) (of_decide_eq_true (chk_some e_2)) kr ?_
  refine Runs.batch 1 kr ?_
  obtain ⟨_, e_3, h⟩ := bind_some h
  refine Runs.appT (y := .t (.sl 1 (p0.map (eInt .u8)))) (eInt .u8) 7 1 5 1 1 327680 (List.replicate (Int.toNat 0) (0 : Int)) p0 rfl rfl rfl rfl kr kr kr kr kr kr (.inl rfl) kr (of_decide_eq_true (chk_some e_3)) kr kr ?_
  refine Runs.alln ?_
  refine Wp.fg ⟨[(2, .own 458752)], [], [(458752, .live 5 1 (((List.replicate (Int.toNat 0) (0 : Int)) ++ p0).map (eInt .u8)))]⟩ ?_
  refine Wp.ret ?_
  obtain rfl := Option.some.inj h
  exact RetK [.own 458752] _ [] kr kr (.refl _) .nil
theorem impl_Recover_ok (u : Nat) (p0 : Disk) (r : Int × (List Int)) (h : impl_Recover u p0 = some r) : CallOK Tryz.prog 157 [.agg [.t (.sl 1 (p0.fA.map (eInt .u8))), .t (.sl 1 (p0.fB.map (eInt .u8))), .t (.int .i64 p0.fR.fGen), .t (.int .i64 p0.fR.fSlot), .t (.int .i64 p0.fR.fLen), .t (.sl 6 (p0.fP.map Put.enc))]] (.tup [.one (.t (.int .i64 r.1)), .one (.ow 5 1 (r.2.map (eInt .u8)))]) [] := by
  unfold impl_Recover at h
  refine CallOK.of_bodyK (fn := Tryz.f157) (m := true) [.agg ((Disk.enc p0).map .t)] kr rfl kr kr kr kr kr ?_
  refine Wp.srg [] [] ?_
  refine Runs.alln ?_
  refine Wp.fg ⟨[(1, .obj 1 0), (2, .t (.int .i64 0)), (3, .nil)], [(1, ((Disk.enc p0).map .t))], []⟩ ?_
  refine Wp.seq ?_
  refine Wp.srg [] [] ?_
  refine Runs.batch 1 kr ?_
  obtain ⟨r1, e_r1, h⟩ := bind_some h
  refine Runs.callK false 5 185 [] [.agg ((Disk.enc p0).map .t)] _ _ _ rfl rfl kr kr kr kr kr (impl_DiskOk_ok u p0 r1 e_r1) kr ?_
  refine Runs.alln ?_
  refine Wp.fg ⟨[(1, .obj 1 0), (2, .t (.int .i64 0)), (3, .nil), (6, .t (.bool (!r1)))], [(1, ((Disk.enc p0).map .t))], []⟩ ?_
  refine Wp.cond2 (b := !r1) kr (fun hc => ?_) (fun hc => ?_)
  · have h := cond_t h hc
    refine Wp.srg [] [] ?_
    refine Runs.alln ?_
    refine Wp.fg ⟨[(1, .obj 1 0), (2, .t (.int .i64 0)), (3, .nil)], [(1, ((Disk.enc p0).map .t))], []⟩ ?_
    refine Wp.ret ?_
    refine thenR ?_
    obtain rfl := Option.some.inj h
    exact RetK [.t (.int .i64 0), .nil] (.tup [.one (.t (.int .i64 0)), .one (.nil)]) [] kr kr (.tup (.cons (.refl _) (.cons (.one (.nilO _ _)) .nil))) .nil
  have h := cond_f h hc
  refine Wp.skip (thenN ?_)
  refine Wp.seq ?_
  refine Wp.le (Le.trans (Le.frzOb 1 (Disk.enc p0) kr kr) (Le.of (s := ⟨[(1, .fadr (Disk.enc p0)), (2, .t (.int .i64 0)), (3, .nil)], [], []⟩) (mo := []) (mr := []) kr kr kr kr)) ?_
  refine Wp.regionA (pOf []) (rhoOf [(1, .frz), (7, .frz), (8, .frz), (9, .frz), (10, .frz), (11, .frz), (12, .frz), (13, .frz), (14, .frz), (15, .frz), (16, .frz), (17, .frz), (18, .frz), (19, .frz), (20, .own 20)]) kr kr ?_
  refine Runs.batch 6 kr ?_
  obtain ⟨r2, e_r2, h⟩ := bind_some h
  refine Runs.callK false 13 187 [] [.fadr (Disk.enc p0), .t (.int .i64 p0.fR.fSlot)] _ _ _ rfl rfl kr kr kr kr kr (impl_Disk__slot__frz0_ok u p0 p0.fR.fSlot r2 e_r2) kr ?_
  refine Runs.batch 5 kr ?_
  obtain ⟨_, e_3, h⟩ := bind_some h
  refine Runs.subsl (e := 5) (ax := .t (.sl 1 (r2.map (eInt .u8)))) (alo := none) (ahi := (some (.t (.int .i64 p0.fR.fLen)))) (eInt .u8) r2 1 0 p0.fR.fLen rfl kr kr kr kr kr kr kr kr kr kr kr (chk_some e_3) ?_
  obtain ⟨r4, e_r4, h⟩ := bind_some h
  refine Runs.callK false 20 186 [] [.t (.sl 1 (((r2.take (Int.toNat p0.fR.fLen)).drop (Int.toNat 0)).map (eInt .u8)))] _ _ _ rfl rfl kr kr kr kr kr (impl_cloned_ok u ((r2.take (Int.toNat p0.fR.fLen)).drop (Int.toNat 0)) r4 e_r4) kr ?_
  refine Runs.alln ?_
  refine Wp.fg ⟨[(2, .t (.int .i64 p0.fR.fGen)), (3, .own 1310720)], [], [(1310720, .live 5 1 (r4.map (eInt .u8)))]⟩ ?_
  refine Wp.ret ?_
  obtain rfl := Option.some.inj h
  exact RetK [.t (.int .i64 p0.fR.fGen), .own 1310720] _ [] kr kr (.refl _) .nil
theorem bytes_Equal_ok (u : Nat) (p0 : List Int) (p1 : List Int) (r : Bool) (h : bytes_Equal u p0 p1 = some r) : CallOK Tryz.prog 188 [.one (.t (.sl 1 (p0.map (eInt .u8)))), .one (.t (.sl 1 (p1.map (eInt .u8))))] (.one (.t (.bool r))) [] := by
  unfold bytes_Equal at h
  refine CallOK.of_bodyK (fn := Tryz.f188) (m := false) [.t (.sl 1 (p0.map (eInt .u8))), .t (.sl 1 (p1.map (eInt .u8)))] kr rfl kr kr kr kr kr ?_
  refine Wp.srg [] [] ?_
  refine Runs.alln ?_
  refine Wp.fg ⟨[(0, .t (.sl 1 (p0.map (eInt .u8)))), (1, .t (.sl 1 (p1.map (eInt .u8)))), (4, .t (.bool false))], [], []⟩ ?_
  refine Wp.srg [] [] ?_
  refine Runs.batch 1 kr ?_
  refine Runs.bytesStr (y := .t (.sl 1 (p0.map (eInt .u8)))) (e := 5) p0 1 rfl kr kr kr kr kr kr kr ?_
  refine Runs.batch 1 kr ?_
  refine Runs.bytesStr (y := .t (.sl 1 (p1.map (eInt .u8)))) (e := 5) p1 1 rfl kr kr kr kr kr kr kr ?_
  refine Runs.alln ?_
  refine Wp.fg ⟨[(4, .t (.bool ((strOfNums p0).toList == (strOfNums p1).toList)))], [], []⟩ ?_
  refine Wp.ret ?_
  obtain rfl := Option.some.inj h
  exact RetK [.t (.bool ((strOfNums p0).toList == (strOfNums p1).toList))] _ [] kr kr (.refl _) .nil
theorem impl_SameBytes_ok (u : Nat) (p0 : List Int) (p1 : List Int) (r : Bool) (h : impl_SameBytes u p0 p1 = some r) : CallOK Tryz.prog 158 [.one (.t (.sl 1 (p0.map (eInt .u8)))), .one (.t (.sl 1 (p1.map (eInt .u8))))] (.one (.t (.bool r))) [] := by
  unfold impl_SameBytes at h
  refine CallOK.of_bodyK (fn := Tryz.f158) (m := false) [.t (.sl 1 (p0.map (eInt .u8))), .t (.sl 1 (p1.map (eInt .u8)))] kr rfl kr kr kr kr kr ?_
  refine Wp.srg [] [] ?_
  refine Runs.alln ?_
  refine Wp.fg ⟨[(0, .t (.sl 1 (p0.map (eInt .u8)))), (1, .t (.sl 1 (p1.map (eInt .u8)))), (4, .t (.bool false))], [], []⟩ ?_
  refine Wp.srg [] [] ?_
  refine Runs.batch 2 kr ?_
  obtain ⟨r1, e_r1, h⟩ := bind_some h
  refine Runs.callK false 7 188 [] [.t (.sl 1 (p0.map (eInt .u8))), .t (.sl 1 (p1.map (eInt .u8)))] _ _ _ rfl rfl kr kr kr kr kr (bytes_Equal_ok u p0 p1 r1 e_r1) kr ?_
  refine Runs.alln ?_
  refine Wp.fg ⟨[(4, .t (.bool r1))], [], []⟩ ?_
  refine Wp.ret ?_
  obtain rfl := Option.some.inj h
  exact RetK [.t (.bool r1)] _ [] kr kr (.refl _) .nil
theorem impl_Holds_ok (u : Nat) (p0 : Disk) (p1 : Int) (p2 : List Int) (r : Bool) (h : impl_Holds u p0 p1 p2 = some r) : CallOK Tryz.prog 117 [.agg [.t (.sl 1 (p0.fA.map (eInt .u8))), .t (.sl 1 (p0.fB.map (eInt .u8))), .t (.int .i64 p0.fR.fGen), .t (.int .i64 p0.fR.fSlot), .t (.int .i64 p0.fR.fLen), .t (.sl 6 (p0.fP.map Put.enc))], .one (.t (.int .i64 p1)), .one (.t (.sl 1 (p2.map (eInt .u8))))] (.one (.t (.bool r))) [] := by
  unfold impl_Holds at h
  refine CallOK.of_bodyK (fn := Tryz.f117) (m := false) [.agg ((Disk.enc p0).map .t), .t (.int .i64 p1), .t (.sl 1 (p2.map (eInt .u8)))] kr rfl kr kr kr kr kr ?_
  refine Wp.srg [] [] ?_
  refine Runs.alln ?_
  refine Wp.fg ⟨[(1, .t (.int .i64 p1)), (2, .t (.sl 1 (p2.map (eInt .u8)))), (3, .obj 3 0), (6, .t (.bool false))], [(3, ((Disk.enc p0).map .t))], []⟩ ?_
  refine Wp.srg [] [] ?_
  refine Runs.batch 1 kr ?_
  obtain ⟨r1, e_r1, h⟩ := bind_some h
  refine Runs.callK false 11 157 [] [.agg ((Disk.enc p0).map .t)] _ _ _ rfl rfl kr kr kr kr kr (impl_Recover_ok u p0 r1 e_r1) kr ?_
  refine Runs.alln ?_
  refine Wp.fg ⟨[(1, .t (.int .i64 p1)), (2, .t (.sl 1 (p2.map (eInt .u8)))), (6, .t (.bool false)), (7, .t (.int .i64 r1.1)), (8, .own 721920)], [], [(721920, .live 5 1 (r1.2.map (eInt .u8)))]⟩ ?_
  refine Wp.srg [] [] ?_
  refine Runs.batch 4 kr ?_
  rcases tf (r1.1 == p1) with hc | hc
  · have h := cond_t h hc
    refine Runs.known 17 (v := true) kr hc ?_
    refine Runs.batch 2 kr ?_
    obtain ⟨r2, e_r2, h⟩ := bind_some h
    refine Runs.callBK 20 158 [] [.own 721920, .t (.sl 1 (p2.map (eInt .u8)))] [.one (.t (.sl 1 (r1.2.map (eInt .u8)))), .one (.t (.sl 1 (p2.map (eInt .u8))))] (.one (.t (.bool r2))) rfl rfl kr kr kr kr kr (impl_SameBytes_ok u r1.2 p2 r2 e_r2) (by simp [V.plain, V.plains, C.plain, T.sc]) kr ?_
    refine Runs.alln ?_
    refine Wp.fg ⟨[(6, .t (.bool r2))], [], []⟩ ?_
    refine Wp.ret ?_
    obtain rfl := Option.some.inj h
    exact RetK [.t (.bool r2)] _ [] kr kr (.refl _) .nil
  have h := cond_f h hc
  refine Runs.known 17 (v := false) kr hc ?_
  refine Runs.alln ?_
  refine Wp.fg ⟨[(6, .t (.bool false))], [], []⟩ ?_
  refine Wp.ret ?_
  obtain rfl := Option.some.inj h
  exact RetK [.t (.bool false)] _ [] kr kr (.refl _) .nil
theorem impl_StateOf_ok (u : Nat) (p0 : World) (p1 : Int) (r : Int) (h : impl_StateOf u p0 p1 = some r) : CallOK Tryz.prog 65 [.agg [.t (.int .i64 p0.fC.fSize), .t (.int .i64 p0.fC.fWindow), .t (.int .i64 p0.fC.fSuspect), .t (.int .i64 p0.fC.fForget), .t (.sl 1 (p0.fT.fUp.map (eInt .i64))), .t (.sl 1 (p0.fNew.map (eInt .u8))), .t (.sl 1 (p0.fOld.map Image.enc)), .t (.sl 12 (p0.fN.map Node.enc)), .t (.sl 6 (p0.fD.map Disk.enc)), .t (.sl 3 (p0.fNet.map Packet.enc)), .t (.sl 3 (p0.fLog.map Sent.enc)), .t (.int .i64 p0.fLost)], .one (.t (.int .i64 p1))] (.one (.t (.int .i64 r))) [] := by
  unfold impl_StateOf at h
  refine CallOK.of_bodyK (fn := Tryz.f65) (m := false) [.agg ((World.enc p0).map .t), .t (.int .i64 p1)] kr rfl kr kr kr kr kr ?_
  refine Wp.srg [] [] ?_
  refine Runs.alln ?_
  refine Wp.fg ⟨[(1, .t (.int .i64 p1)), (2, .obj 2 0), (4, .t (.int .i64 0))], [(2, ((World.enc p0).map .t))], []⟩ ?_
  refine Wp.seq ?_
  refine Wp.block ?_
  refine Wp.seqJ (α := Int × Bool × World) (fun a => ⟨[(1, .t (.int .i64 a.1)), (2, .obj 2 0), (4, .t (.int .i64 0)), (5, .t (.bool a.2.1))], [(2, ((World.enc a.2.2).map .t))], []⟩) (fun a => impl_StateOf_j1 u a.1 a.2.1 a.2.2 = some r) ?_ ?_
  · rintro ⟨p1, x3, p0⟩ h
    change impl_StateOf_j1 u p1 x3 p0 = some r at h
    unfold impl_StateOf_j1 at h
    refine Wp.cond2 (b := x3) kr (fun hc => ?_) (fun hc => ?_)
    · have h := cond_t h hc
      refine Wp.srg [] [] ?_
      refine Runs.alln ?_
      refine Wp.fg ⟨[(4, .t (.int .i64 (-1)))], [], []⟩ ?_
      refine Wp.ret ?_
      refine blkR ?_
      refine thenR ?_
      obtain rfl := Option.some.inj h
      exact RetK [.t (.int .i64 (-1))] _ [] kr kr (.refl _) .nil
    have h := cond_f h hc
    refine Wp.seq ?_
    refine Wp.regionA (pOf []) (rhoOf [(1, .frz), (2, .obj 2), (23, .obj 2), (24, .frz), (25, .frz), (26, .frz), (27, .frz), (28, .obj 2), (29, .frz), (30, .frz), (31, .frz), (32, .frz), (33, .frz), (34, .frz)]) kr kr ?_
    refine Runs.batch 3 kr ?_
    obtain ⟨y4, e_y4, h⟩ := bind_some h
    refine Runs.idxT (e := 87) (kk := .i64) (sz := 6) Disk.enc p0.fD p1 rfl kr kr kr kr kr kr e_y4 ?_
    refine Runs.batch 4 kr ?_
    obtain ⟨y5, e_y5, h⟩ := bind_some h
    refine Runs.idxT (e := 89) (kk := .i64) (sz := 1) Image.enc p0.fOld p1 rfl kr kr kr kr kr kr e_y5 ?_
    refine Runs.batch 2 kr ?_
    obtain ⟨r6, e_r6, h⟩ := bind_some h
    refine Runs.callK false 34 117 [] [.agg ((Disk.enc y4).map .t), .t (.int .i64 0), .t (.sl 1 (y5.fB.map (eInt .u8)))] _ _ _ rfl rfl kr kr kr kr kr (impl_Holds_ok u y4 0 y5.fB r6 e_r6) kr ?_
    refine Runs.alln ?_
    refine Wp.fg ⟨[(1, .t (.int .i64 p1)), (2, .obj 2 0), (4, .t (.int .i64 0)), (22, .t (.bool r6))], [(2, ((World.enc p0).map .t))], []⟩ ?_
    refine Wp.cond2 (b := r6) kr (fun hc => ?_) (fun hc => ?_)
    · have h := cond_t h hc
      refine Wp.srg [] [] ?_
      refine Runs.alln ?_
      refine Wp.fg ⟨[(4, .t (.int .i64 0))], [], []⟩ ?_
      refine Wp.ret ?_
      refine blkR ?_
      refine thenR ?_
      obtain rfl := Option.some.inj h
      exact RetK [.t (.int .i64 0)] _ [] kr kr (.refl _) .nil
    have h := cond_f h hc
    refine Wp.seq ?_
    refine Wp.regionA (pOf []) (rhoOf [(1, .frz), (2, .obj 2), (36, .obj 2), (37, .frz), (38, .frz), (39, .frz), (40, .frz), (41, .obj 2), (42, .frz), (43, .frz)]) kr kr ?_
    refine Runs.batch 3 kr ?_
    obtain ⟨y7, e_y7, h⟩ := bind_some h
    refine Runs.idxT (e := 87) (kk := .i64) (sz := 6) Disk.enc p0.fD p1 rfl kr kr kr kr kr kr e_y7 ?_
    refine Runs.batch 3 kr ?_
    obtain ⟨r8, e_r8, h⟩ := bind_some h
    refine Runs.callK false 43 117 [] [.agg ((Disk.enc y7).map .t), .t (.int .i64 1), .t (.sl 1 (p0.fNew.map (eInt .u8)))] _ _ _ rfl rfl kr kr kr kr kr (impl_Holds_ok u y7 1 p0.fNew r8 e_r8) kr ?_
    refine Runs.alln ?_
    refine Wp.fg ⟨[(4, .t (.int .i64 0)), (35, .t (.bool r8))], [], []⟩ ?_
    refine Wp.cond2 (b := r8) kr (fun hc => ?_) (fun hc => ?_)
    · have h := cond_t h hc
      refine Wp.srg [] [] ?_
      refine Runs.alln ?_
      refine Wp.fg ⟨[(4, .t (.int .i64 1))], [], []⟩ ?_
      refine Wp.ret ?_
      refine blkR ?_
      refine thenR ?_
      obtain rfl := Option.some.inj h
      exact RetK [.t (.int .i64 1)] _ [] kr kr (.refl _) .nil
    have h := cond_f h hc
    refine Wp.skip ?_
    refine blkN ?_
    refine thenN ?_
    refine Wp.srg [] [] ?_
    refine Runs.alln ?_
    refine Wp.fg ⟨[(4, .t (.int .i64 (-1)))], [], []⟩ ?_
    refine Wp.ret ?_
    obtain rfl := Option.some.inj h
    exact RetK [.t (.int .i64 (-1))] _ [] kr kr (.refl _) .nil
  · refine Wp.rg [] [] ?_
    refine Runs.batch 3 kr ?_
    refine Runs.lenT (y := .t (.sl 6 (p0.fD.map Disk.enc))) (e := 87) Disk.enc p0.fD 6 rfl rfl rfl kr kr kr kr kr ?_
    refine Runs.batch 1 kr ?_
    obtain ⟨r1, e_r1, h⟩ := bind_some h
    refine Runs.callK false 11 92 [] [.t (.int .i64 p1), .t (.int .i64 0), .t (.int .i64 (bSub .i64 ((p0.fD.length : Int)) 1))] _ _ _ rfl rfl kr kr kr kr kr (impl_within_ok u p1 0 (bSub .i64 ((p0.fD.length : Int)) 1) r1 e_r1) kr ?_
    refine Runs.batch 2 kr ?_
    rcases tf (!r1) with hc | hc
    · have h := cond_t h hc
      refine Runs.known 13 (v := true) kr hc ?_
      refine Runs.alln ?_
      exact ⟨(p1, true, p0), h, Le.of (mo := []) (mr := []) kr kr kr kr⟩
    have h := cond_f h hc
    refine Runs.known 13 (v := false) kr hc ?_
    refine Runs.batch 3 kr ?_
    refine Runs.lenT (y := .t (.sl 1 (p0.fOld.map Image.enc))) (e := 89) Image.enc p0.fOld 1 rfl rfl rfl kr kr kr kr kr ?_
    refine Runs.batch 1 kr ?_
    obtain ⟨r2, e_r2, h⟩ := bind_some h
    refine Runs.callK false 19 92 [] [.t (.int .i64 p1), .t (.int .i64 0), .t (.int .i64 (bSub .i64 ((p0.fOld.length : Int)) 1))] _ _ _ rfl rfl kr kr kr kr kr (impl_within_ok u p1 0 (bSub .i64 ((p0.fOld.length : Int)) 1) r2 e_r2) kr ?_
    refine Runs.alln ?_
    exact ⟨(p1, !r2, p0), h, Le.of (mo := []) (mr := []) kr kr kr kr⟩
theorem impl_LateIn_1_ok (u : Nat) (p0 : Int) (q0 : World) (r : Bool) (h : impl_LateIn_1 u p0 q0 = some r) : CallOK Tryz.prog 88 [.one (.t (.int .i64 p0)), .fptr [.int .i64 q0.fC.fSize, .int .i64 q0.fC.fWindow, .int .i64 q0.fC.fSuspect, .int .i64 q0.fC.fForget, .sl 1 (q0.fT.fUp.map (eInt .i64)), .sl 1 (q0.fNew.map (eInt .u8)), .sl 1 (q0.fOld.map Image.enc), .sl 12 (q0.fN.map Node.enc), .sl 6 (q0.fD.map Disk.enc), .sl 3 (q0.fNet.map Packet.enc), .sl 3 (q0.fLog.map Sent.enc), .int .i64 q0.fLost]] (.one (.t (.bool r))) [] := by
  unfold impl_LateIn_1 at h
  refine CallOK.of_bodyK (fn := Tryz.f88) (m := false) [.t (.int .i64 p0), .fadr (World.enc q0)] kr rfl kr kr kr kr kr ?_
  refine Wp.srg [] [] ?_
  refine Runs.alln ?_
  refine Wp.fg ⟨[(0, .t (.int .i64 p0)), (1, .fadr (World.enc q0)), (3, .t (.bool false))], [], []⟩ ?_
  refine Wp.srg [] [] ?_
  refine Runs.batch 3 kr ?_
  rcases tf (p0 == 0) with hc | hc
  · have h := cond_t h hc
    refine Runs.known 6 (v := true) kr hc ?_
    refine Runs.alln ?_
    refine Wp.fg ⟨[(3, .t (.bool true))], [], []⟩ ?_
    refine Wp.ret ?_
    obtain rfl := Option.some.inj h
    exact RetK [.t (.bool true)] _ [] kr kr (.refl _) .nil
  have h := cond_f h hc
  refine Runs.known 6 (v := false) kr hc ?_
  refine Runs.batch 2 kr ?_
  obtain ⟨r1, e_r1, h⟩ := bind_some h
  refine Runs.callK false 9 65 [] [.agg ((World.enc q0).map .t), .t (.int .i64 p0)] _ _ _ rfl rfl kr kr kr kr kr (impl_StateOf_ok u q0 p0 r1 e_r1) kr ?_
  refine Runs.alln ?_
  refine Wp.fg ⟨[(3, .t (.bool (r1 == 1)))], [], []⟩ ?_
  refine Wp.ret ?_
  obtain rfl := Option.some.inj h
  exact RetK [.t (.bool (r1 == 1))] _ [] kr kr (.refl _) .nil
theorem slices_IndexFunc___int_int__impl_LateIn_1_ok (u : Nat) (p0 : List Int) (p1_0 : World) (r : Int) (h : slices_IndexFunc___int_int__impl_LateIn_1 u p0 p1_0 = some r) : CallOK Tryz.prog 114 [.one (.t (.sl 1 (p0.map (eInt .i64)))), .clo 88 [.fptr [.int .i64 p1_0.fC.fSize, .int .i64 p1_0.fC.fWindow, .int .i64 p1_0.fC.fSuspect, .int .i64 p1_0.fC.fForget, .sl 1 (p1_0.fT.fUp.map (eInt .i64)), .sl 1 (p1_0.fNew.map (eInt .u8)), .sl 1 (p1_0.fOld.map Image.enc), .sl 12 (p1_0.fN.map Node.enc), .sl 6 (p1_0.fD.map Disk.enc), .sl 3 (p1_0.fNet.map Packet.enc), .sl 3 (p1_0.fLog.map Sent.enc), .int .i64 p1_0.fLost]]] (.one (.t (.int .i64 r))) [] := by
  unfold slices_IndexFunc___int_int__impl_LateIn_1 at h
  refine CallOK.of_bodyK (fn := Tryz.f114) (m := false) [.t (.sl 1 (p0.map (eInt .i64))), .clo 88 [.fadr (World.enc p1_0)]] kr rfl kr kr kr kr kr ?_
  refine Wp.srg [] [] ?_
  refine Runs.alln ?_
  refine Wp.fg ⟨[(0, .t (.sl 1 (p0.map (eInt .i64)))), (1, .clo 88 [.fadr (World.enc p1_0)]), (4, .t (.int .i64 0))], [], []⟩ ?_
  refine Wp.seqJ (α := Unit) (fun a => ⟨[(4, .t (.int .i64 0))], [], []⟩) (fun a => slices_IndexFunc___int_int__impl_LateIn_1_j1 u = some r) ?_ ?_
  · rintro ⟨⟩ h
    change slices_IndexFunc___int_int__impl_LateIn_1_j1 u = some r at h
    unfold slices_IndexFunc___int_int__impl_LateIn_1_j1 at h
    refine Wp.srg [] [] ?_
    refine Runs.alln ?_
    refine Wp.fg ⟨[(4, .t (.int .i64 (-1)))], [], []⟩ ?_
    refine Wp.ret ?_
    obtain rfl := Option.some.inj h
    exact RetK [.t (.int .i64 (-1))] _ [] kr kr (.refl _) .nil
  · refine Wp.srg [] [] ?_
    refine Runs.batch 1 kr ?_
    refine Runs.lenT (y := .t (.sl 1 (p0.map (eInt .i64)))) (e := 3) (eInt .i64) p0 1 rfl rfl rfl kr kr kr kr kr ?_
    refine Runs.alln ?_
    refine Wp.fg ⟨[(0, .t (.sl 1 (p0.map (eInt .i64)))), (1, .clo 88 [.fadr (World.enc p1_0)]), (4, .t (.int .i64 0)), (7, .t (.int .i64 ((p0.length : Int)))), (8, .t (.int .i64 0))], [], []⟩ ?_
    refine Wp.block ?_
    refine Wp.loopF (α := (List Int) × World × Int) (fun a => ⟨[(0, .t (.sl 1 (a.1.map (eInt .i64)))), (1, .clo 88 [.fadr (World.enc a.2.1)]), (4, .t (.int .i64 0)), (7, .t (.int .i64 ((a.1.length : Int)))), (8, .t (.int .i64 a.2.2))], [], []⟩) (fun k_slices_IndexFunc___int_int__impl_LateIn_1_l2 a => slices_IndexFunc___int_int__impl_LateIn_1_l2 u k_slices_IndexFunc___int_int__impl_LateIn_1_l2 a.1 a.2.1 a.2.2 = some r) ?_ ?_ u (p0, p1_0, 0) h (Le.of (mo := []) (mr := []) kr kr kr kr)
    · intro a h; unfold slices_IndexFunc___int_int__impl_LateIn_1_l2 at h; cases h
    · rintro k_slices_IndexFunc___int_int__impl_LateIn_1_l2 ⟨p0, p1_0, x2⟩ h
      change slices_IndexFunc___int_int__impl_LateIn_1_l2 u (k_slices_IndexFunc___int_int__impl_LateIn_1_l2 + 1) p0 p1_0 x2 = some r at h
      rw [slices_IndexFunc___int_int__impl_LateIn_1_l2] at h
      refine Wp.srg [] [] ?_
      refine Runs.alln ?_
      refine Wp.fg ⟨[(0, .t (.sl 1 (p0.map (eInt .i64)))), (1, .clo 88 [.fadr (World.enc p1_0)]), (4, .t (.int .i64 0)), (7, .t (.int .i64 ((p0.length : Int)))), (8, .t (.int .i64 x2)), (9, .t (.bool (decide (x2 < ((p0.length : Int))))))], [], []⟩ ?_
      refine Wp.seq ?_
      refine Wp.cond2 (b := decide (x2 < ((p0.length : Int)))) kr (fun hc => ?_) (fun hc => ?_)
      · have h := cond_t h hc
        refine Wp.skip (thenN ?_)
        refine Wp.seq ?_
        refine Wp.block ?_
        refine Wp.srg [] [] ?_
        refine Runs.alln ?_
        refine Wp.fg ⟨[(0, .t (.sl 1 (p0.map (eInt .i64)))), (1, .clo 88 [.fadr (World.enc p1_0)]), (4, .t (.int .i64 0)), (5, .t (.int .i64 x2)), (7, .t (.int .i64 ((p0.length : Int)))), (8, .t (.int .i64 x2))], [], []⟩ ?_
        refine Wp.srg [] [] ?_
        refine Runs.batch 3 kr ?_
        obtain ⟨y4, e_y4, h⟩ := bind_some h
        refine Runs.idxT (e := 3) (kk := .i64) (sz := 1) (eInt .i64) p0 x2 rfl kr kr kr kr kr kr e_y4 ?_
        refine Runs.batch 1 kr ?_
        obtain ⟨r5, e_r5, h⟩ := bind_some h
        refine Runs.callK false 16 88 [.fadr (World.enc p1_0)] [.t (.int .i64 y4)] _ _ _ rfl rfl kr kr kr kr kr (impl_LateIn_1_ok u y4 p1_0 r5 e_r5) kr ?_
        refine Runs.done ?_
        refine thenN ?_
        refine Wp.fg ⟨[(0, .t (.sl 1 (p0.map (eInt .i64)))), (1, .clo 88 [.fadr (World.enc p1_0)]), (4, .t (.int .i64 0)), (5, .t (.int .i64 x2)), (7, .t (.int .i64 ((p0.length : Int)))), (8, .t (.int .i64 x2)), (16, .t (.bool r5))], [], []⟩ ?_
        refine Wp.cond2 (b := r5) kr (fun hc => ?_) (fun hc => ?_)
        · have h := cond_t h hc
          refine Wp.srg [] [] ?_
          refine Runs.alln ?_
          refine Wp.fg ⟨[(0, .t (.sl 1 (p0.map (eInt .i64)))), (1, .clo 88 [.fadr (World.enc p1_0)]), (4, .t (.int .i64 x2)), (7, .t (.int .i64 ((p0.length : Int)))), (8, .t (.int .i64 x2))], [], []⟩ ?_
          refine Wp.ret ?_
          refine blkR ?_
          refine thenR ?_
          refine thenR ?_
          refine blkR ?_
          refine thenR ?_
          obtain rfl := Option.some.inj h
          exact RetK [.t (.int .i64 x2)] _ [] kr kr (.refl _) .nil
        have h := cond_f h hc
        refine Wp.skip ?_
        refine blkN ?_
        refine thenN ?_
        refine Wp.rg [] [] ?_
        refine Runs.alln ?_
        exact ⟨(p0, p1_0, bAdd .i64 x2 1), h, Le.of (mo := []) (mr := []) kr kr kr kr⟩
      have h := cond_f h hc
      refine Wp.exit ?_
      refine thenE ?_
      refine thenE ?_
      refine blkE ?_
      refine thenN ?_
      exact ⟨(), h, Le.of (mo := []) (mr := []) kr kr kr kr⟩
end Go.Tm
