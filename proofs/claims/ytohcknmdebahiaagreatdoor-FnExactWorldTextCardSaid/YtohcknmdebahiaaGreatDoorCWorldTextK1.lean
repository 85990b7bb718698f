/- The functions as they are translated do what the pure functions say (printed). -/
import Derived.Test.YtohcknmdebahiaaGreatDoorCWorldTextD
import Derived.Test.YtohcknmdebahiaaGreatDoorTm45
import Derived.Shelf.Strings.OnBuilder
import Derived.Test.YtohcknmdebahiaaGreatDoorProg
set_option maxRecDepth 100000
set_option maxHeartbeats 20000000
set_option linter.unusedVariables false
set_option linter.unusedSimpArgs false
namespace Go.Tm
open Go.Proofs
theorem laws_szIntS_ok (u : Nat) (p0 : List Int) (p1 : Int) (r : Int) (h : laws_szIntS u p0 p1 = some r) : CallOK Tryz.prog 65 [.one (.t (.sl 1 (p0.map (eInt .i64)))), .one (.t (.int .i64 p1))] (.one (.t (.int .i64 r))) [] := by
  unfold laws_szIntS at h
  refine CallOK.of_bodyK (fn := Tryz.f65) (m := false) [.t (.sl 1 (p0.map (eInt .i64))), .t (.int .i64 p1)] kr rfl kr kr kr kr kr ?_
  refine Wp.srg [] [] ?_
  refine Runs.alln ?_
  refine Wp.fg ⟨[(0, .t (.sl 1 (p0.map (eInt .i64)))), (1, .t (.int .i64 p1)), (4, .t (.int .i64 0))], [], []⟩ ?_
  refine Wp.srg [] [] ?_
  refine Runs.batch 2 kr ?_
  refine Runs.lenT (y := .t (.sl 1 (p0.map (eInt .i64)))) (e := 3) (eInt .i64) p0 1 rfl rfl rfl kr kr kr kr kr ?_
  refine Runs.alln ?_
  refine Wp.fg ⟨[(1, .t (.int .i64 (bSub .i64 p1 ((p0.length : Int))))), (4, .t (.int .i64 0))], [], []⟩ ?_
  refine Wp.seq ?_
  refine Wp.srg [] [] ?_
  refine Runs.alln ?_
  refine Wp.fg ⟨[(1, .t (.int .i64 (bSub .i64 p1 ((p0.length : Int))))), (4, .t (.int .i64 0)), (10, .t (.bool (decide ((bSub .i64 p1 ((p0.length : Int))) < 0))))], [], []⟩ ?_
  refine Wp.cond2 (b := decide ((bSub .i64 p1 ((p0.length : Int))) < 0)) kr (fun hc => ?_) (fun hc => ?_)
  · have h := cond_t h hc
    refine Wp.srg [] [] ?_
    refine Runs.alln ?_
    refine Wp.fg ⟨[(1, .t (.int .i64 (bSub .i64 p1 ((p0.length : Int))))), (4, .t (.int .i64 (-1)))], [], []⟩ ?_
    refine Wp.ret ?_
    refine thenR ?_
    obtain rfl := Option.some.inj h
    exact RetK [.t (.int .i64 (-1))] _ [] kr kr (.refl _) .nil
  have h := cond_f h hc
  refine Wp.skip (thenN ?_)
  refine Wp.srg [] [] ?_
  refine Runs.alln ?_
  refine Wp.fg ⟨[(4, .t (.int .i64 (bSub .i64 p1 ((p0.length : Int)))))], [], []⟩ ?_
  refine Wp.ret ?_
  obtain rfl := Option.some.inj h
  exact RetK [.t (.int .i64 (bSub .i64 p1 ((p0.length : Int))))] _ [] kr kr (.refl _) .nil
theorem laws_szTree_ok (u : Nat) (p0 : Tree) (p1 : Int) (r : Int) (h : laws_szTree u p0 p1 = some r) : CallOK Tryz.prog 30 [.agg [.t (.sl 1 (p0.fUp.map (eInt .i64)))], .one (.t (.int .i64 p1))] (.one (.t (.int .i64 r))) [] := by
  unfold laws_szTree at h
  refine CallOK.of_bodyK (fn := Tryz.f30) (m := false) [.agg [.t (.sl 1 (p0.fUp.map (eInt .i64)))], .t (.int .i64 p1)] kr rfl kr kr kr kr kr ?_
  refine Wp.srg [] [] ?_
  refine Runs.alln ?_
  refine Wp.fg ⟨[(1, .t (.int .i64 p1)), (2, .obj 2 0), (4, .t (.int .i64 0))], [(2, [.t (.sl 1 (p0.fUp.map (eInt .i64)))])], []⟩ ?_
  refine Wp.srg [] [] ?_
  refine Runs.batch 3 kr ?_
  obtain ⟨r1, e_r1, h⟩ := bind_some h
  refine Runs.callK false 8 65 [] [.t (.sl 1 (p0.fUp.map (eInt .i64))), .t (.int .i64 p1)] _ _ _ rfl rfl kr kr kr kr kr (laws_szIntS_ok u p0.fUp p1 r1 e_r1) kr ?_
  refine Runs.alln ?_
  refine Wp.fg ⟨[(1, .t (.int .i64 r1)), (4, .t (.int .i64 0))], [], []⟩ ?_
  refine Wp.seq ?_
  refine Wp.srg [] [] ?_
  refine Runs.alln ?_
  refine Wp.fg ⟨[(1, .t (.int .i64 r1)), (4, .t (.int .i64 0)), (10, .t (.bool (decide (r1 < 0))))], [], []⟩ ?_
  refine Wp.cond2 (b := decide (r1 < 0)) kr (fun hc => ?_) (fun hc => ?_)
  · have h := cond_t h hc
    refine Wp.srg [] [] ?_
    refine Runs.alln ?_
    refine Wp.fg ⟨[(1, .t (.int .i64 r1)), (4, .t (.int .i64 (-1)))], [], []⟩ ?_
    refine Wp.ret ?_
    refine thenR ?_
    obtain rfl := Option.some.inj h
    exact RetK [.t (.int .i64 (-1))] _ [] kr kr (.refl _) .nil
  have h := cond_f h hc
  refine Wp.skip (thenN ?_)
  refine Wp.srg [] [] ?_
  refine Runs.alln ?_
  refine Wp.fg ⟨[(4, .t (.int .i64 r1))], [], []⟩ ?_
  refine Wp.ret ?_
  obtain rfl := Option.some.inj h
  exact RetK [.t (.int .i64 r1)] _ [] kr kr (.refl _) .nil
theorem laws_szByteS_ok (u : Nat) (p0 : List Int) (p1 : Int) (r : Int) (h : laws_szByteS u p0 p1 = some r) : CallOK Tryz.prog 31 [.one (.t (.sl 1 (p0.map (eInt .u8)))), .one (.t (.int .i64 p1))] (.one (.t (.int .i64 r))) [] := by
  unfold laws_szByteS at h
  refine CallOK.of_bodyK (fn := Tryz.f31) (m := false) [.t (.sl 1 (p0.map (eInt .u8))), .t (.int .i64 p1)] kr rfl kr kr kr kr kr ?_
  refine Wp.srg [] [] ?_
  refine Runs.alln ?_
  refine Wp.fg ⟨[(0, .t (.sl 1 (p0.map (eInt .u8)))), (1, .t (.int .i64 p1)), (4, .t (.int .i64 0))], [], []⟩ ?_
  refine Wp.srg [] [] ?_
  refine Runs.batch 2 kr ?_
  refine Runs.lenT (y := .t (.sl 1 (p0.map (eInt .u8)))) (e := 5) (eInt .u8) p0 1 rfl rfl rfl kr kr kr kr kr ?_
  refine Runs.alln ?_
  refine Wp.fg ⟨[(1, .t (.int .i64 (bSub .i64 p1 ((p0.length : Int))))), (4, .t (.int .i64 0))], [], []⟩ ?_
  refine Wp.seq ?_
  refine Wp.srg [] [] ?_
  refine Runs.alln ?_
  refine Wp.fg ⟨[(1, .t (.int .i64 (bSub .i64 p1 ((p0.length : Int))))), (4, .t (.int .i64 0)), (10, .t (.bool (decide ((bSub .i64 p1 ((p0.length : Int))) < 0))))], [], []⟩ ?_
  refine Wp.cond2 (b := decide ((bSub .i64 p1 ((p0.length : Int))) < 0)) kr (fun hc => ?_) (fun hc => ?_)
  · have h := cond_t h hc
    refine Wp.srg [] [] ?_
    refine Runs.alln ?_
    refine Wp.fg ⟨[(1, .t (.int .i64 (bSub .i64 p1 ((p0.length : Int))))), (4, .t (.int .i64 (-1)))], [], []⟩ ?_
    refine Wp.ret ?_
    refine thenR ?_
    obtain rfl := Option.some.inj h
    exact RetK [.t (.int .i64 (-1))] _ [] kr kr (.refl _) .nil
  have h := cond_f h hc
  refine Wp.skip (thenN ?_)
  refine Wp.srg [] [] ?_
  refine Runs.alln ?_
  refine Wp.fg ⟨[(4, .t (.int .i64 (bSub .i64 p1 ((p0.length : Int)))))], [], []⟩ ?_
  refine Wp.ret ?_
  obtain rfl := Option.some.inj h
  exact RetK [.t (.int .i64 (bSub .i64 p1 ((p0.length : Int))))] _ [] kr kr (.refl _) .nil
theorem laws_szImage_ok (u : Nat) (p0 : Image) (p1 : Int) (r : Int) (h : laws_szImage u p0 p1 = some r) : CallOK Tryz.prog 23 [.agg [.t (.sl 1 (p0.fB.map (eInt .u8)))], .one (.t (.int .i64 p1))] (.one (.t (.int .i64 r))) [] := by
  unfold laws_szImage at h
  refine CallOK.of_bodyK (fn := Tryz.f23) (m := false) [.agg [.t (.sl 1 (p0.fB.map (eInt .u8)))], .t (.int .i64 p1)] kr rfl kr kr kr kr kr ?_
  refine Wp.srg [] [] ?_
  refine Runs.alln ?_
  refine Wp.fg ⟨[(1, .t (.int .i64 p1)), (2, .obj 2 0), (4, .t (.int .i64 0))], [(2, [.t (.sl 1 (p0.fB.map (eInt .u8)))])], []⟩ ?_
  refine Wp.srg [] [] ?_
  refine Runs.batch 3 kr ?_
  obtain ⟨r1, e_r1, h⟩ := bind_some h
  refine Runs.callK false 8 31 [] [.t (.sl 1 (p0.fB.map (eInt .u8))), .t (.int .i64 p1)] _ _ _ rfl rfl kr kr kr kr kr (laws_szByteS_ok u p0.fB p1 r1 e_r1) kr ?_
  refine Runs.alln ?_
  refine Wp.fg ⟨[(1, .t (.int .i64 r1)), (4, .t (.int .i64 0))], [], []⟩ ?_
  refine Wp.seq ?_
  refine Wp.srg [] [] ?_
  refine Runs.alln ?_
  refine Wp.fg ⟨[(1, .t (.int .i64 r1)), (4, .t (.int .i64 0)), (10, .t (.bool (decide (r1 < 0))))], [], []⟩ ?_
  refine Wp.cond2 (b := decide (r1 < 0)) kr (fun hc => ?_) (fun hc => ?_)
  · have h := cond_t h hc
    refine Wp.srg [] [] ?_
    refine Runs.alln ?_
    refine Wp.fg ⟨[(1, .t (.int .i64 r1)), (4, .t (.int .i64 (-1)))], [], []⟩ ?_
    refine Wp.ret ?_
    refine thenR ?_
    obtain rfl := Option.some.inj h
    exact RetK [.t (.int .i64 (-1))] _ [] kr kr (.refl _) .nil
  have h := cond_f h hc
  refine Wp.skip (thenN ?_)
  refine Wp.srg [] [] ?_
  refine Runs.alln ?_
  refine Wp.fg ⟨[(4, .t (.int .i64 r1))], [], []⟩ ?_
  refine Wp.ret ?_
  obtain rfl := Option.some.inj h
  exact RetK [.t (.int .i64 r1)] _ [] kr kr (.refl _) .nil
theorem laws_szImageS_ok (u : Nat) (p0 : List Image) (p1 : Int) (r : Int) (h : laws_szImageS u p0 p1 = some r) : CallOK Tryz.prog 7 [.one (.t (.sl 1 (p0.map Image.enc))), .one (.t (.int .i64 p1))] (.one (.t (.int .i64 r))) [] := by
  unfold laws_szImageS at h
  refine CallOK.of_bodyK (fn := Tryz.f7) (m := false) [.t (.sl 1 (p0.map Image.enc)), .t (.int .i64 p1)] kr rfl kr kr kr kr kr ?_
  refine Wp.srg [] [] ?_
  refine Runs.alln ?_
  refine Wp.fg ⟨[(0, .t (.sl 1 (p0.map Image.enc))), (1, .t (.int .i64 p1)), (4, .t (.int .i64 0))], [], []⟩ ?_
  refine Wp.srg [] [] ?_
  refine Runs.batch 2 kr ?_
  refine Runs.lenT (y := .t (.sl 1 (p0.map Image.enc))) (e := 58) Image.enc p0 1 rfl rfl rfl kr kr kr kr kr ?_
  refine Runs.alln ?_
  refine Wp.fg ⟨[(0, .t (.sl 1 (p0.map Image.enc))), (1, .t (.int .i64 (bSub .i64 p1 ((p0.length : Int))))), (4, .t (.int .i64 0))], [], []⟩ ?_
  refine Wp.seq ?_
  refine Wp.srg [] [] ?_
  refine Runs.alln ?_
  refine Wp.fg ⟨[(0, .t (.sl 1 (p0.map Image.enc))), (1, .t (.int .i64 (bSub .i64 p1 ((p0.length : Int))))), (4, .t (.int .i64 0)), (11, .t (.bool (decide ((bSub .i64 p1 ((p0.length : Int))) < 0))))], [], []⟩ ?_
  refine Wp.cond2 (b := decide ((bSub .i64 p1 ((p0.length : Int))) < 0)) kr (fun hc => ?_) (fun hc => ?_)
  · have h := cond_t h hc
    refine Wp.srg [] [] ?_
    refine Runs.alln ?_
    refine Wp.fg ⟨[(0, .t (.sl 1 (p0.map Image.enc))), (1, .t (.int .i64 (bSub .i64 p1 ((p0.length : Int))))), (4, .t (.int .i64 (-1)))], [], []⟩ ?_
    refine Wp.ret ?_
    refine thenR ?_
    obtain rfl := Option.some.inj h
    exact RetK [.t (.int .i64 (-1))] _ [] kr kr (.refl _) .nil
  have h := cond_f h hc
  refine Wp.skip (thenN ?_)
  refine Wp.seqJ (α := Int) (fun a => ⟨[(1, .t (.int .i64 a)), (4, .t (.int .i64 0))], [], []⟩) (fun a => laws_szImageS_j1 u a = some r) ?_ ?_
  · rintro x9 h
    change laws_szImageS_j1 u x9 = some r at h
    unfold laws_szImageS_j1 at h
    refine Wp.srg [] [] ?_
    refine Runs.alln ?_
    refine Wp.fg ⟨[(4, .t (.int .i64 x9))], [], []⟩ ?_
    refine Wp.ret ?_
    obtain rfl := Option.some.inj h
    exact RetK [.t (.int .i64 x9)] _ [] kr kr (.refl _) .nil
  · refine Wp.srg [] [] ?_
    refine Runs.alln ?_
    refine Wp.fg ⟨[(0, .t (.sl 1 (p0.map Image.enc))), (1, .t (.int .i64 (bSub .i64 p1 ((p0.length : Int))))), (4, .t (.int .i64 0)), (5, .t (.int .i64 0))], [], []⟩ ?_
    refine Wp.block ?_
    refine Wp.loopF (α := (List Image) × Int × Int) (fun a => ⟨[(0, .t (.sl 1 (a.1.map Image.enc))), (1, .t (.int .i64 a.2.1)), (4, .t (.int .i64 0)), (5, .t (.int .i64 a.2.2))], [], []⟩) (fun k_laws_szImageS_l2 a => laws_szImageS_l2 u k_laws_szImageS_l2 a.1 a.2.1 a.2.2 = some r) ?_ ?_ u (p0, bSub .i64 p1 ((p0.length : Int)), 0) h (Le.of (mo := []) (mr := []) kr kr kr kr)
    · intro a h; unfold laws_szImageS_l2 at h; cases h
    · rintro k_laws_szImageS_l2 ⟨p0, x3, x4⟩ h
      change laws_szImageS_l2 u (k_laws_szImageS_l2 + 1) p0 x3 x4 = some r at h
      rw [laws_szImageS_l2] at h
      refine Wp.seq ?_
      refine Wp.srg [] [] ?_
      refine Runs.batch 2 kr ?_
      refine Runs.lenT (y := .t (.sl 1 (p0.map Image.enc))) (e := 58) Image.enc p0 1 rfl rfl rfl kr kr kr kr kr ?_
      refine Runs.alln ?_
      refine Wp.fg ⟨[(0, .t (.sl 1 (p0.map Image.enc))), (1, .t (.int .i64 x3)), (4, .t (.int .i64 0)), (5, .t (.int .i64 x4)), (15, .t (.bool (decide (x4 < ((p0.length : Int))))))], [], []⟩ ?_
      refine Wp.cond2 (b := decide (x4 < ((p0.length : Int)))) kr (fun hc => ?_) (fun hc => ?_)
      · have h := cond_t h hc
        refine Wp.skip (thenN ?_)
        refine Wp.seq ?_
        refine Wp.block ?_
        refine Wp.srg [] [] ?_
        refine Runs.batch 2 kr ?_
        obtain ⟨y7, e_y7, h⟩ := bind_some h
        refine Runs.idxT (e := 58) (kk := .i64) (sz := 1) Image.enc p0 x4 rfl kr kr kr kr kr kr e_y7 ?_
        refine Runs.batch 2 kr ?_
        obtain ⟨r8, e_r8, h⟩ := bind_some h
        refine Runs.callK false 23 23 [] [.agg [.t (.sl 1 (y7.fB.map (eInt .u8)))], .t (.int .i64 x3)] _ _ _ rfl rfl kr kr kr kr kr (laws_szImage_ok u y7 x3 r8 e_r8) kr ?_
        refine Runs.alln ?_
        refine Wp.fg ⟨[(0, .t (.sl 1 (p0.map Image.enc))), (1, .t (.int .i64 r8)), (4, .t (.int .i64 0)), (5, .t (.int .i64 x4))], [], []⟩ ?_
        refine Wp.srg [] [] ?_
        refine Runs.alln ?_
        refine Wp.fg ⟨[(0, .t (.sl 1 (p0.map Image.enc))), (1, .t (.int .i64 r8)), (4, .t (.int .i64 0)), (5, .t (.int .i64 x4)), (25, .t (.bool (decide (r8 < 0))))], [], []⟩ ?_
        refine Wp.cond2 (b := decide (r8 < 0)) kr (fun hc => ?_) (fun hc => ?_)
        · have h := cond_t h hc
          refine Wp.srg [] [] ?_
          refine Runs.alln ?_
          refine Wp.fg ⟨[(0, .t (.sl 1 (p0.map Image.enc))), (1, .t (.int .i64 r8)), (4, .t (.int .i64 (-1))), (5, .t (.int .i64 x4))], [], []⟩ ?_
          refine Wp.ret ?_
          refine blkR ?_
          refine thenR ?_
          refine thenR ?_
          refine blkR ?_
          refine thenR ?_
          obtain rfl := Option.some.inj h
          exact RetK [.t (.int .i64 (-1))] _ [] kr kr (.refl _) .nil
        have h := cond_f h hc
        refine Wp.skip ?_
        refine blkN ?_
        refine thenN ?_
        refine Wp.rg [] [] ?_
        refine Runs.alln ?_
        exact ⟨(p0, r8, bAdd .i64 x4 1), h, Le.of (mo := []) (mr := []) kr kr kr kr⟩
      have h := cond_f h hc
      refine Wp.exit ?_
      refine thenE ?_
      refine thenE ?_
      refine blkE ?_
      refine thenN ?_
      exact ⟨x3, h, Le.of (mo := []) (mr := []) kr kr kr kr⟩
theorem laws_szSumS_ok (u : Nat) (p0 : List Sum) (p1 : Int) (r : Int) (h : laws_szSumS u p0 p1 = some r) : CallOK Tryz.prog 158 [.one (.t (.sl 2 (p0.map Sum.enc))), .one (.t (.int .i64 p1))] (.one (.t (.int .i64 r))) [] := by
  unfold laws_szSumS at h
  refine CallOK.of_bodyK (fn := Tryz.f158) (m := false) [.t (.sl 2 (p0.map Sum.enc)), .t (.int .i64 p1)] kr rfl kr kr kr kr kr ?_
  refine Wp.srg [] [] ?_
  refine Runs.alln ?_
  refine Wp.fg ⟨[(0, .t (.sl 2 (p0.map Sum.enc))), (1, .t (.int .i64 p1)), (4, .t (.int .i64 0))], [], []⟩ ?_
  refine Wp.srg [] [] ?_
  refine Runs.batch 2 kr ?_
  refine Runs.lenT (y := .t (.sl 2 (p0.map Sum.enc))) (e := 226) Sum.enc p0 2 rfl rfl rfl kr kr kr kr kr ?_
  refine Runs.alln ?_
  refine Wp.fg ⟨[(1, .t (.int .i64 (bSub .i64 p1 ((p0.length : Int))))), (4, .t (.int .i64 0))], [], []⟩ ?_
  refine Wp.seq ?_
  refine Wp.srg [] [] ?_
  refine Runs.alln ?_
  refine Wp.fg ⟨[(1, .t (.int .i64 (bSub .i64 p1 ((p0.length : Int))))), (4, .t (.int .i64 0)), (10, .t (.bool (decide ((bSub .i64 p1 ((p0.length : Int))) < 0))))], [], []⟩ ?_
  refine Wp.cond2 (b := decide ((bSub .i64 p1 ((p0.length : Int))) < 0)) kr (fun hc => ?_) (fun hc => ?_)
  · have h := cond_t h hc
    refine Wp.srg [] [] ?_
    refine Runs.alln ?_
    refine Wp.fg ⟨[(1, .t (.int .i64 (bSub .i64 p1 ((p0.length : Int))))), (4, .t (.int .i64 (-1)))], [], []⟩ ?_
    refine Wp.ret ?_
    refine thenR ?_
    obtain rfl := Option.some.inj h
    exact RetK [.t (.int .i64 (-1))] _ [] kr kr (.refl _) .nil
  have h := cond_f h hc
  refine Wp.skip (thenN ?_)
  refine Wp.srg [] [] ?_
  refine Runs.alln ?_
  refine Wp.fg ⟨[(4, .t (.int .i64 (bSub .i64 p1 ((p0.length : Int)))))], [], []⟩ ?_
  refine Wp.ret ?_
  obtain rfl := Option.some.inj h
  exact RetK [.t (.int .i64 (bSub .i64 p1 ((p0.length : Int))))] _ [] kr kr (.refl _) .nil
theorem laws_szManifest_ok (u : Nat) (p0 : Manifest) (p1 : Int) (r : Int) (h : laws_szManifest u p0 p1 = some r) : CallOK Tryz.prog 107 [.agg [.t (.int .i64 p0.fGen), .t (.int .i64 p0.fSize), .t (.int .i64 p0.fLen), .t (.sl 2 (p0.fSums.map Sum.enc))], .one (.t (.int .i64 p1))] (.one (.t (.int .i64 r))) [] := by
  unfold laws_szManifest at h
  refine CallOK.of_bodyK (fn := Tryz.f107) (m := false) [.agg ((Manifest.enc p0).map .t), .t (.int .i64 p1)] kr rfl kr kr kr kr kr ?_
  refine Wp.srg [] [] ?_
  refine Runs.alln ?_
  refine Wp.fg ⟨[(1, .t (.int .i64 p1)), (2, .obj 2 0), (4, .t (.int .i64 0))], [(2, ((Manifest.enc p0).map .t))], []⟩ ?_
  refine Wp.srg [] [] ?_
  refine Runs.batch 3 kr ?_
  obtain ⟨r1, e_r1, h⟩ := bind_some h
  refine Runs.callK false 8 158 [] [.t (.sl 2 (p0.fSums.map Sum.enc)), .t (.int .i64 p1)] _ _ _ rfl rfl kr kr kr kr kr (laws_szSumS_ok u p0.fSums p1 r1 e_r1) kr ?_
  refine Runs.alln ?_
  refine Wp.fg ⟨[(1, .t (.int .i64 r1)), (4, .t (.int .i64 0))], [], []⟩ ?_
  refine Wp.seq ?_
  refine Wp.srg [] [] ?_
  refine Runs.alln ?_
  refine Wp.fg ⟨[(1, .t (.int .i64 r1)), (4, .t (.int .i64 0)), (10, .t (.bool (decide (r1 < 0))))], [], []⟩ ?_
  refine Wp.cond2 (b := decide (r1 < 0)) kr (fun hc => ?_) (fun hc => ?_)
  · have h := cond_t h hc
    refine Wp.srg [] [] ?_
    refine Runs.alln ?_
    refine Wp.fg ⟨[(1, .t (.int .i64 r1)), (4, .t (.int .i64 (-1)))], [], []⟩ ?_
    refine Wp.ret ?_
    refine thenR ?_
    obtain rfl := Option.some.inj h
    exact RetK [.t (.int .i64 (-1))] _ [] kr kr (.refl _) .nil
  have h := cond_f h hc
  refine Wp.skip (thenN ?_)
  refine Wp.srg [] [] ?_
  refine Runs.alln ?_
  refine Wp.fg ⟨[(4, .t (.int .i64 r1))], [], []⟩ ?_
  refine Wp.ret ?_
  obtain rfl := Option.some.inj h
  exact RetK [.t (.int .i64 r1)] _ [] kr kr (.refl _) .nil
theorem laws_szBuild_ok (u : Nat) (p0 : Build) (p1 : Int) (r : Int) (h : laws_szBuild u p0 p1 = some r) : CallOK Tryz.prog 108 [.agg [.t (.int .i64 p0.fHave), .t (.sl 1 (p0.fBuf.map (eInt .u8)))], .one (.t (.int .i64 p1))] (.one (.t (.int .i64 r))) [] := by
  unfold laws_szBuild at h
  refine CallOK.of_bodyK (fn := Tryz.f108) (m := false) [.agg [.t (.int .i64 p0.fHave), .t (.sl 1 (p0.fBuf.map (eInt .u8)))], .t (.int .i64 p1)] kr rfl kr kr kr kr kr ?_
  refine Wp.srg [] [] ?_
  refine Runs.alln ?_
  refine Wp.fg ⟨[(1, .t (.int .i64 p1)), (2, .obj 2 0), (4, .t (.int .i64 0))], [(2, [.t (.int .i64 p0.fHave), .t (.sl 1 (p0.fBuf.map (eInt .u8)))])], []⟩ ?_
  refine Wp.srg [] [] ?_
  refine Runs.batch 3 kr ?_
  obtain ⟨r1, e_r1, h⟩ := bind_some h
  refine Runs.callK false 8 31 [] [.t (.sl 1 (p0.fBuf.map (eInt .u8))), .t (.int .i64 p1)] _ _ _ rfl rfl kr kr kr kr kr (laws_szByteS_ok u p0.fBuf p1 r1 e_r1) kr ?_
  refine Runs.alln ?_
  refine Wp.fg ⟨[(1, .t (.int .i64 r1)), (4, .t (.int .i64 0))], [], []⟩ ?_
  refine Wp.seq ?_
  refine Wp.srg [] [] ?_
  refine Runs.alln ?_
  refine Wp.fg ⟨[(1, .t (.int .i64 r1)), (4, .t (.int .i64 0)), (10, .t (.bool (decide (r1 < 0))))], [], []⟩ ?_
  refine Wp.cond2 (b := decide (r1 < 0)) kr (fun hc => ?_) (fun hc => ?_)
  · have h := cond_t h hc
    refine Wp.srg [] [] ?_
    refine Runs.alln ?_
    refine Wp.fg ⟨[(1, .t (.int .i64 r1)), (4, .t (.int .i64 (-1)))], [], []⟩ ?_
    refine Wp.ret ?_
    refine thenR ?_
    obtain rfl := Option.some.inj h
    exact RetK [.t (.int .i64 (-1))] _ [] kr kr (.refl _) .nil
  have h := cond_f h hc
  refine Wp.skip (thenN ?_)
  refine Wp.srg [] [] ?_
  refine Runs.alln ?_
  refine Wp.fg ⟨[(4, .t (.int .i64 r1))], [], []⟩ ?_
  refine Wp.ret ?_
  obtain rfl := Option.some.inj h
  exact RetK [.t (.int .i64 r1)] _ [] kr kr (.refl _) .nil
theorem laws_szKidS_ok (u : Nat) (p0 : List Kid) (p1 : Int) (r : Int) (h : laws_szKidS u p0 p1 = some r) : CallOK Tryz.prog 109 [.one (.t (.sl 5 (p0.map Kid.enc))), .one (.t (.int .i64 p1))] (.one (.t (.int .i64 r))) [] := by
  unfold laws_szKidS at h
  refine CallOK.of_bodyK (fn := Tryz.f109) (m := false) [.t (.sl 5 (p0.map Kid.enc)), .t (.int .i64 p1)] kr rfl kr kr kr kr kr ?_
  refine Wp.srg [] [] ?_
  refine Runs.alln ?_
  refine Wp.fg ⟨[(0, .t (.sl 5 (p0.map Kid.enc))), (1, .t (.int .i64 p1)), (4, .t (.int .i64 0))], [], []⟩ ?_
  refine Wp.srg [] [] ?_
  refine Runs.batch 2 kr ?_
  refine Runs.lenT (y := .t (.sl 5 (p0.map Kid.enc))) (e := 202) Kid.enc p0 5 rfl rfl rfl kr kr kr kr kr ?_
  refine Runs.alln ?_
  refine Wp.fg ⟨[(1, .t (.int .i64 (bSub .i64 p1 ((p0.length : Int))))), (4, .t (.int .i64 0))], [], []⟩ ?_
  refine Wp.seq ?_
  refine Wp.srg [] [] ?_
  refine Runs.alln ?_
  refine Wp.fg ⟨[(1, .t (.int .i64 (bSub .i64 p1 ((p0.length : Int))))), (4, .t (.int .i64 0)), (10, .t (.bool (decide ((bSub .i64 p1 ((p0.length : Int))) < 0))))], [], []⟩ ?_
  refine Wp.cond2 (b := decide ((bSub .i64 p1 ((p0.length : Int))) < 0)) kr (fun hc => ?_) (fun hc => ?_)
  · have h := cond_t h hc
    refine Wp.srg [] [] ?_
    refine Runs.alln ?_
    refine Wp.fg ⟨[(1, .t (.int .i64 (bSub .i64 p1 ((p0.length : Int))))), (4, .t (.int .i64 (-1)))], [], []⟩ ?_
    refine Wp.ret ?_
    refine thenR ?_
    obtain rfl := Option.some.inj h
    exact RetK [.t (.int .i64 (-1))] _ [] kr kr (.refl _) .nil
  have h := cond_f h hc
  refine Wp.skip (thenN ?_)
  refine Wp.srg [] [] ?_
  refine Runs.alln ?_
  refine Wp.fg ⟨[(4, .t (.int .i64 (bSub .i64 p1 ((p0.length : Int)))))], [], []⟩ ?_
  refine Wp.ret ?_
  obtain rfl := Option.some.inj h
  exact RetK [.t (.int .i64 (bSub .i64 p1 ((p0.length : Int))))] _ [] kr kr (.refl _) .nil
theorem laws_szNode_ok (u : Nat) (p0 : Node) (p1 : Int) (r : Int) (h : laws_szNode u p0 p1 = some r) : CallOK Tryz.prog 66 [.agg [.t (.bool p0.fOn), .t (.int .i64 p0.fBoss), .t (.int .i64 p0.fQuiet), .t (.int .i64 p0.fMan.fGen), .t (.int .i64 p0.fMan.fSize), .t (.int .i64 p0.fMan.fLen), .t (.sl 2 (p0.fMan.fSums.map Sum.enc)), .t (.int .i64 p0.fBld.fHave), .t (.sl 1 (p0.fBld.fBuf.map (eInt .u8))), .t (.int .i64 p0.fPhase), .t (.sl 5 (p0.fKids.map Kid.enc)), .t (.int .i64 p0.fDrops)], .one (.t (.int .i64 p1))] (.one (.t (.int .i64 r))) [] := by
  unfold laws_szNode at h
  refine CallOK.of_bodyK (fn := Tryz.f66) (m := false) [.agg ((Node.enc p0).map .t), .t (.int .i64 p1)] kr rfl kr kr kr kr kr ?_
  refine Wp.srg [] [] ?_
  refine Runs.alln ?_
  refine Wp.fg ⟨[(1, .t (.int .i64 p1)), (2, .obj 2 0), (4, .t (.int .i64 0))], [(2, ((Node.enc p0).map .t))], []⟩ ?_
  refine Wp.srg [] [] ?_
  refine Runs.batch 3 kr ?_
  obtain ⟨r1, e_r1, h⟩ := bind_some h
  refine Runs.callK false 8 107 [] [.agg ((Manifest.enc p0.fMan).map .t), .t (.int .i64 p1)] _ _ _ rfl rfl kr kr kr kr kr (laws_szManifest_ok u p0.fMan p1 r1 e_r1) kr ?_
  refine Runs.alln ?_
  refine Wp.fg ⟨[(1, .t (.int .i64 r1)), (2, .obj 2 0), (4, .t (.int .i64 0))], [(2, ((Node.enc p0).map .t))], []⟩ ?_
  refine Wp.seq ?_
  refine Wp.srg [] [] ?_
  refine Runs.alln ?_
  refine Wp.fg ⟨[(1, .t (.int .i64 r1)), (2, .obj 2 0), (4, .t (.int .i64 0)), (10, .t (.bool (decide (r1 < 0))))], [(2, ((Node.enc p0).map .t))], []⟩ ?_
  refine Wp.cond2 (b := decide (r1 < 0)) kr (fun hc => ?_) (fun hc => ?_)
  · have h := cond_t h hc
    refine Wp.srg [] [] ?_
    refine Runs.alln ?_
    refine Wp.fg ⟨[(1, .t (.int .i64 r1)), (2, .obj 2 0), (4, .t (.int .i64 (-1)))], [(2, ((Node.enc p0).map .t))], []⟩ ?_
    refine Wp.ret ?_
    refine thenR ?_
    obtain rfl := Option.some.inj h
    exact RetK [.t (.int .i64 (-1))] _ [] kr kr (.refl _) .nil
  have h := cond_f h hc
  refine Wp.skip (thenN ?_)
  refine Wp.srg [] [] ?_
  refine Runs.batch 3 kr ?_
  obtain ⟨r2, e_r2, h⟩ := bind_some h
  refine Runs.callK false 14 108 [] [.agg [.t (.int .i64 p0.fBld.fHave), .t (.sl 1 (p0.fBld.fBuf.map (eInt .u8)))], .t (.int .i64 r1)] _ _ _ rfl rfl kr kr kr kr kr (laws_szBuild_ok u p0.fBld r1 r2 e_r2) kr ?_
  refine Runs.alln ?_
  refine Wp.fg ⟨[(1, .t (.int .i64 r2)), (2, .obj 2 0), (4, .t (.int .i64 0))], [(2, ((Node.enc p0).map .t))], []⟩ ?_
  refine Wp.seq ?_
  refine Wp.srg [] [] ?_
  refine Runs.alln ?_
  refine Wp.fg ⟨[(1, .t (.int .i64 r2)), (2, .obj 2 0), (4, .t (.int .i64 0)), (16, .t (.bool (decide (r2 < 0))))], [(2, ((Node.enc p0).map .t))], []⟩ ?_
  refine Wp.cond2 (b := decide (r2 < 0)) kr (fun hc => ?_) (fun hc => ?_)
  · have h := cond_t h hc
    refine Wp.srg [] [] ?_
    refine Runs.alln ?_
    refine Wp.fg ⟨[(1, .t (.int .i64 r2)), (2, .obj 2 0), (4, .t (.int .i64 (-1)))], [(2, ((Node.enc p0).map .t))], []⟩ ?_
    refine Wp.ret ?_
    refine thenR ?_
    obtain rfl := Option.some.inj h
    exact RetK [.t (.int .i64 (-1))] _ [] kr kr (.refl _) .nil
  have h := cond_f h hc
  refine Wp.skip (thenN ?_)
  refine Wp.srg [] [] ?_
  refine Runs.batch 3 kr ?_
  obtain ⟨r3, e_r3, h⟩ := bind_some h
  refine Runs.callK false 20 109 [] [.t (.sl 5 (p0.fKids.map Kid.enc)), .t (.int .i64 r2)] _ _ _ rfl rfl kr kr kr kr kr (laws_szKidS_ok u p0.fKids r2 r3 e_r3) kr ?_
  refine Runs.alln ?_
  refine Wp.fg ⟨[(1, .t (.int .i64 r3)), (4, .t (.int .i64 0))], [], []⟩ ?_
  refine Wp.seq ?_
  refine Wp.srg [] [] ?_
  refine Runs.alln ?_
  refine Wp.fg ⟨[(1, .t (.int .i64 r3)), (4, .t (.int .i64 0)), (22, .t (.bool (decide (r3 < 0))))], [], []⟩ ?_
  refine Wp.cond2 (b := decide (r3 < 0)) kr (fun hc => ?_) (fun hc => ?_)
  · have h := cond_t h hc
    refine Wp.srg [] [] ?_
    refine Runs.alln ?_
    refine Wp.fg ⟨[(1, .t (.int .i64 r3)), (4, .t (.int .i64 (-1)))], [], []⟩ ?_
    refine Wp.ret ?_
    refine thenR ?_
    obtain rfl := Option.some.inj h
    exact RetK [.t (.int .i64 (-1))] _ [] kr kr (.refl _) .nil
  have h := cond_f h hc
  refine Wp.skip (thenN ?_)
  refine Wp.srg [] [] ?_
  refine Runs.alln ?_
  refine Wp.fg ⟨[(4, .t (.int .i64 r3))], [], []⟩ ?_
  refine Wp.ret ?_
  obtain rfl := Option.some.inj h
  exact RetK [.t (.int .i64 r3)] _ [] kr kr (.refl _) .nil
theorem laws_szNodeS_ok (u : Nat) (p0 : List Node) (p1 : Int) (r : Int) (h : laws_szNodeS u p0 p1 = some r) : CallOK Tryz.prog 32 [.one (.t (.sl 12 (p0.map Node.enc))), .one (.t (.int .i64 p1))] (.one (.t (.int .i64 r))) [] := by
  unfold laws_szNodeS at h
  refine CallOK.of_bodyK (fn := Tryz.f32) (m := false) [.t (.sl 12 (p0.map Node.enc)), .t (.int .i64 p1)] kr rfl kr kr kr kr kr ?_
  refine Wp.srg [] [] ?_
  refine Runs.alln ?_
  refine Wp.fg ⟨[(0, .t (.sl 12 (p0.map Node.enc))), (1, .t (.int .i64 p1)), (4, .t (.int .i64 0))], [], []⟩ ?_
  refine Wp.srg [] [] ?_
  refine Runs.batch 2 kr ?_
  refine Runs.lenT (y := .t (.sl 12 (p0.map Node.enc))) (e := 110) Node.enc p0 12 rfl rfl rfl kr kr kr kr kr ?_
  refine Runs.alln ?_
  refine Wp.fg ⟨[(0, .t (.sl 12 (p0.map Node.enc))), (1, .t (.int .i64 (bSub .i64 p1 ((p0.length : Int))))), (4, .t (.int .i64 0))], [], []⟩ ?_
  refine Wp.seq ?_
  refine Wp.srg [] [] ?_
  refine Runs.alln ?_
  refine Wp.fg ⟨[(0, .t (.sl 12 (p0.map Node.enc))), (1, .t (.int .i64 (bSub .i64 p1 ((p0.length : Int))))), (4, .t (.int .i64 0)), (11, .t (.bool (decide ((bSub .i64 p1 ((p0.length : Int))) < 0))))], [], []⟩ ?_
  refine Wp.cond2 (b := decide ((bSub .i64 p1 ((p0.length : Int))) < 0)) kr (fun hc => ?_) (fun hc => ?_)
  · have h := cond_t h hc
    refine Wp.srg [] [] ?_
    refine Runs.alln ?_
    refine Wp.fg ⟨[(0, .t (.sl 12 (p0.map Node.enc))), (1, .t (.int .i64 (bSub .i64 p1 ((p0.length : Int))))), (4, .t (.int .i64 (-1)))], [], []⟩ ?_
    refine Wp.ret ?_
    refine thenR ?_
    obtain rfl := Option.some.inj h
    exact RetK [.t (.int .i64 (-1))] _ [] kr kr (.refl _) .nil
  have h := cond_f h hc
  refine Wp.skip (thenN ?_)
  refine Wp.seqJ (α := Int) (fun a => ⟨[(1, .t (.int .i64 a)), (4, .t (.int .i64 0))], [], []⟩) (fun a => laws_szNodeS_j1 u a = some r) ?_ ?_
  · rintro x9 h
    change laws_szNodeS_j1 u x9 = some r at h
    unfold laws_szNodeS_j1 at h
    refine Wp.srg [] [] ?_
    refine Runs.alln ?_
    refine Wp.fg ⟨[(4, .t (.int .i64 x9))], [], []⟩ ?_
    refine Wp.ret ?_
    obtain rfl := Option.some.inj h
    exact RetK [.t (.int .i64 x9)] _ [] kr kr (.refl _) .nil
  · refine Wp.srg [] [] ?_
    refine Runs.alln ?_
    refine Wp.fg ⟨[(0, .t (.sl 12 (p0.map Node.enc))), (1, .t (.int .i64 (bSub .i64 p1 ((p0.length : Int))))), (4, .t (.int .i64 0)), (5, .t (.int .i64 0))], [], []⟩ ?_
    refine Wp.block ?_
    refine Wp.loopF (α := (List Node) × Int × Int) (fun a => ⟨[(0, .t (.sl 12 (a.1.map Node.enc))), (1, .t (.int .i64 a.2.1)), (4, .t (.int .i64 0)), (5, .t (.int .i64 a.2.2))], [], []⟩) (fun k_laws_szNodeS_l2 a => laws_szNodeS_l2 u k_laws_szNodeS_l2 a.1 a.2.1 a.2.2 = some r) ?_ ?_ u (p0, bSub .i64 p1 ((p0.length : Int)), 0) h (Le.of (mo := []) (mr := []) kr kr kr kr)
    · intro a h; unfold laws_szNodeS_l2 at h; cases h
    · rintro k_laws_szNodeS_l2 ⟨p0, x3, x4⟩ h
      change laws_szNodeS_l2 u (k_laws_szNodeS_l2 + 1) p0 x3 x4 = some r at h
      rw [laws_szNodeS_l2] at h
      refine Wp.seq ?_
      refine Wp.srg [] [] ?_
      refine Runs.batch 2 kr ?_
      refine Runs.lenT (y := .t (.sl 12 (p0.map Node.enc))) (e := 110) Node.enc p0 12 rfl rfl rfl kr kr kr kr kr ?_
      refine Runs.alln ?_
      refine Wp.fg ⟨[(0, .t (.sl 12 (p0.map Node.enc))), (1, .t (.int .i64 x3)), (4, .t (.int .i64 0)), (5, .t (.int .i64 x4)), (15, .t (.bool (decide (x4 < ((p0.length : Int))))))], [], []⟩ ?_
      refine Wp.cond2 (b := decide (x4 < ((p0.length : Int)))) kr (fun hc => ?_) (fun hc => ?_)
      · have h := cond_t h hc
        refine Wp.skip (thenN ?_)
        refine Wp.seq ?_
        refine Wp.block ?_
        refine Wp.srg [] [] ?_
        refine Runs.batch 2 kr ?_
        obtain ⟨y7, e_y7, h⟩ := bind_some h
        refine Runs.idxT (e := 110) (kk := .i64) (sz := 12) Node.enc p0 x4 rfl kr kr kr kr kr kr e_y7 ?_
        refine Runs.batch 2 kr ?_
        obtain ⟨r8, e_r8, h⟩ := bind_some h
        refine Runs.callK false 23 66 [] [.agg ((Node.enc y7).map .t), .t (.int .i64 x3)] _ _ _ rfl rfl kr kr kr kr kr (laws_szNode_ok u y7 x3 r8 e_r8) kr ?_
        refine Runs.alln ?_
        refine Wp.fg ⟨[(0, .t (.sl 12 (p0.map Node.enc))), (1, .t (.int .i64 r8)), (4, .t (.int .i64 0)), (5, .t (.int .i64 x4))], [], []⟩ ?_
        refine Wp.srg [] [] ?_
        refine Runs.alln ?_
        refine Wp.fg ⟨[(0, .t (.sl 12 (p0.map Node.enc))), (1, .t (.int .i64 r8)), (4, .t (.int .i64 0)), (5, .t (.int .i64 x4)), (25, .t (.bool (decide (r8 < 0))))], [], []⟩ ?_
        refine Wp.cond2 (b := decide (r8 < 0)) kr (fun hc => ?_) (fun hc => ?_)
        · have h := cond_t h hc
          refine Wp.srg [] [] ?_
          refine Runs.alln ?_
          refine Wp.fg ⟨[(0, .t (.sl 12 (p0.map Node.enc))), (1, .t (.int .i64 r8)), (4, .t (.int .i64 (-1))), (5, .t (.int .i64 x4))], [], []⟩ ?_
          refine Wp.ret ?_
          refine blkR ?_
          refine thenR ?_
          refine thenR ?_
          refine blkR ?_
          refine thenR ?_
          obtain rfl := Option.some.inj h
          exact RetK [.t (.int .i64 (-1))] _ [] kr kr (.refl _) .nil
        have h := cond_f h hc
        refine Wp.skip ?_
        refine blkN ?_
        refine thenN ?_
        refine Wp.rg [] [] ?_
        refine Runs.alln ?_
        exact ⟨(p0, r8, bAdd .i64 x4 1), h, Le.of (mo := []) (mr := []) kr kr kr kr⟩
      have h := cond_f h hc
      refine Wp.exit ?_
      refine thenE ?_
      refine thenE ?_
      refine blkE ?_
      refine thenN ?_
      exact ⟨x3, h, Le.of (mo := []) (mr := []) kr kr kr kr⟩
theorem laws_szPut_ok (u : Nat) (p0 : Put) (p1 : Int) (r : Int) (h : laws_szPut u p0 p1 = some r) : CallOK Tryz.prog 159 [.agg [.t (.int .i64 p0.fWhat), .t (.int .i64 p0.fAt), .t (.sl 1 (p0.fB.map (eInt .u8))), .t (.int .i64 p0.fR.fGen), .t (.int .i64 p0.fR.fSlot), .t (.int .i64 p0.fR.fLen)], .one (.t (.int .i64 p1))] (.one (.t (.int .i64 r))) [] := by
  unfold laws_szPut at h
  refine CallOK.of_bodyK (fn := Tryz.f159) (m := false) [.agg ((Put.enc p0).map .t), .t (.int .i64 p1)] kr rfl kr kr kr kr kr ?_
  refine Wp.srg [] [] ?_
  refine Runs.alln ?_
  refine Wp.fg ⟨[(1, .t (.int .i64 p1)), (2, .obj 2 0), (4, .t (.int .i64 0))], [(2, ((Put.enc p0).map .t))], []⟩ ?_
  refine Wp.srg [] [] ?_
  refine Runs.batch 3 kr ?_
  obtain ⟨r1, e_r1, h⟩ := bind_some h
  refine Runs.callK false 8 31 [] [.t (.sl 1 (p0.fB.map (eInt .u8))), .t (.int .i64 p1)] _ _ _ rfl rfl kr kr kr kr kr (laws_szByteS_ok u p0.fB p1 r1 e_r1) kr ?_
  refine Runs.alln ?_
  refine Wp.fg ⟨[(1, .t (.int .i64 r1)), (4, .t (.int .i64 0))], [], []⟩ ?_
  refine Wp.seq ?_
  refine Wp.srg [] [] ?_
  refine Runs.alln ?_
  refine Wp.fg ⟨[(1, .t (.int .i64 r1)), (4, .t (.int .i64 0)), (10, .t (.bool (decide (r1 < 0))))], [], []⟩ ?_
  refine Wp.cond2 (b := decide (r1 < 0)) kr (fun hc => ?_) (fun hc => ?_)
  · have h := cond_t h hc
    refine Wp.srg [] [] ?_
    refine Runs.alln ?_
    refine Wp.fg ⟨[(1, .t (.int .i64 r1)), (4, .t (.int .i64 (-1)))], [], []⟩ ?_
    refine Wp.ret ?_
    refine thenR ?_
    obtain rfl := Option.some.inj h
    exact RetK [.t (.int .i64 (-1))] _ [] kr kr (.refl _) .nil
  have h := cond_f h hc
  refine Wp.skip (thenN ?_)
  refine Wp.srg [] [] ?_
  refine Runs.alln ?_
  refine Wp.fg ⟨[(4, .t (.int .i64 r1))], [], []⟩ ?_
  refine Wp.ret ?_
  obtain rfl := Option.some.inj h
  exact RetK [.t (.int .i64 r1)] _ [] kr kr (.refl _) .nil
theorem laws_szPutS_ok (u : Nat) (p0 : List Put) (p1 : Int) (r : Int) (h : laws_szPutS u p0 p1 = some r) : CallOK Tryz.prog 110 [.one (.t (.sl 6 (p0.map Put.enc))), .one (.t (.int .i64 p1))] (.one (.t (.int .i64 r))) [] := by
  unfold laws_szPutS at h
  refine CallOK.of_bodyK (fn := Tryz.f110) (m := false) [.t (.sl 6 (p0.map Put.enc)), .t (.int .i64 p1)] kr rfl kr kr kr kr kr ?_
  refine Wp.srg [] [] ?_
  refine Runs.alln ?_
  refine Wp.fg ⟨[(0, .t (.sl 6 (p0.map Put.enc))), (1, .t (.int .i64 p1)), (4, .t (.int .i64 0))], [], []⟩ ?_
  refine Wp.srg [] [] ?_
  refine Runs.batch 2 kr ?_
  refine Runs.lenT (y := .t (.sl 6 (p0.map Put.enc))) (e := 197) Put.enc p0 6 rfl rfl rfl kr kr kr kr kr ?_
  refine Runs.alln ?_
  refine Wp.fg ⟨[(0, .t (.sl 6 (p0.map Put.enc))), (1, .t (.int .i64 (bSub .i64 p1 ((p0.length : Int))))), (4, .t (.int .i64 0))], [], []⟩ ?_
  refine Wp.seq ?_
  refine Wp.srg [] [] ?_
  refine Runs.alln ?_
  refine Wp.fg ⟨[(0, .t (.sl 6 (p0.map Put.enc))), (1, .t (.int .i64 (bSub .i64 p1 ((p0.length : Int))))), (4, .t (.int .i64 0)), (11, .t (.bool (decide ((bSub .i64 p1 ((p0.length : Int))) < 0))))], [], []⟩ ?_
  refine Wp.cond2 (b := decide ((bSub .i64 p1 ((p0.length : Int))) < 0)) kr (fun hc => ?_) (fun hc => ?_)
  · have h := cond_t h hc
    refine Wp.srg [] [] ?_
    refine Runs.alln ?_
    refine Wp.fg ⟨[(0, .t (.sl 6 (p0.map Put.enc))), (1, .t (.int .i64 (bSub .i64 p1 ((p0.length : Int))))), (4, .t (.int .i64 (-1)))], [], []⟩ ?_
    refine Wp.ret ?_
    refine thenR ?_
    obtain rfl := Option.some.inj h
    exact RetK [.t (.int .i64 (-1))] _ [] kr kr (.refl _) .nil
  have h := cond_f h hc
  refine Wp.skip (thenN ?_)
  refine Wp.seqJ (α := Int) (fun a => ⟨[(1, .t (.int .i64 a)), (4, .t (.int .i64 0))], [], []⟩) (fun a => laws_szPutS_j1 u a = some r) ?_ ?_
  · rintro x9 h
    change laws_szPutS_j1 u x9 = some r at h
    unfold laws_szPutS_j1 at h
    refine Wp.srg [] [] ?_
    refine Runs.alln ?_
    refine Wp.fg ⟨[(4, .t (.int .i64 x9))], [], []⟩ ?_
    refine Wp.ret ?_
    obtain rfl := Option.some.inj h
    exact RetK [.t (.int .i64 x9)] _ [] kr kr (.refl _) .nil
  · refine Wp.srg [] [] ?_
    refine Runs.alln ?_
    refine Wp.fg ⟨[(0, .t (.sl 6 (p0.map Put.enc))), (1, .t (.int .i64 (bSub .i64 p1 ((p0.length : Int))))), (4, .t (.int .i64 0)), (5, .t (.int .i64 0))], [], []⟩ ?_
    refine Wp.block ?_
    refine Wp.loopF (α := (List Put) × Int × Int) (fun a => ⟨[(0, .t (.sl 6 (a.1.map Put.enc))), (1, .t (.int .i64 a.2.1)), (4, .t (.int .i64 0)), (5, .t (.int .i64 a.2.2))], [], []⟩) (fun k_laws_szPutS_l2 a => laws_szPutS_l2 u k_laws_szPutS_l2 a.1 a.2.1 a.2.2 = some r) ?_ ?_ u (p0, bSub .i64 p1 ((p0.length : Int)), 0) h (Le.of (mo := []) (mr := []) kr kr kr kr)
    · intro a h; unfold laws_szPutS_l2 at h; cases h
    · rintro k_laws_szPutS_l2 ⟨p0, x3, x4⟩ h
      change laws_szPutS_l2 u (k_laws_szPutS_l2 + 1) p0 x3 x4 = some r at h
      rw [laws_szPutS_l2] at h
      refine Wp.seq ?_
      refine Wp.srg [] [] ?_
      refine Runs.batch 2 kr ?_
      refine Runs.lenT (y := .t (.sl 6 (p0.map Put.enc))) (e := 197) Put.enc p0 6 rfl rfl rfl kr kr kr kr kr ?_
      refine Runs.alln ?_
      refine Wp.fg ⟨[(0, .t (.sl 6 (p0.map Put.enc))), (1, .t (.int .i64 x3)), (4, .t (.int .i64 0)), (5, .t (.int .i64 x4)), (15, .t (.bool (decide (x4 < ((p0.length : Int))))))], [], []⟩ ?_
      refine Wp.cond2 (b := decide (x4 < ((p0.length : Int)))) kr (fun hc => ?_) (fun hc => ?_)
      · have h := cond_t h hc
        refine Wp.skip (thenN ?_)
        refine Wp.seq ?_
        refine Wp.block ?_
        refine Wp.srg [] [] ?_
        refine Runs.batch 2 kr ?_
        obtain ⟨y7, e_y7, h⟩ := bind_some h
        refine Runs.idxT (e := 197) (kk := .i64) (sz := 6) Put.enc p0 x4 rfl kr kr kr kr kr kr e_y7 ?_
        refine Runs.batch 2 kr ?_
        obtain ⟨r8, e_r8, h⟩ := bind_some h
        refine Runs.callK false 23 159 [] [.agg ((Put.enc y7).map .t), .t (.int .i64 x3)] _ _ _ rfl rfl kr kr kr kr kr (laws_szPut_ok u y7 x3 r8 e_r8) kr ?_
        refine Runs.alln ?_
        refine Wp.fg ⟨[(0, .t (.sl 6 (p0.map Put.enc))), (1, .t (.int .i64 r8)), (4, .t (.int .i64 0)), (5, .t (.int .i64 x4))], [], []⟩ ?_
        refine Wp.srg [] [] ?_
        refine Runs.alln ?_
        refine Wp.fg ⟨[(0, .t (.sl 6 (p0.map Put.enc))), (1, .t (.int .i64 r8)), (4, .t (.int .i64 0)), (5, .t (.int .i64 x4)), (25, .t (.bool (decide (r8 < 0))))], [], []⟩ ?_
        refine Wp.cond2 (b := decide (r8 < 0)) kr (fun hc => ?_) (fun hc => ?_)
        · have h := cond_t h hc
          refine Wp.srg [] [] ?_
          refine Runs.alln ?_
          refine Wp.fg ⟨[(0, .t (.sl 6 (p0.map Put.enc))), (1, .t (.int .i64 r8)), (4, .t (.int .i64 (-1))), (5, .t (.int .i64 x4))], [], []⟩ ?_
          refine Wp.ret ?_
          refine blkR ?_
          refine thenR ?_
          refine thenR ?_
          refine blkR ?_
          refine thenR ?_
          obtain rfl := Option.some.inj h
          exact RetK [.t (.int .i64 (-1))] _ [] kr kr (.refl _) .nil
        have h := cond_f h hc
        refine Wp.skip ?_
        refine blkN ?_
        refine thenN ?_
        refine Wp.rg [] [] ?_
        refine Runs.alln ?_
        exact ⟨(p0, r8, bAdd .i64 x4 1), h, Le.of (mo := []) (mr := []) kr kr kr kr⟩
      have h := cond_f h hc
      refine Wp.exit ?_
      refine thenE ?_
      refine thenE ?_
      refine blkE ?_
      refine thenN ?_
      exact ⟨x3, h, Le.of (mo := []) (mr := []) kr kr kr kr⟩
theorem laws_szDisk_ok (u : Nat) (p0 : Disk) (p1 : Int) (r : Int) (h : laws_szDisk u p0 p1 = some r) : CallOK Tryz.prog 67 [.agg [.t (.sl 1 (p0.fA.map (eInt .u8))), .t (.sl 1 (p0.fB.map (eInt .u8))), .t (.int .i64 p0.fR.fGen), .t (.int .i64 p0.fR.fSlot), .t (.int .i64 p0.fR.fLen), .t (.sl 6 (p0.fP.map Put.enc))], .one (.t (.int .i64 p1))] (.one (.t (.int .i64 r))) [] := by
  unfold laws_szDisk at h
  refine CallOK.of_bodyK (fn := Tryz.f67) (m := false) [.agg ((Disk.enc p0).map .t), .t (.int .i64 p1)] kr rfl kr kr kr kr kr ?_
  refine Wp.srg [] [] ?_
  refine Runs.alln ?_
  refine Wp.fg ⟨[(1, .t (.int .i64 p1)), (2, .obj 2 0), (4, .t (.int .i64 0))], [(2, ((Disk.enc p0).map .t))], []⟩ ?_
  refine Wp.srg [] [] ?_
  refine Runs.batch 3 kr ?_
  obtain ⟨r1, e_r1, h⟩ := bind_some h
  refine Runs.callK false 8 31 [] [.t (.sl 1 (p0.fA.map (eInt .u8))), .t (.int .i64 p1)] _ _ _ rfl rfl kr kr kr kr kr (laws_szByteS_ok u p0.fA p1 r1 e_r1) kr ?_
  refine Runs.alln ?_
  refine Wp.fg ⟨[(1, .t (.int .i64 r1)), (2, .obj 2 0), (4, .t (.int .i64 0))], [(2, ((Disk.enc p0).map .t))], []⟩ ?_
  refine Wp.seq ?_
  refine Wp.srg [] [] ?_
  refine Runs.alln ?_
  refine Wp.fg ⟨[(1, .t (.int .i64 r1)), (2, .obj 2 0), (4, .t (.int .i64 0)), (10, .t (.bool (decide (r1 < 0))))], [(2, ((Disk.enc p0).map .t))], []⟩ ?_
  refine Wp.cond2 (b := decide (r1 < 0)) kr (fun hc => ?_) (fun hc => ?_)
  · have h := cond_t h hc
    refine Wp.srg [] [] ?_
    refine Runs.alln ?_
    refine Wp.fg ⟨[(1, .t (.int .i64 r1)), (2, .obj 2 0), (4, .t (.int .i64 (-1)))], [(2, ((Disk.enc p0).map .t))], []⟩ ?_
    refine Wp.ret ?_
    refine thenR ?_
    obtain rfl := Option.some.inj h
    exact RetK [.t (.int .i64 (-1))] _ [] kr kr (.refl _) .nil
  have h := cond_f h hc
  refine Wp.skip (thenN ?_)
  refine Wp.srg [] [] ?_
  refine Runs.batch 3 kr ?_
  obtain ⟨r2, e_r2, h⟩ := bind_some h
  refine Runs.callK false 14 31 [] [.t (.sl 1 (p0.fB.map (eInt .u8))), .t (.int .i64 r1)] _ _ _ rfl rfl kr kr kr kr kr (laws_szByteS_ok u p0.fB r1 r2 e_r2) kr ?_
  refine Runs.alln ?_
  refine Wp.fg ⟨[(1, .t (.int .i64 r2)), (2, .obj 2 0), (4, .t (.int .i64 0))], [(2, ((Disk.enc p0).map .t))], []⟩ ?_
  refine Wp.seq ?_
  refine Wp.srg [] [] ?_
  refine Runs.alln ?_
  refine Wp.fg ⟨[(1, .t (.int .i64 r2)), (2, .obj 2 0), (4, .t (.int .i64 0)), (16, .t (.bool (decide (r2 < 0))))], [(2, ((Disk.enc p0).map .t))], []⟩ ?_
  refine Wp.cond2 (b := decide (r2 < 0)) kr (fun hc => ?_) (fun hc => ?_)
  · have h := cond_t h hc
    refine Wp.srg [] [] ?_
    refine Runs.alln ?_
    refine Wp.fg ⟨[(1, .t (.int .i64 r2)), (2, .obj 2 0), (4, .t (.int .i64 (-1)))], [(2, ((Disk.enc p0).map .t))], []⟩ ?_
    refine Wp.ret ?_
    refine thenR ?_
    obtain rfl := Option.some.inj h
    exact RetK [.t (.int .i64 (-1))] _ [] kr kr (.refl _) .nil
  have h := cond_f h hc
  refine Wp.skip (thenN ?_)
  refine Wp.srg [] [] ?_
  refine Runs.batch 3 kr ?_
  obtain ⟨r3, e_r3, h⟩ := bind_some h
  refine Runs.callK false 20 110 [] [.t (.sl 6 (p0.fP.map Put.enc)), .t (.int .i64 r2)] _ _ _ rfl rfl kr kr kr kr kr (laws_szPutS_ok u p0.fP r2 r3 e_r3) kr ?_
  refine Runs.alln ?_
  refine Wp.fg ⟨[(1, .t (.int .i64 r3)), (4, .t (.int .i64 0))], [], []⟩ ?_
  refine Wp.seq ?_
  refine Wp.srg [] [] ?_
  refine Runs.alln ?_
  refine Wp.fg ⟨[(1, .t (.int .i64 r3)), (4, .t (.int .i64 0)), (22, .t (.bool (decide (r3 < 0))))], [], []⟩ ?_
  refine Wp.cond2 (b := decide (r3 < 0)) kr (fun hc => ?_) (fun hc => ?_)
  · have h := cond_t h hc
    refine Wp.srg [] [] ?_
    refine Runs.alln ?_
    refine Wp.fg ⟨[(1, .t (.int .i64 r3)), (4, .t (.int .i64 (-1)))], [], []⟩ ?_
    refine Wp.ret ?_
    refine thenR ?_
    obtain rfl := Option.some.inj h
    exact RetK [.t (.int .i64 (-1))] _ [] kr kr (.refl _) .nil
  have h := cond_f h hc
  refine Wp.skip (thenN ?_)
  refine Wp.srg [] [] ?_
  refine Runs.alln ?_
  refine Wp.fg ⟨[(4, .t (.int .i64 r3))], [], []⟩ ?_
  refine Wp.ret ?_
  obtain rfl := Option.some.inj h
  exact RetK [.t (.int .i64 r3)] _ [] kr kr (.refl _) .nil
theorem laws_szDiskS_ok (u : Nat) (p0 : List Disk) (p1 : Int) (r : Int) (h : laws_szDiskS u p0 p1 = some r) : CallOK Tryz.prog 33 [.one (.t (.sl 6 (p0.map Disk.enc))), .one (.t (.int .i64 p1))] (.one (.t (.int .i64 r))) [] := by
  unfold laws_szDiskS at h
  refine CallOK.of_bodyK (fn := Tryz.f33) (m := false) [.t (.sl 6 (p0.map Disk.enc)), .t (.int .i64 p1)] kr rfl kr kr kr kr kr ?_
  refine Wp.srg [] [] ?_
  refine Runs.alln ?_
  refine Wp.fg ⟨[(0, .t (.sl 6 (p0.map Disk.enc))), (1, .t (.int .i64 p1)), (4, .t (.int .i64 0))], [], []⟩ ?_
  refine Wp.srg [] [] ?_
  refine Runs.batch 2 kr ?_
  refine Runs.lenT (y := .t (.sl 6 (p0.map Disk.enc))) (e := 116) Disk.enc p0 6 rfl rfl rfl kr kr kr kr kr ?_
  refine Runs.alln ?_
  refine Wp.fg ⟨[(0, .t (.sl 6 (p0.map Disk.enc))), (1, .t (.int .i64 (bSub .i64 p1 ((p0.length : Int))))), (4, .t (.int .i64 0))], [], []⟩ ?_
  refine Wp.seq ?_
  refine Wp.srg [] [] ?_
  refine Runs.alln ?_
  refine Wp.fg ⟨[(0, .t (.sl 6 (p0.map Disk.enc))), (1, .t (.int .i64 (bSub .i64 p1 ((p0.length : Int))))), (4, .t (.int .i64 0)), (11, .t (.bool (decide ((bSub .i64 p1 ((p0.length : Int))) < 0))))], [], []⟩ ?_
  refine Wp.cond2 (b := decide ((bSub .i64 p1 ((p0.length : Int))) < 0)) kr (fun hc => ?_) (fun hc => ?_)
  · have h := cond_t h hc
    refine Wp.srg [] [] ?_
    refine Runs.alln ?_
    refine Wp.fg ⟨[(0, .t (.sl 6 (p0.map Disk.enc))), (1, .t (.int .i64 (bSub .i64 p1 ((p0.length : Int))))), (4, .t (.int .i64 (-1)))], [], []⟩ ?_
    refine Wp.ret ?_
    refine thenR ?_
    obtain rfl := Option.some.inj h
    exact RetK [.t (.int .i64 (-1))] _ [] kr kr (.refl _) .nil
  have h := cond_f h hc
  refine Wp.skip (thenN ?_)
  refine Wp.seqJ (α := Int) (fun a => ⟨[(1, .t (.int .i64 a)), (4, .t (.int .i64 0))], [], []⟩) (fun a => laws_szDiskS_j1 u a = some r) ?_ ?_
  · rintro x9 h
    change laws_szDiskS_j1 u x9 = some r at h
    unfold laws_szDiskS_j1 at h
    refine Wp.srg [] [] ?_
    refine Runs.alln ?_
    refine Wp.fg ⟨[(4, .t (.int .i64 x9))], [], []⟩ ?_
    refine Wp.ret ?_
    obtain rfl := Option.some.inj h
    exact RetK [.t (.int .i64 x9)] _ [] kr kr (.refl _) .nil
  · refine Wp.srg [] [] ?_
    refine Runs.alln ?_
    refine Wp.fg ⟨[(0, .t (.sl 6 (p0.map Disk.enc))), (1, .t (.int .i64 (bSub .i64 p1 ((p0.length : Int))))), (4, .t (.int .i64 0)), (5, .t (.int .i64 0))], [], []⟩ ?_
    refine Wp.block ?_
    refine Wp.loopF (α := (List Disk) × Int × Int) (fun a => ⟨[(0, .t (.sl 6 (a.1.map Disk.enc))), (1, .t (.int .i64 a.2.1)), (4, .t (.int .i64 0)), (5, .t (.int .i64 a.2.2))], [], []⟩) (fun k_laws_szDiskS_l2 a => laws_szDiskS_l2 u k_laws_szDiskS_l2 a.1 a.2.1 a.2.2 = some r) ?_ ?_ u (p0, bSub .i64 p1 ((p0.length : Int)), 0) h (Le.of (mo := []) (mr := []) kr kr kr kr)
    · intro a h; unfold laws_szDiskS_l2 at h; cases h
    · rintro k_laws_szDiskS_l2 ⟨p0, x3, x4⟩ h
      change laws_szDiskS_l2 u (k_laws_szDiskS_l2 + 1) p0 x3 x4 = some r at h
      rw [laws_szDiskS_l2] at h
      refine Wp.seq ?_
      refine Wp.srg [] [] ?_
      refine Runs.batch 2 kr ?_
      refine Runs.lenT (y := .t (.sl 6 (p0.map Disk.enc))) (e := 116) Disk.enc p0 6 rfl rfl rfl kr kr kr kr kr ?_
      refine Runs.alln ?_
      refine Wp.fg ⟨[(0, .t (.sl 6 (p0.map Disk.enc))), (1, .t (.int .i64 x3)), (4, .t (.int .i64 0)), (5, .t (.int .i64 x4)), (15, .t (.bool (decide (x4 < ((p0.length : Int))))))], [], []⟩ ?_
      refine Wp.cond2 (b := decide (x4 < ((p0.length : Int)))) kr (fun hc => ?_) (fun hc => ?_)
      · have h := cond_t h hc
        refine Wp.skip (thenN ?_)
        refine Wp.seq ?_
        refine Wp.block ?_
        refine Wp.srg [] [] ?_
        refine Runs.batch 2 kr ?_
        obtain ⟨y7, e_y7, h⟩ := bind_some h
        refine Runs.idxT (e := 116) (kk := .i64) (sz := 6) Disk.enc p0 x4 rfl kr kr kr kr kr kr e_y7 ?_
        refine Runs.batch 2 kr ?_
        obtain ⟨r8, e_r8, h⟩ := bind_some h
        refine Runs.callK false 23 67 [] [.agg ((Disk.enc y7).map .t), .t (.int .i64 x3)] _ _ _ rfl rfl kr kr kr kr kr (laws_szDisk_ok u y7 x3 r8 e_r8) kr ?_
        refine Runs.alln ?_
        refine Wp.fg ⟨[(0, .t (.sl 6 (p0.map Disk.enc))), (1, .t (.int .i64 r8)), (4, .t (.int .i64 0)), (5, .t (.int .i64 x4))], [], []⟩ ?_
        refine Wp.srg [] [] ?_
        refine Runs.alln ?_
        refine Wp.fg ⟨[(0, .t (.sl 6 (p0.map Disk.enc))), (1, .t (.int .i64 r8)), (4, .t (.int .i64 0)), (5, .t (.int .i64 x4)), (25, .t (.bool (decide (r8 < 0))))], [], []⟩ ?_
        refine Wp.cond2 (b := decide (r8 < 0)) kr (fun hc => ?_) (fun hc => ?_)
        · have h := cond_t h hc
          refine Wp.srg [] [] ?_
          refine Runs.alln ?_
          refine Wp.fg ⟨[(0, .t (.sl 6 (p0.map Disk.enc))), (1, .t (.int .i64 r8)), (4, .t (.int .i64 (-1))), (5, .t (.int .i64 x4))], [], []⟩ ?_
          refine Wp.ret ?_
          refine blkR ?_
          refine thenR ?_
          refine thenR ?_
          refine blkR ?_
          refine thenR ?_
          obtain rfl := Option.some.inj h
          exact RetK [.t (.int .i64 (-1))] _ [] kr kr (.refl _) .nil
        have h := cond_f h hc
        refine Wp.skip ?_
        refine blkN ?_
        refine thenN ?_
        refine Wp.rg [] [] ?_
        refine Runs.alln ?_
        exact ⟨(p0, r8, bAdd .i64 x4 1), h, Le.of (mo := []) (mr := []) kr kr kr kr⟩
      have h := cond_f h hc
      refine Wp.exit ?_
      refine thenE ?_
      refine thenE ?_
      refine blkE ?_
      refine thenN ?_
      exact ⟨x3, h, Le.of (mo := []) (mr := []) kr kr kr kr⟩
theorem laws_szPacket_ok (u : Nat) (p0 : Packet) (p1 : Int) (r : Int) (h : laws_szPacket u p0 p1 = some r) : CallOK Tryz.prog 68 [.agg [.t (.int .i64 p0.fFrom), .t (.int .i64 p0.fTo), .t (.sl 1 (p0.fB.map (eInt .u8)))], .one (.t (.int .i64 p1))] (.one (.t (.int .i64 r))) [] := by
  unfold laws_szPacket at h
  refine CallOK.of_bodyK (fn := Tryz.f68) (m := false) [.agg ((Packet.enc p0).map .t), .t (.int .i64 p1)] kr rfl kr kr kr kr kr ?_
  refine Wp.srg [] [] ?_
  refine Runs.alln ?_
  refine Wp.fg ⟨[(1, .t (.int .i64 p1)), (2, .obj 2 0), (4, .t (.int .i64 0))], [(2, ((Packet.enc p0).map .t))], []⟩ ?_
  refine Wp.srg [] [] ?_
  refine Runs.batch 3 kr ?_
  obtain ⟨r1, e_r1, h⟩ := bind_some h
  refine Runs.callK false 8 31 [] [.t (.sl 1 (p0.fB.map (eInt .u8))), .t (.int .i64 p1)] _ _ _ rfl rfl kr kr kr kr kr (laws_szByteS_ok u p0.fB p1 r1 e_r1) kr ?_
  refine Runs.alln ?_
  refine Wp.fg ⟨[(1, .t (.int .i64 r1)), (4, .t (.int .i64 0))], [], []⟩ ?_
  refine Wp.seq ?_
  refine Wp.srg [] [] ?_
  refine Runs.alln ?_
  refine Wp.fg ⟨[(1, .t (.int .i64 r1)), (4, .t (.int .i64 0)), (10, .t (.bool (decide (r1 < 0))))], [], []⟩ ?_
  refine Wp.cond2 (b := decide (r1 < 0)) kr (fun hc => ?_) (fun hc => ?_)
  · have h := cond_t h hc
    refine Wp.srg [] [] ?_
    refine Runs.alln ?_
    refine Wp.fg ⟨[(1, .t (.int .i64 r1)), (4, .t (.int .i64 (-1)))], [], []⟩ ?_
    refine Wp.ret ?_
    refine thenR ?_
    obtain rfl := Option.some.inj h
    exact RetK [.t (.int .i64 (-1))] _ [] kr kr (.refl _) .nil
  have h := cond_f h hc
  refine Wp.skip (thenN ?_)
  refine Wp.srg [] [] ?_
  refine Runs.alln ?_
  refine Wp.fg ⟨[(4, .t (.int .i64 r1))], [], []⟩ ?_
  refine Wp.ret ?_
  obtain rfl := Option.some.inj h
  exact RetK [.t (.int .i64 r1)] _ [] kr kr (.refl _) .nil
theorem laws_szPacketS_ok (u : Nat) (p0 : List Packet) (p1 : Int) (r : Int) (h : laws_szPacketS u p0 p1 = some r) : CallOK Tryz.prog 34 [.one (.t (.sl 3 (p0.map Packet.enc))), .one (.t (.int .i64 p1))] (.one (.t (.int .i64 r))) [] := by
  unfold laws_szPacketS at h
  refine CallOK.of_bodyK (fn := Tryz.f34) (m := false) [.t (.sl 3 (p0.map Packet.enc)), .t (.int .i64 p1)] kr rfl kr kr kr kr kr ?_
  refine Wp.srg [] [] ?_
  refine Runs.alln ?_
  refine Wp.fg ⟨[(0, .t (.sl 3 (p0.map Packet.enc))), (1, .t (.int .i64 p1)), (4, .t (.int .i64 0))], [], []⟩ ?_
  refine Wp.srg [] [] ?_
  refine Runs.batch 2 kr ?_
  refine Runs.lenT (y := .t (.sl 3 (p0.map Packet.enc))) (e := 118) Packet.enc p0 3 rfl rfl rfl kr kr kr kr kr ?_
  refine Runs.alln ?_
  refine Wp.fg ⟨[(0, .t (.sl 3 (p0.map Packet.enc))), (1, .t (.int .i64 (bSub .i64 p1 ((p0.length : Int))))), (4, .t (.int .i64 0))], [], []⟩ ?_
  refine Wp.seq ?_
  refine Wp.srg [] [] ?_
  refine Runs.alln ?_
  refine Wp.fg ⟨[(0, .t (.sl 3 (p0.map Packet.enc))), (1, .t (.int .i64 (bSub .i64 p1 ((p0.length : Int))))), (4, .t (.int .i64 0)), (11, .t (.bool (decide ((bSub .i64 p1 ((p0.length : Int))) < 0))))], [], []⟩ ?_
  refine Wp.cond2 (b := decide ((bSub .i64 p1 ((p0.length : Int))) < 0)) kr (fun hc => ?_) (fun hc => ?_)
  · have h := cond_t h hc
    refine Wp.srg [] [] ?_
    refine Runs.alln ?_
    refine Wp.fg ⟨[(0, .t (.sl 3 (p0.map Packet.enc))), (1, .t (.int .i64 (bSub .i64 p1 ((p0.length : Int))))), (4, .t (.int .i64 (-1)))], [], []⟩ ?_
    refine Wp.ret ?_
    refine thenR ?_
    obtain rfl := Option.some.inj h
    exact RetK [.t (.int .i64 (-1))] _ [] kr kr (.refl _) .nil
  have h := cond_f h hc
  refine Wp.skip (thenN ?_)
  refine Wp.seqJ (α := Int) (fun a => ⟨[(1, .t (.int .i64 a)), (4, .t (.int .i64 0))], [], []⟩) (fun a => laws_szPacketS_j1 u a = some r) ?_ ?_
  · rintro x9 h
    change laws_szPacketS_j1 u x9 = some r at h
    unfold laws_szPacketS_j1 at h
    refine Wp.srg [] [] ?_
    refine Runs.alln ?_
    refine Wp.fg ⟨[(4, .t (.int .i64 x9))], [], []⟩ ?_
    refine Wp.ret ?_
    obtain rfl := Option.some.inj h
    exact RetK [.t (.int .i64 x9)] _ [] kr kr (.refl _) .nil
  · refine Wp.srg [] [] ?_
    refine Runs.alln ?_
    refine Wp.fg ⟨[(0, .t (.sl 3 (p0.map Packet.enc))), (1, .t (.int .i64 (bSub .i64 p1 ((p0.length : Int))))), (4, .t (.int .i64 0)), (5, .t (.int .i64 0))], [], []⟩ ?_
    refine Wp.block ?_
    refine Wp.loopF (α := (List Packet) × Int × Int) (fun a => ⟨[(0, .t (.sl 3 (a.1.map Packet.enc))), (1, .t (.int .i64 a.2.1)), (4, .t (.int .i64 0)), (5, .t (.int .i64 a.2.2))], [], []⟩) (fun k_laws_szPacketS_l2 a => laws_szPacketS_l2 u k_laws_szPacketS_l2 a.1 a.2.1 a.2.2 = some r) ?_ ?_ u (p0, bSub .i64 p1 ((p0.length : Int)), 0) h (Le.of (mo := []) (mr := []) kr kr kr kr)
    · intro a h; unfold laws_szPacketS_l2 at h; cases h
    · rintro k_laws_szPacketS_l2 ⟨p0, x3, x4⟩ h
      change laws_szPacketS_l2 u (k_laws_szPacketS_l2 + 1) p0 x3 x4 = some r at h
      rw [laws_szPacketS_l2] at h
      refine Wp.seq ?_
      refine Wp.srg [] [] ?_
      refine Runs.batch 2 kr ?_
      refine Runs.lenT (y := .t (.sl 3 (p0.map Packet.enc))) (e := 118) Packet.enc p0 3 rfl rfl rfl kr kr kr kr kr ?_
      refine Runs.alln ?_
      refine Wp.fg ⟨[(0, .t (.sl 3 (p0.map Packet.enc))), (1, .t (.int .i64 x3)), (4, .t (.int .i64 0)), (5, .t (.int .i64 x4)), (15, .t (.bool (decide (x4 < ((p0.length : Int))))))], [], []⟩ ?_
      refine Wp.cond2 (b := decide (x4 < ((p0.length : Int)))) kr (fun hc => ?_) (fun hc => ?_)
      · have h := cond_t h hc
        refine Wp.skip (thenN ?_)
        refine Wp.seq ?_
        refine Wp.block ?_
        refine Wp.srg [] [] ?_
        refine Runs.batch 2 kr ?_
        obtain ⟨y7, e_y7, h⟩ := bind_some h
        refine Runs.idxT (e := 118) (kk := .i64) (sz := 3) Packet.enc p0 x4 rfl kr kr kr kr kr kr e_y7 ?_
        refine Runs.batch 2 kr ?_
        obtain ⟨r8, e_r8, h⟩ := bind_some h
        refine Runs.callK false 23 68 [] [.agg ((Packet.enc y7).map .t), .t (.int .i64 x3)] _ _ _ rfl rfl kr kr kr kr kr (laws_szPacket_ok u y7 x3 r8 e_r8) kr ?_
        refine Runs.alln ?_
        refine Wp.fg ⟨[(0, .t (.sl 3 (p0.map Packet.enc))), (1, .t (.int .i64 r8)), (4, .t (.int .i64 0)), (5, .t (.int .i64 x4))], [], []⟩ ?_
        refine Wp.srg [] [] ?_
        refine Runs.alln ?_
        refine Wp.fg ⟨[(0, .t (.sl 3 (p0.map Packet.enc))), (1, .t (.int .i64 r8)), (4, .t (.int .i64 0)), (5, .t (.int .i64 x4)), (25, .t (.bool (decide (r8 < 0))))], [], []⟩ ?_
        refine Wp.cond2 (b := decide (r8 < 0)) kr (fun hc => ?_) (fun hc => ?_)
        · have h := cond_t h hc
          refine Wp.srg [] [] ?_
          refine Runs.alln ?_
          refine Wp.fg ⟨[(0, .t (.sl 3 (p0.map Packet.enc))), (1, .t (.int .i64 r8)), (4, .t (.int .i64 (-1))), (5, .t (.int .i64 x4))], [], []⟩ ?_
          refine Wp.ret ?_
          refine blkR ?_
          refine thenR ?_
          refine thenR ?_
          refine blkR ?_
          refine thenR ?_
          obtain rfl := Option.some.inj h
          exact RetK [.t (.int .i64 (-1))] _ [] kr kr (.refl _) .nil
        have h := cond_f h hc
        refine Wp.skip ?_
        refine blkN ?_
        refine thenN ?_
        refine Wp.rg [] [] ?_
        refine Runs.alln ?_
        exact ⟨(p0, r8, bAdd .i64 x4 1), h, Le.of (mo := []) (mr := []) kr kr kr kr⟩
      have h := cond_f h hc
      refine Wp.exit ?_
      refine thenE ?_
      refine thenE ?_
      refine blkE ?_
      refine thenN ?_
      exact ⟨x3, h, Le.of (mo := []) (mr := []) kr kr kr kr⟩
theorem laws_szSentS_ok (u : Nat) (p0 : List Sent) (p1 : Int) (r : Int) (h : laws_szSentS u p0 p1 = some r) : CallOK Tryz.prog 35 [.one (.t (.sl 3 (p0.map Sent.enc))), .one (.t (.int .i64 p1))] (.one (.t (.int .i64 r))) [] := by
  unfold laws_szSentS at h
  refine CallOK.of_bodyK (fn := Tryz.f35) (m := false) [.t (.sl 3 (p0.map Sent.enc)), .t (.int .i64 p1)] kr rfl kr kr kr kr kr ?_
  refine Wp.srg [] [] ?_
  refine Runs.alln ?_
  refine Wp.fg ⟨[(0, .t (.sl 3 (p0.map Sent.enc))), (1, .t (.int .i64 p1)), (4, .t (.int .i64 0))], [], []⟩ ?_
  refine Wp.srg [] [] ?_
  refine Runs.batch 2 kr ?_
  refine Runs.lenT (y := .t (.sl 3 (p0.map Sent.enc))) (e := 130) Sent.enc p0 3 rfl rfl rfl kr kr kr kr kr ?_
  refine Runs.alln ?_
  refine Wp.fg ⟨[(1, .t (.int .i64 (bSub .i64 p1 ((p0.length : Int))))), (4, .t (.int .i64 0))], [], []⟩ ?_
  refine Wp.seq ?_
  refine Wp.srg [] [] ?_
  refine Runs.alln ?_
  refine Wp.fg ⟨[(1, .t (.int .i64 (bSub .i64 p1 ((p0.length : Int))))), (4, .t (.int .i64 0)), (10, .t (.bool (decide ((bSub .i64 p1 ((p0.length : Int))) < 0))))], [], []⟩ ?_
  refine Wp.cond2 (b := decide ((bSub .i64 p1 ((p0.length : Int))) < 0)) kr (fun hc => ?_) (fun hc => ?_)
  · have h := cond_t h hc
    refine Wp.srg [] [] ?_
    refine Runs.alln ?_
    refine Wp.fg ⟨[(1, .t (.int .i64 (bSub .i64 p1 ((p0.length : Int))))), (4, .t (.int .i64 (-1)))], [], []⟩ ?_
    refine Wp.ret ?_
    refine thenR ?_
    obtain rfl := Option.some.inj h
    exact RetK [.t (.int .i64 (-1))] _ [] kr kr (.refl _) .nil
  have h := cond_f h hc
  refine Wp.skip (thenN ?_)
  refine Wp.srg [] [] ?_
  refine Runs.alln ?_
  refine Wp.fg ⟨[(4, .t (.int .i64 (bSub .i64 p1 ((p0.length : Int)))))], [], []⟩ ?_
  refine Wp.ret ?_
  obtain rfl := Option.some.inj h
  exact RetK [.t (.int .i64 (bSub .i64 p1 ((p0.length : Int))))] _ [] kr kr (.refl _) .nil
theorem laws_szWorld_ok (u : Nat) (p0 : World) (p1 : Int) (r : Int) (h : laws_szWorld u p0 p1 = some r) : CallOK Tryz.prog 14 [.agg [.t (.int .i64 p0.fC.fSize), .t (.int .i64 p0.fC.fWindow), .t (.int .i64 p0.fC.fSuspect), .t (.int .i64 p0.fC.fForget), .t (.sl 1 (p0.fT.fUp.map (eInt .i64))), .t (.sl 1 (p0.fNew.map (eInt .u8))), .t (.sl 1 (p0.fOld.map Image.enc)), .t (.sl 12 (p0.fN.map Node.enc)), .t (.sl 6 (p0.fD.map Disk.enc)), .t (.sl 3 (p0.fNet.map Packet.enc)), .t (.sl 3 (p0.fLog.map Sent.enc)), .t (.int .i64 p0.fLost)], .one (.t (.int .i64 p1))] (.one (.t (.int .i64 r))) [] := by
  unfold laws_szWorld at h
  refine CallOK.of_bodyK (fn := Tryz.f14) (m := false) [.agg ((World.enc p0).map .t), .t (.int .i64 p1)] kr rfl kr kr kr kr kr ?_
  refine Wp.srg [] [] ?_
  refine Runs.alln ?_
  refine Wp.fg ⟨[(1, .t (.int .i64 p1)), (2, .obj 2 0), (4, .t (.int .i64 0))], [(2, ((World.enc p0).map .t))], []⟩ ?_
  refine Wp.srg [] [] ?_
  refine Runs.batch 3 kr ?_
  obtain ⟨r1, e_r1, h⟩ := bind_some h
  refine Runs.callK false 8 30 [] [.agg [.t (.sl 1 (p0.fT.fUp.map (eInt .i64)))], .t (.int .i64 p1)] _ _ _ rfl rfl kr kr kr kr kr (laws_szTree_ok u p0.fT p1 r1 e_r1) kr ?_
  refine Runs.alln ?_
  refine Wp.fg ⟨[(1, .t (.int .i64 r1)), (2, .obj 2 0), (4, .t (.int .i64 0))], [(2, ((World.enc p0).map .t))], []⟩ ?_
  refine Wp.seq ?_
  refine Wp.srg [] [] ?_
  refine Runs.alln ?_
  refine Wp.fg ⟨[(1, .t (.int .i64 r1)), (2, .obj 2 0), (4, .t (.int .i64 0)), (10, .t (.bool (decide (r1 < 0))))], [(2, ((World.enc p0).map .t))], []⟩ ?_
  refine Wp.cond2 (b := decide (r1 < 0)) kr (fun hc => ?_) (fun hc => ?_)
  · have h := cond_t h hc
    refine Wp.srg [] [] ?_
    refine Runs.alln ?_
    refine Wp.fg ⟨[(1, .t (.int .i64 r1)), (2, .obj 2 0), (4, .t (.int .i64 (-1)))], [(2, ((World.enc p0).map .t))], []⟩ ?_
    refine Wp.ret ?_
    refine thenR ?_
    obtain rfl := Option.some.inj h
    exact RetK [.t (.int .i64 (-1))] _ [] kr kr (.refl _) .nil
  have h := cond_f h hc
  refine Wp.skip (thenN ?_)
  refine Wp.srg [] [] ?_
  refine Runs.batch 3 kr ?_
  obtain ⟨r2, e_r2, h⟩ := bind_some h
  refine Runs.callK false 14 31 [] [.t (.sl 1 (p0.fNew.map (eInt .u8))), .t (.int .i64 r1)] _ _ _ rfl rfl kr kr kr kr kr (laws_szByteS_ok u p0.fNew r1 r2 e_r2) kr ?_
  refine Runs.alln ?_
  refine Wp.fg ⟨[(1, .t (.int .i64 r2)), (2, .obj 2 0), (4, .t (.int .i64 0))], [(2, ((World.enc p0).map .t))], []⟩ ?_
  refine Wp.seq ?_
  refine Wp.srg [] [] ?_
  refine Runs.alln ?_
  refine Wp.fg ⟨[(1, .t (.int .i64 r2)), (2, .obj 2 0), (4, .t (.int .i64 0)), (16, .t (.bool (decide (r2 < 0))))], [(2, ((World.enc p0).map .t))], []⟩ ?_
  refine Wp.cond2 (b := decide (r2 < 0)) kr (fun hc => ?_) (fun hc => ?_)
  · have h := cond_t h hc
    refine Wp.srg [] [] ?_
    refine Runs.alln ?_
    refine Wp.fg ⟨[(1, .t (.int .i64 r2)), (2, .obj 2 0), (4, .t (.int .i64 (-1)))], [(2, ((World.enc p0).map .t))], []⟩ ?_
    refine Wp.ret ?_
    refine thenR ?_
    obtain rfl := Option.some.inj h
    exact RetK [.t (.int .i64 (-1))] _ [] kr kr (.refl _) .nil
  have h := cond_f h hc
  refine Wp.skip (thenN ?_)
  refine Wp.srg [] [] ?_
  refine Runs.batch 3 kr ?_
  obtain ⟨r3, e_r3, h⟩ := bind_some h
  refine Runs.callK false 20 7 [] [.t (.sl 1 (p0.fOld.map Image.enc)), .t (.int .i64 r2)] _ _ _ rfl rfl kr kr kr kr kr (laws_szImageS_ok u p0.fOld r2 r3 e_r3) kr ?_
  refine Runs.alln ?_
  refine Wp.fg ⟨[(1, .t (.int .i64 r3)), (2, .obj 2 0), (4, .t (.int .i64 0))], [(2, ((World.enc p0).map .t))], []⟩ ?_
  refine Wp.seq ?_
  refine Wp.srg [] [] ?_
  refine Runs.alln ?_
  refine Wp.fg ⟨[(1, .t (.int .i64 r3)), (2, .obj 2 0), (4, .t (.int .i64 0)), (22, .t (.bool (decide (r3 < 0))))], [(2, ((World.enc p0).map .t))], []⟩ ?_
  refine Wp.cond2 (b := decide (r3 < 0)) kr (fun hc => ?_) (fun hc => ?_)
  · have h := cond_t h hc
    refine Wp.srg [] [] ?_
    refine Runs.alln ?_
    refine Wp.fg ⟨[(1, .t (.int .i64 r3)), (2, .obj 2 0), (4, .t (.int .i64 (-1)))], [(2, ((World.enc p0).map .t))], []⟩ ?_
    refine Wp.ret ?_
    refine thenR ?_
    obtain rfl := Option.some.inj h
    exact RetK [.t (.int .i64 (-1))] _ [] kr kr (.refl _) .nil
  have h := cond_f h hc
  refine Wp.skip (thenN ?_)
  refine Wp.srg [] [] ?_
  refine Runs.batch 3 kr ?_
  obtain ⟨r4, e_r4, h⟩ := bind_some h
  refine Runs.callK false 26 32 [] [.t (.sl 12 (p0.fN.map Node.enc)), .t (.int .i64 r3)] _ _ _ rfl rfl kr kr kr kr kr (laws_szNodeS_ok u p0.fN r3 r4 e_r4) kr ?_
  refine Runs.alln ?_
  refine Wp.fg ⟨[(1, .t (.int .i64 r4)), (2, .obj 2 0), (4, .t (.int .i64 0))], [(2, ((World.enc p0).map .t))], []⟩ ?_
  refine Wp.seq ?_
  refine Wp.srg [] [] ?_
  refine Runs.alln ?_
  refine Wp.fg ⟨[(1, .t (.int .i64 r4)), (2, .obj 2 0), (4, .t (.int .i64 0)), (28, .t (.bool (decide (r4 < 0))))], [(2, ((World.enc p0).map .t))], []⟩ ?_
  refine Wp.cond2 (b := decide (r4 < 0)) kr (fun hc => ?_) (fun hc => ?_)
  · have h := cond_t h hc
    refine Wp.srg [] [] ?_
    refine Runs.alln ?_
    refine Wp.fg ⟨[(1, .t (.int .i64 r4)), (2, .obj 2 0), (4, .t (.int .i64 (-1)))], [(2, ((World.enc p0).map .t))], []⟩ ?_
    refine Wp.ret ?_
    refine thenR ?_
    obtain rfl := Option.some.inj h
    exact RetK [.t (.int .i64 (-1))] _ [] kr kr (.refl _) .nil
  have h := cond_f h hc
  refine Wp.skip (thenN ?_)
  refine Wp.srg [] [] ?_
  refine Runs.batch 3 kr ?_
  obtain ⟨r5, e_r5, h⟩ := bind_some h
  refine Runs.callK false 32 33 [] [.t (.sl 6 (p0.fD.map Disk.enc)), .t (.int .i64 r4)] _ _ _ rfl rfl kr kr kr kr kr (laws_szDiskS_ok u p0.fD r4 r5 e_r5) kr ?_
  refine Runs.alln ?_
  refine Wp.fg ⟨[(1, .t (.int .i64 r5)), (2, .obj 2 0), (4, .t (.int .i64 0))], [(2, ((World.enc p0).map .t))], []⟩ ?_
  refine Wp.seq ?_
  refine Wp.srg [] [] ?_
  refine Runs.alln ?_
  refine Wp.fg ⟨[(1, .t (.int .i64 r5)), (2, .obj 2 0), (4, .t (.int .i64 0)), (34, .t (.bool (decide (r5 < 0))))], [(2, ((World.enc p0).map .t))], []⟩ ?_
  refine Wp.cond2 (b := decide (r5 < 0)) kr (fun hc => ?_) (fun hc => ?_)
  · have h := cond_t h hc
    refine Wp.srg [] [] ?_
    refine Runs.alln ?_
    refine Wp.fg ⟨[(1, .t (.int .i64 r5)), (2, .obj 2 0), (4, .t (.int .i64 (-1)))], [(2, ((World.enc p0).map .t))], []⟩ ?_
    refine Wp.ret ?_
    refine thenR ?_
    obtain rfl := Option.some.inj h
    exact RetK [.t (.int .i64 (-1))] _ [] kr kr (.refl _) .nil
  have h := cond_f h hc
  refine Wp.skip (thenN ?_)
  refine Wp.srg [] [] ?_
  refine Runs.batch 3 kr ?_
  obtain ⟨r6, e_r6, h⟩ := bind_some h
  refine Runs.callK false 38 34 [] [.t (.sl 3 (p0.fNet.map Packet.enc)), .t (.int .i64 r5)] _ _ _ rfl rfl kr kr kr kr kr (laws_szPacketS_ok u p0.fNet r5 r6 e_r6) kr ?_
  refine Runs.alln ?_
  refine Wp.fg ⟨[(1, .t (.int .i64 r6)), (2, .obj 2 0), (4, .t (.int .i64 0))], [(2, ((World.enc p0).map .t))], []⟩ ?_
  refine Wp.seq ?_
  refine Wp.srg [] [] ?_
  refine Runs.alln ?_
  refine Wp.fg ⟨[(1, .t (.int .i64 r6)), (2, .obj 2 0), (4, .t (.int .i64 0)), (40, .t (.bool (decide (r6 < 0))))], [(2, ((World.enc p0).map .t))], []⟩ ?_
  refine Wp.cond2 (b := decide (r6 < 0)) kr (fun hc => ?_) (fun hc => ?_)
  · have h := cond_t h hc
    refine Wp.srg [] [] ?_
    refine Runs.alln ?_
    refine Wp.fg ⟨[(1, .t (.int .i64 r6)), (2, .obj 2 0), (4, .t (.int .i64 (-1)))], [(2, ((World.enc p0).map .t))], []⟩ ?_
    refine Wp.ret ?_
    refine thenR ?_
    obtain rfl := Option.some.inj h
    exact RetK [.t (.int .i64 (-1))] _ [] kr kr (.refl _) .nil
  have h := cond_f h hc
  refine Wp.skip (thenN ?_)
  refine Wp.srg [] [] ?_
  refine Runs.batch 3 kr ?_
  obtain ⟨r7, e_r7, h⟩ := bind_some h
  refine Runs.callK false 44 35 [] [.t (.sl 3 (p0.fLog.map Sent.enc)), .t (.int .i64 r6)] _ _ _ rfl rfl kr kr kr kr kr (laws_szSentS_ok u p0.fLog r6 r7 e_r7) kr ?_
  refine Runs.alln ?_
  refine Wp.fg ⟨[(1, .t (.int .i64 r7)), (4, .t (.int .i64 0))], [], []⟩ ?_
  refine Wp.seq ?_
  refine Wp.srg [] [] ?_
  refine Runs.alln ?_
  refine Wp.fg ⟨[(1, .t (.int .i64 r7)), (4, .t (.int .i64 0)), (46, .t (.bool (decide (r7 < 0))))], [], []⟩ ?_
  refine Wp.cond2 (b := decide (r7 < 0)) kr (fun hc => ?_) (fun hc => ?_)
  · have h := cond_t h hc
    refine Wp.srg [] [] ?_
    refine Runs.alln ?_
    refine Wp.fg ⟨[(1, .t (.int .i64 r7)), (4, .t (.int .i64 (-1)))], [], []⟩ ?_
    refine Wp.ret ?_
    refine thenR ?_
    obtain rfl := Option.some.inj h
    exact RetK [.t (.int .i64 (-1))] _ [] kr kr (.refl _) .nil
  have h := cond_f h hc
  refine Wp.skip (thenN ?_)
  refine Wp.srg [] [] ?_
  refine Runs.alln ?_
  refine Wp.fg ⟨[(4, .t (.int .i64 r7))], [], []⟩ ?_
  refine Wp.ret ?_
  obtain rfl := Option.some.inj h
  exact RetK [.t (.int .i64 r7)] _ [] kr kr (.refl _) .nil
theorem laws_toConf_ok (u : Nat) (p0 : Conf) (r : Conf) (h : laws_toConf u p0 = some r) : CallOK Tryz.prog 38 [.agg [.t (.int .i64 p0.fSize), .t (.int .i64 p0.fWindow), .t (.int .i64 p0.fSuspect), .t (.int .i64 p0.fForget)]] (.agg [.t (.int .i64 r.fSize), .t (.int .i64 r.fWindow), .t (.int .i64 r.fSuspect), .t (.int .i64 r.fForget)]) [] := by
  unfold laws_toConf at h
  refine CallOK.of_bodyK (fn := Tryz.f38) (m := false) [.agg ((Conf.enc p0).map .t)] kr rfl kr kr kr kr kr ?_
  refine Wp.srg [] [] ?_
  refine Runs.alln ?_
  refine Wp.fg ⟨[(1, .obj 1 0), (2, .obj 2 0)], [(1, ((Conf.enc p0).map .t)), (2, [.t (.int .i64 0), .t (.int .i64 0), .t (.int .i64 0), .t (.int .i64 0)])], []⟩ ?_
  refine Wp.srg [] [] ?_
  refine Runs.alln ?_
  refine Wp.fg ⟨[(1, .obj 1 0), (2, .obj 2 0), (3, .obj 3 0)], [(1, ((Conf.enc p0).map .t)), (2, [.t (.int .i64 0), .t (.int .i64 0), .t (.int .i64 0), .t (.int .i64 0)]), (3, [.t (.int .i64 0), .t (.int .i64 0), .t (.int .i64 0), .t (.int .i64 0)])], []⟩ ?_
  refine Wp.srg [] [] ?_
  refine Runs.alln ?_
  refine Wp.fg ⟨[(1, .obj 1 0), (2, .obj 2 0), (3, .obj 3 0)], [(1, ((Conf.enc p0).map .t)), (2, [.t (.int .i64 0), .t (.int .i64 0), .t (.int .i64 0), .t (.int .i64 0)]), (3, [.t (.int .i64 p0.fSize), .t (.int .i64 0), .t (.int .i64 0), .t (.int .i64 0)])], []⟩ ?_
  refine Wp.srg [] [] ?_
  refine Runs.alln ?_
  refine Wp.fg ⟨[(1, .obj 1 0), (2, .obj 2 0), (3, .obj 3 0)], [(1, ((Conf.enc p0).map .t)), (2, [.t (.int .i64 0), .t (.int .i64 0), .t (.int .i64 0), .t (.int .i64 0)]), (3, [.t (.int .i64 p0.fSize), .t (.int .i64 p0.fWindow), .t (.int .i64 0), .t (.int .i64 0)])], []⟩ ?_
  refine Wp.srg [] [] ?_
  refine Runs.alln ?_
  refine Wp.fg ⟨[(1, .obj 1 0), (2, .obj 2 0), (3, .obj 3 0)], [(1, ((Conf.enc p0).map .t)), (2, [.t (.int .i64 0), .t (.int .i64 0), .t (.int .i64 0), .t (.int .i64 0)]), (3, [.t (.int .i64 p0.fSize), .t (.int .i64 p0.fWindow), .t (.int .i64 p0.fSuspect), .t (.int .i64 0)])], []⟩ ?_
  refine Wp.srg [] [] ?_
  refine Runs.alln ?_
  refine Wp.fg ⟨[(2, .obj 2 0), (3, .obj 3 0)], [(2, [.t (.int .i64 0), .t (.int .i64 0), .t (.int .i64 0), .t (.int .i64 0)]), (3, ((Conf.enc p0).map .t))], []⟩ ?_
  refine Wp.srg [] [] ?_
  refine Runs.alln ?_
  refine Wp.fg ⟨[(2, .obj 2 0)], [(2, ((Conf.enc p0).map .t))], []⟩ ?_
  refine Wp.ret ?_
  obtain rfl := Option.some.inj h
  exact RetK [.agg ((Conf.enc p0).map .t)] _ [] kr kr (.refl _) .nil
theorem laws_toIntS_ok (u : Nat) (p0 : List Int) (r : (List Int)) (h : laws_toIntS u p0 = some r) : CallOK Tryz.prog 71 [.one (.t (.sl 1 (p0.map (eInt .i64))))] (.one (.ow 3 1 (r.map (eInt .i64)))) [] := by
  unfold laws_toIntS at h
  refine CallOK.of_bodyK (fn := Tryz.f71) (m := true) [.t (.sl 1 (p0.map (eInt .i64)))] kr rfl kr kr kr kr kr ?_
  refine Wp.srg [] [] ?_
  refine Runs.alln ?_
  refine Wp.fg ⟨[(0, .t (.sl 1 (p0.map (eInt .i64)))), (2, .nil)], [], []⟩ ?_
  refine Wp.srg [] [] ?_
  refine Runs.batch 1 kr ?_
  refine Runs.lenT (y := .t (.sl 1 (p0.map (eInt .i64)))) (e := 3) (eInt .i64) p0 1 rfl rfl rfl kr kr kr kr kr ?_
  obtain ⟨_, e_1, h⟩ := bind_some h
  obtain ⟨_, e_2, h⟩ := bind_some h
  refine Runs.mkS (eInt .i64) (0 : Int) 7 3 1 8 ((p0.length : Int)) ((p0.length : Int)) rfl rfl kr kr kr kr kr kr (chk_some e_1) (of_decide_eq_true (chk_some e_2)) kr ?_
  refine Runs.alln ?_
  refine Wp.fg ⟨[(0, .t (.sl 1 (p0.map (eInt .i64)))), (2, .nil), (3, .own 458752)], [], [(458752, .live 3 1 ((List.replicate (Int.toNat ((p0.length : Int))) (0 : Int)).map (eInt .i64)))]⟩ ?_
  refine Wp.seqJ (α := (List Int)) (fun a => ⟨[(2, .nil), (3, .own 196609)], [], [(196609, .live 3 1 (a.map (eInt .i64)))]⟩) (fun a => laws_toIntS_j1 u a = some r) ?_ ?_
  · rintro x11 h
    change laws_toIntS_j1 u x11 = some r at h
    unfold laws_toIntS_j1 at h
    refine Wp.srg [] [] ?_
    refine Runs.alln ?_
    refine Wp.fg ⟨[(2, .own 196609)], [], [(196609, .live 3 1 (x11.map (eInt .i64)))]⟩ ?_
    refine Wp.ret ?_
    obtain rfl := Option.some.inj h
    exact RetK [.own 196609] _ [] kr kr (.refl _) .nil
  · refine Wp.srg [] [] ?_
    refine Runs.alln ?_
    refine Wp.fg ⟨[(0, .t (.sl 1 (p0.map (eInt .i64)))), (2, .nil), (3, .own 458752), (4, .t (.int .i64 0))], [], [(458752, .live 3 1 ((List.replicate (Int.toNat ((p0.length : Int))) (0 : Int)).map (eInt .i64)))]⟩ ?_
    refine Wp.block ?_
    refine Wp.loopF (α := (List Int) × (List Int) × Int) (fun a => ⟨[(0, .t (.sl 1 (a.1.map (eInt .i64)))), (2, .nil), (3, .own 196609), (4, .t (.int .i64 a.2.2))], [], [(196609, .live 3 1 (a.2.1.map (eInt .i64)))]⟩) (fun k_laws_toIntS_l2 a => laws_toIntS_l2 u k_laws_toIntS_l2 a.1 a.2.1 a.2.2 = some r) ?_ ?_ u (p0, List.replicate (Int.toNat ((p0.length : Int))) (0 : Int), 0) h (Le.of (mo := []) (mr := [(196609, 458752)]) kr kr kr kr)
    · intro a h; unfold laws_toIntS_l2 at h; cases h
    · rintro k_laws_toIntS_l2 ⟨p0, x5, x6⟩ h
      change laws_toIntS_l2 u (k_laws_toIntS_l2 + 1) p0 x5 x6 = some r at h
      rw [laws_toIntS_l2] at h
      refine Wp.seq ?_
      refine Wp.srg [] [] ?_
      refine Runs.batch 2 kr ?_
      refine Runs.lenT (y := .t (.sl 1 (p0.map (eInt .i64)))) (e := 3) (eInt .i64) p0 1 rfl rfl rfl kr kr kr kr kr ?_
      refine Runs.alln ?_
      refine Wp.fg ⟨[(0, .t (.sl 1 (p0.map (eInt .i64)))), (2, .nil), (3, .own 196609), (4, .t (.int .i64 x6)), (11, .t (.bool (decide (x6 < ((p0.length : Int))))))], [], [(196609, .live 3 1 (x5.map (eInt .i64)))]⟩ ?_
      refine Wp.cond2 (b := decide (x6 < ((p0.length : Int)))) kr (fun hc => ?_) (fun hc => ?_)
      · have h := cond_t h hc
        refine Wp.skip (thenN ?_)
        refine Wp.seq ?_
        refine Wp.block ?_
        refine Wp.rg [] [] ?_
        refine Runs.batch 4 kr ?_
        obtain ⟨y9, e_y9, h⟩ := bind_some h
        refine Runs.idxT (e := 3) (kk := .i64) (sz := 1) (eInt .i64) p0 x6 rfl kr kr kr kr kr kr e_y9 ?_
        refine Runs.batch 1 kr ?_
        obtain ⟨y10, e_y10, h⟩ := bind_some h
        refine Runs.idxO (e := 3) (e' := 3) (kk := .i64) (sz := 1) (eInt .i64) x5 x6 196609 rfl kr kr kr kr kr kr kr e_y10 ?_
        refine Runs.storeT (e := 3) (sz := 1) (m := 1) (eInt .i64) x5 196609 (Int.toNat x6) 0 y9 (.t (.int .i64 y9)) [.int .i64 y9] rfl kr kr kr kr kr kr kr kr (idx_some e_y10).2 kr kr ?_
        refine Runs.done ?_
        refine blkN ?_
        refine thenN ?_
        refine Wp.rg [] [] ?_
        refine Runs.alln ?_
        exact ⟨(p0, x5.set (Int.toNat x6) y9, bAdd .i64 x6 1), h, Le.of (mo := []) (mr := []) kr kr kr kr⟩
      have h := cond_f h hc
      refine Wp.exit ?_
      refine thenE ?_
      refine thenE ?_
      refine blkE ?_
      refine thenN ?_
      exact ⟨x5, h, Le.of (mo := []) (mr := []) kr kr kr kr⟩
theorem laws_toTree_ok (u : Nat) (p0 : Tree) (r : Tree) (h : laws_toTree u p0 = some r) : CallOK Tryz.prog 39 [.agg [.t (.sl 1 (p0.fUp.map (eInt .i64)))]] (.agg [.ow 3 1 (r.fUp.map (eInt .i64))]) [] := by
  unfold laws_toTree at h
  refine CallOK.of_bodyK (fn := Tryz.f39) (m := true) [.agg [.t (.sl 1 (p0.fUp.map (eInt .i64)))]] kr rfl kr kr kr kr kr ?_
  refine Wp.srg [] [] ?_
  refine Runs.alln ?_
  refine Wp.fg ⟨[(1, .obj 1 0), (2, .obj 2 0)], [(1, [.t (.sl 1 (p0.fUp.map (eInt .i64)))]), (2, [.nil])], []⟩ ?_
  refine Wp.srg [] [] ?_
  refine Runs.alln ?_
  refine Wp.fg ⟨[(1, .obj 1 0), (2, .obj 2 0), (3, .obj 3 0)], [(1, [.t (.sl 1 (p0.fUp.map (eInt .i64)))]), (2, [.nil]), (3, [.nil])], []⟩ ?_
  refine Wp.srg [] [] ?_
  refine Runs.batch 2 kr ?_
  obtain ⟨r1, e_r1, h⟩ := bind_some h
  refine Runs.callK false 6 71 [] [.t (.sl 1 (p0.fUp.map (eInt .i64)))] _ _ _ rfl rfl kr kr kr kr kr (laws_toIntS_ok u p0.fUp r1 e_r1) kr ?_
  refine Runs.alln ?_
  refine Wp.fg ⟨[(2, .obj 2 0), (3, .obj 3 0)], [(2, [.nil]), (3, [.own 393216])], [(393216, .live 3 1 (r1.map (eInt .i64)))]⟩ ?_
  refine Wp.srg [] [] ?_
  refine Runs.alln ?_
  refine Wp.fg ⟨[(2, .obj 2 0)], [(2, [.own 393216])], [(393216, .live 3 1 (r1.map (eInt .i64)))]⟩ ?_
  refine Wp.ret ?_
  obtain rfl := Option.some.inj h
  exact RetK [.agg [.own 393216]] _ [] kr kr (.refl _) .nil
theorem laws_toByteS_ok (u : Nat) (p0 : List Int) (r : (List Int)) (h : laws_toByteS u p0 = some r) : CallOK Tryz.prog 9 [.one (.t (.sl 1 (p0.map (eInt .u8))))] (.one (.ow 5 1 (r.map (eInt .u8)))) [] := by
  unfold laws_toByteS at h
  refine CallOK.of_bodyK (fn := Tryz.f9) (m := true) [.t (.sl 1 (p0.map (eInt .u8)))] kr rfl kr kr kr kr kr ?_
  refine Wp.srg [] [] ?_
  refine Runs.alln ?_
  refine Wp.fg ⟨[(0, .t (.sl 1 (p0.map (eInt .u8)))), (2, .nil)], [], []⟩ ?_
  refine Wp.srg [] [] ?_
  refine Runs.batch 1 kr ?_
  refine Runs.lenT (y := .t (.sl 1 (p0.map (eInt .u8)))) (e := 5) (eInt .u8) p0 1 rfl rfl rfl kr kr kr kr kr ?_
  obtain ⟨_, e_1, h⟩ := bind_some h
  obtain ⟨_, e_2, h⟩ := bind_some h
  refine Runs.mkS (eInt .u8) (0 : Int) 7 5 1 1 ((p0.length : Int)) ((p0.length : Int)) rfl rfl kr kr kr kr kr kr (chk_some e_1) (of_decide_eq_true (chk_some e_2)) kr ?_
  refine Runs.alln ?_
  refine Wp.fg ⟨[(0, .t (.sl 1 (p0.map (eInt .u8)))), (2, .nil), (3, .own 458752)], [], [(458752, .live 5 1 ((List.replicate (Int.toNat ((p0.length : Int))) (0 : Int)).map (eInt .u8)))]⟩ ?_
  refine Wp.seqJ (α := (List Int)) (fun a => ⟨[(2, .nil), (3, .own 196609)], [], [(196609, .live 5 1 (a.map (eInt .u8)))]⟩) (fun a => laws_toByteS_j1 u a = some r) ?_ ?_
  · rintro x11 h
    change laws_toByteS_j1 u x11 = some r at h
    unfold laws_toByteS_j1 at h
    refine Wp.srg [] [] ?_
    refine Runs.alln ?_
    refine Wp.fg ⟨[(2, .own 196609)], [], [(196609, .live 5 1 (x11.map (eInt .u8)))]⟩ ?_
    refine Wp.ret ?_
    obtain rfl := Option.some.inj h
    exact RetK [.own 196609] _ [] kr kr (.refl _) .nil
  · refine Wp.srg [] [] ?_
    refine Runs.alln ?_
    refine Wp.fg ⟨[(0, .t (.sl 1 (p0.map (eInt .u8)))), (2, .nil), (3, .own 458752), (4, .t (.int .i64 0))], [], [(458752, .live 5 1 ((List.replicate (Int.toNat ((p0.length : Int))) (0 : Int)).map (eInt .u8)))]⟩ ?_
    refine Wp.block ?_
    refine Wp.loopF (α := (List Int) × (List Int) × Int) (fun a => ⟨[(0, .t (.sl 1 (a.1.map (eInt .u8)))), (2, .nil), (3, .own 196609), (4, .t (.int .i64 a.2.2))], [], [(196609, .live 5 1 (a.2.1.map (eInt .u8)))]⟩) (fun k_laws_toByteS_l2 a => laws_toByteS_l2 u k_laws_toByteS_l2 a.1 a.2.1 a.2.2 = some r) ?_ ?_ u (p0, List.replicate (Int.toNat ((p0.length : Int))) (0 : Int), 0) h (Le.of (mo := []) (mr := [(196609, 458752)]) kr kr kr kr)
    · intro a h; unfold laws_toByteS_l2 at h; cases h
    · rintro k_laws_toByteS_l2 ⟨p0, x5, x6⟩ h
      change laws_toByteS_l2 u (k_laws_toByteS_l2 + 1) p0 x5 x6 = some r at h
      rw [laws_toByteS_l2] at h
      refine Wp.seq ?_
      refine Wp.srg [] [] ?_
      refine Runs.batch 2 kr ?_
      refine Runs.lenT (y := .t (.sl 1 (p0.map (eInt .u8)))) (e := 5) (eInt .u8) p0 1 rfl rfl rfl kr kr kr kr kr ?_
      refine Runs.alln ?_
      refine Wp.fg ⟨[(0, .t (.sl 1 (p0.map (eInt .u8)))), (2, .nil), (3, .own 196609), (4, .t (.int .i64 x6)), (11, .t (.bool (decide (x6 < ((p0.length : Int))))))], [], [(196609, .live 5 1 (x5.map (eInt .u8)))]⟩ ?_
      refine Wp.cond2 (b := decide (x6 < ((p0.length : Int)))) kr (fun hc => ?_) (fun hc => ?_)
      · have h := cond_t h hc
        refine Wp.skip (thenN ?_)
        refine Wp.seq ?_
        refine Wp.block ?_
        refine Wp.rg [] [] ?_
        refine Runs.batch 4 kr ?_
        obtain ⟨y9, e_y9, h⟩ := bind_some h
        refine Runs.idxT (e := 5) (kk := .i64) (sz := 1) (eInt .u8) p0 x6 rfl kr kr kr kr kr kr e_y9 ?_
        refine Runs.batch 1 kr ?_
        obtain ⟨y10, e_y10, h⟩ := bind_some h
        refine Runs.idxO (e := 5) (e' := 5) (kk := .i64) (sz := 1) (eInt .u8) x5 x6 196609 rfl kr kr kr kr kr kr kr e_y10 ?_
        refine Runs.storeT (e := 5) (sz := 1) (m := 1) (eInt .u8) x5 196609 (Int.toNat x6) 0 y9 (.t (.int .u8 y9)) [.int .u8 y9] rfl kr kr kr kr kr kr kr kr (idx_some e_y10).2 kr kr ?_
        refine Runs.done ?_
        refine blkN ?_
        refine thenN ?_
        refine Wp.rg [] [] ?_
        refine Runs.alln ?_
        exact ⟨(p0, x5.set (Int.toNat x6) y9, bAdd .i64 x6 1), h, Le.of (mo := []) (mr := []) kr kr kr kr⟩
      have h := cond_f h hc
      refine Wp.exit ?_
      refine thenE ?_
      refine thenE ?_
      refine blkE ?_
      refine thenN ?_
      exact ⟨x5, h, Le.of (mo := []) (mr := []) kr kr kr kr⟩
theorem laws_toImage_ok (u : Nat) (p0 : Image) (r : Image) (h : laws_toImage u p0 = some r) : CallOK Tryz.prog 26 [.agg [.t (.sl 1 (p0.fB.map (eInt .u8)))]] (.agg [.ow 5 1 (r.fB.map (eInt .u8))]) [] := by
  unfold laws_toImage at h
  refine CallOK.of_bodyK (fn := Tryz.f26) (m := true) [.agg [.t (.sl 1 (p0.fB.map (eInt .u8)))]] kr rfl kr kr kr kr kr ?_
  refine Wp.srg [] [] ?_
  refine Runs.alln ?_
  refine Wp.fg ⟨[(1, .obj 1 0), (2, .obj 2 0)], [(1, [.t (.sl 1 (p0.fB.map (eInt .u8)))]), (2, [.nil])], []⟩ ?_
  refine Wp.srg [] [] ?_
  refine Runs.alln ?_
  refine Wp.fg ⟨[(1, .obj 1 0), (2, .obj 2 0), (3, .obj 3 0)], [(1, [.t (.sl 1 (p0.fB.map (eInt .u8)))]), (2, [.nil]), (3, [.nil])], []⟩ ?_
  refine Wp.srg [] [] ?_
  refine Runs.batch 2 kr ?_
  obtain ⟨r1, e_r1, h⟩ := bind_some h
  refine Runs.callK false 6 9 [] [.t (.sl 1 (p0.fB.map (eInt .u8)))] _ _ _ rfl rfl kr kr kr kr kr (laws_toByteS_ok u p0.fB r1 e_r1) kr ?_
  refine Runs.alln ?_
  refine Wp.fg ⟨[(2, .obj 2 0), (3, .obj 3 0)], [(2, [.nil]), (3, [.own 393216])], [(393216, .live 5 1 (r1.map (eInt .u8)))]⟩ ?_
  refine Wp.srg [] [] ?_
  refine Runs.alln ?_
  refine Wp.fg ⟨[(2, .obj 2 0)], [(2, [.own 393216])], [(393216, .live 5 1 (r1.map (eInt .u8)))]⟩ ?_
  refine Wp.ret ?_
  obtain rfl := Option.some.inj h
  exact RetK [.agg [.own 393216]] _ [] kr kr (.refl _) .nil
theorem laws_toImageS_ok (u : Nat) (p0 : List Image) (r : (List Image)) (h : laws_toImageS u p0 = some r) : CallOK Tryz.prog 10 [.one (.t (.sl 1 (p0.map Image.enc)))] (.one (.ow 61 1 (r.map Image.enc))) [] := by
  unfold laws_toImageS at h
  refine CallOK.of_bodyK (fn := Tryz.f10) (m := true) [.t (.sl 1 (p0.map Image.enc))] kr rfl kr kr kr kr kr ?_
  refine Wp.srg [] [] ?_
  refine Runs.alln ?_
  refine Wp.fg ⟨[(0, .t (.sl 1 (p0.map Image.enc))), (2, .nil)], [], []⟩ ?_
  refine Wp.srg [] [] ?_
  refine Runs.batch 1 kr ?_
  refine Runs.lenT (y := .t (.sl 1 (p0.map Image.enc))) (e := 58) Image.enc p0 1 rfl rfl rfl kr kr kr kr kr ?_
  obtain ⟨_, e_1, h⟩ := bind_some h
  obtain ⟨_, e_2, h⟩ := bind_some h
  refine Runs.mkS Image.enc ((Image.mk ([])) : Image) 7 61 1 24 ((p0.length : Int)) ((p0.length : Int)) rfl rfl kr kr kr kr kr kr (chk_some e_1) (of_decide_eq_true (chk_some e_2)) kr ?_
  refine Runs.alln ?_
  refine Wp.fg ⟨[(0, .t (.sl 1 (p0.map Image.enc))), (2, .nil), (3, .own 458752)], [], [(458752, .live 61 1 ((List.replicate (Int.toNat ((p0.length : Int))) ((Image.mk ([])) : Image)).map Image.enc))]⟩ ?_
  refine Wp.seqJ (α := (List Image)) (fun a => ⟨[(2, .nil), (3, .own 196609)], [], [(196609, .live 61 1 (a.map Image.enc))]⟩) (fun a => laws_toImageS_j1 u a = some r) ?_ ?_
  · rintro x12 h
    change laws_toImageS_j1 u x12 = some r at h
    unfold laws_toImageS_j1 at h
    refine Wp.srg [] [] ?_
    refine Runs.alln ?_
    refine Wp.fg ⟨[(2, .own 196609)], [], [(196609, .live 61 1 (x12.map Image.enc))]⟩ ?_
    refine Wp.ret ?_
    obtain rfl := Option.some.inj h
    exact RetK [.own 196609] _ [] kr kr (.refl _) .nil
  · refine Wp.srg [] [] ?_
    refine Runs.alln ?_
    refine Wp.fg ⟨[(0, .t (.sl 1 (p0.map Image.enc))), (2, .nil), (3, .own 458752), (4, .t (.int .i64 0))], [], [(458752, .live 61 1 ((List.replicate (Int.toNat ((p0.length : Int))) ((Image.mk ([])) : Image)).map Image.enc))]⟩ ?_
    refine Wp.block ?_
    refine Wp.loopF (α := (List Image) × (List Image) × Int) (fun a => ⟨[(0, .t (.sl 1 (a.1.map Image.enc))), (2, .nil), (3, .own 196609), (4, .t (.int .i64 a.2.2))], [], [(196609, .live 61 1 (a.2.1.map Image.enc))]⟩) (fun k_laws_toImageS_l2 a => laws_toImageS_l2 u k_laws_toImageS_l2 a.1 a.2.1 a.2.2 = some r) ?_ ?_ u (p0, List.replicate (Int.toNat ((p0.length : Int))) ((Image.mk ([])) : Image), 0) h (Le.of (mo := []) (mr := [(196609, 458752)]) kr kr kr kr)
    · intro a h; unfold laws_toImageS_l2 at h; cases h
    · rintro k_laws_toImageS_l2 ⟨p0, x5, x6⟩ h
      change laws_toImageS_l2 u (k_laws_toImageS_l2 + 1) p0 x5 x6 = some r at h
      rw [laws_toImageS_l2] at h
      refine Wp.seq ?_
      refine Wp.srg [] [] ?_
      refine Runs.batch 2 kr ?_
      refine Runs.lenT (y := .t (.sl 1 (p0.map Image.enc))) (e := 58) Image.enc p0 1 rfl rfl rfl kr kr kr kr kr ?_
      refine Runs.alln ?_
      refine Wp.fg ⟨[(0, .t (.sl 1 (p0.map Image.enc))), (2, .nil), (3, .own 196609), (4, .t (.int .i64 x6)), (11, .t (.bool (decide (x6 < ((p0.length : Int))))))], [], [(196609, .live 61 1 (x5.map Image.enc))]⟩ ?_
      refine Wp.cond2 (b := decide (x6 < ((p0.length : Int)))) kr (fun hc => ?_) (fun hc => ?_)
      · have h := cond_t h hc
        refine Wp.skip (thenN ?_)
        refine Wp.seq ?_
        refine Wp.block ?_
        refine Wp.rg [] [] ?_
        refine Runs.batch 4 kr ?_
        obtain ⟨y9, e_y9, h⟩ := bind_some h
        refine Runs.idxT (e := 58) (kk := .i64) (sz := 1) Image.enc p0 x6 rfl kr kr kr kr kr kr e_y9 ?_
        refine Runs.batch 1 kr ?_
        obtain ⟨r10, e_r10, h⟩ := bind_some h
        refine Runs.callK false 20 26 [] [.agg [.t (.sl 1 (y9.fB.map (eInt .u8)))]] _ _ _ rfl rfl kr kr kr kr kr (laws_toImage_ok u y9 r10 e_r10) kr ?_
        obtain ⟨y11, e_y11, h⟩ := bind_some h
        refine Runs.idxO (e := 61) (e' := 61) (kk := .i64) (sz := 1) Image.enc x5 x6 196609 rfl kr kr kr kr kr kr kr e_y11 ?_
        refine Runs.storeU (e := 61) (sz := 1) (m := 1) Image.enc x5 196609 (Int.toNat x6) 0 r10 (.agg [.own 1310720]) [.sl 1 (r10.fB.map (eInt .u8))] rfl kr kr kr kr kr kr kr kr (idx_some e_y11).2 kr kr ?_
        refine Runs.done ?_
        refine blkN ?_
        refine thenN ?_
        refine Wp.rg [] [] ?_
        refine Runs.alln ?_
        exact ⟨(p0, x5.set (Int.toNat x6) r10, bAdd .i64 x6 1), h, Le.of (mo := []) (mr := []) kr kr kr kr⟩
      have h := cond_f h hc
      refine Wp.exit ?_
      refine thenE ?_
      refine thenE ?_
      refine blkE ?_
      refine thenN ?_
      exact ⟨x5, h, Le.of (mo := []) (mr := []) kr kr kr kr⟩
theorem laws_toSum_ok (u : Nat) (p0 : Sum) (r : Sum) (h : laws_toSum u p0 = some r) : CallOK Tryz.prog 193 [.agg [.t (.int .i64 p0.fW), .t (.int .i64 p0.fS)]] (.agg [.t (.int .i64 r.fW), .t (.int .i64 r.fS)]) [] := by
  unfold laws_toSum at h
  refine CallOK.of_bodyK (fn := Tryz.f193) (m := false) [.agg [.t (.int .i64 p0.fW), .t (.int .i64 p0.fS)]] kr rfl kr kr kr kr kr ?_
  refine Wp.srg [] [] ?_
  refine Runs.alln ?_
  refine Wp.fg ⟨[(1, .obj 1 0), (2, .obj 2 0)], [(1, [.t (.int .i64 p0.fW), .t (.int .i64 p0.fS)]), (2, [.t (.int .i64 0), .t (.int .i64 0)])], []⟩ ?_
  refine Wp.srg [] [] ?_
  refine Runs.alln ?_
  refine Wp.fg ⟨[(1, .obj 1 0), (2, .obj 2 0), (3, .obj 3 0)], [(1, [.t (.int .i64 p0.fW), .t (.int .i64 p0.fS)]), (2, [.t (.int .i64 0), .t (.int .i64 0)]), (3, [.t (.int .i64 0), .t (.int .i64 0)])], []⟩ ?_
  refine Wp.srg [] [] ?_
  refine Runs.alln ?_
  refine Wp.fg ⟨[(1, .obj 1 0), (2, .obj 2 0), (3, .obj 3 0)], [(1, [.t (.int .i64 p0.fW), .t (.int .i64 p0.fS)]), (2, [.t (.int .i64 0), .t (.int .i64 0)]), (3, [.t (.int .i64 p0.fW), .t (.int .i64 0)])], []⟩ ?_
  refine Wp.srg [] [] ?_
  refine Runs.alln ?_
  refine Wp.fg ⟨[(2, .obj 2 0), (3, .obj 3 0)], [(2, [.t (.int .i64 0), .t (.int .i64 0)]), (3, [.t (.int .i64 p0.fW), .t (.int .i64 p0.fS)])], []⟩ ?_
  refine Wp.srg [] [] ?_
  refine Runs.alln ?_
  refine Wp.fg ⟨[(2, .obj 2 0)], [(2, [.t (.int .i64 p0.fW), .t (.int .i64 p0.fS)])], []⟩ ?_
  refine Wp.ret ?_
  obtain rfl := Option.some.inj h
  exact RetK [.agg [.t (.int .i64 p0.fW), .t (.int .i64 p0.fS)]] _ [] kr kr (.refl _) .nil
theorem laws_toSumS_ok (u : Nat) (p0 : List Sum) (r : (List Sum)) (h : laws_toSumS u p0 = some r) : CallOK Tryz.prog 160 [.one (.t (.sl 2 (p0.map Sum.enc)))] (.one (.ow 189 2 (r.map Sum.enc))) [] := by
  unfold laws_toSumS at h
  refine CallOK.of_bodyK (fn := Tryz.f160) (m := true) [.t (.sl 2 (p0.map Sum.enc))] kr rfl kr kr kr kr kr ?_
  refine Wp.srg [] [] ?_
  refine Runs.alln ?_
  refine Wp.fg ⟨[(0, .t (.sl 2 (p0.map Sum.enc))), (2, .nil)], [], []⟩ ?_
  refine Wp.srg [] [] ?_
  refine Runs.batch 1 kr ?_
  refine Runs.lenT (y := .t (.sl 2 (p0.map Sum.enc))) (e := 226) Sum.enc p0 2 rfl rfl rfl kr kr kr kr kr ?_
  obtain ⟨_, e_1, h⟩ := bind_some h
  obtain ⟨_, e_2, h⟩ := bind_some h
  refine Runs.mkS Sum.enc ((Sum.mk 0 0) : Sum) 7 189 2 16 ((p0.length : Int)) ((p0.length : Int)) rfl rfl kr kr kr kr kr kr (chk_some e_1) (of_decide_eq_true (chk_some e_2)) kr ?_
  refine Runs.alln ?_
  refine Wp.fg ⟨[(0, .t (.sl 2 (p0.map Sum.enc))), (2, .nil), (3, .own 458752)], [], [(458752, .live 189 2 ((List.replicate (Int.toNat ((p0.length : Int))) ((Sum.mk 0 0) : Sum)).map Sum.enc))]⟩ ?_
  refine Wp.seqJ (α := (List Sum)) (fun a => ⟨[(2, .nil), (3, .own 196609)], [], [(196609, .live 189 2 (a.map Sum.enc))]⟩) (fun a => laws_toSumS_j1 u a = some r) ?_ ?_
  · rintro x12 h
    change laws_toSumS_j1 u x12 = some r at h
    unfold laws_toSumS_j1 at h
    refine Wp.srg [] [] ?_
    refine Runs.alln ?_
    refine Wp.fg ⟨[(2, .own 196609)], [], [(196609, .live 189 2 (x12.map Sum.enc))]⟩ ?_
    refine Wp.ret ?_
    obtain rfl := Option.some.inj h
    exact RetK [.own 196609] _ [] kr kr (.refl _) .nil
  · refine Wp.srg [] [] ?_
    refine Runs.alln ?_
    refine Wp.fg ⟨[(0, .t (.sl 2 (p0.map Sum.enc))), (2, .nil), (3, .own 458752), (4, .t (.int .i64 0))], [], [(458752, .live 189 2 ((List.replicate (Int.toNat ((p0.length : Int))) ((Sum.mk 0 0) : Sum)).map Sum.enc))]⟩ ?_
    refine Wp.block ?_
    refine Wp.loopF (α := (List Sum) × (List Sum) × Int) (fun a => ⟨[(0, .t (.sl 2 (a.1.map Sum.enc))), (2, .nil), (3, .own 196609), (4, .t (.int .i64 a.2.2))], [], [(196609, .live 189 2 (a.2.1.map Sum.enc))]⟩) (fun k_laws_toSumS_l2 a => laws_toSumS_l2 u k_laws_toSumS_l2 a.1 a.2.1 a.2.2 = some r) ?_ ?_ u (p0, List.replicate (Int.toNat ((p0.length : Int))) ((Sum.mk 0 0) : Sum), 0) h (Le.of (mo := []) (mr := [(196609, 458752)]) kr kr kr kr)
    · intro a h; unfold laws_toSumS_l2 at h; cases h
    · rintro k_laws_toSumS_l2 ⟨p0, x5, x6⟩ h
      change laws_toSumS_l2 u (k_laws_toSumS_l2 + 1) p0 x5 x6 = some r at h
      rw [laws_toSumS_l2] at h
      refine Wp.seq ?_
      refine Wp.srg [] [] ?_
      refine Runs.batch 2 kr ?_
      refine Runs.lenT (y := .t (.sl 2 (p0.map Sum.enc))) (e := 226) Sum.enc p0 2 rfl rfl rfl kr kr kr kr kr ?_
      refine Runs.alln ?_
      refine Wp.fg ⟨[(0, .t (.sl 2 (p0.map Sum.enc))), (2, .nil), (3, .own 196609), (4, .t (.int .i64 x6)), (11, .t (.bool (decide (x6 < ((p0.length : Int))))))], [], [(196609, .live 189 2 (x5.map Sum.enc))]⟩ ?_
      refine Wp.cond2 (b := decide (x6 < ((p0.length : Int)))) kr (fun hc => ?_) (fun hc => ?_)
      · have h := cond_t h hc
        refine Wp.skip (thenN ?_)
        refine Wp.seq ?_
        refine Wp.block ?_
        refine Wp.rg [] [] ?_
        refine Runs.batch 4 kr ?_
        obtain ⟨y9, e_y9, h⟩ := bind_some h
        refine Runs.idxT (e := 226) (kk := .i64) (sz := 2) Sum.enc p0 x6 rfl kr kr kr kr kr kr e_y9 ?_
        refine Runs.batch 1 kr ?_
        obtain ⟨r10, e_r10, h⟩ := bind_some h
        refine Runs.callK false 20 193 [] [.agg [.t (.int .i64 y9.fW), .t (.int .i64 y9.fS)]] _ _ _ rfl rfl kr kr kr kr kr (laws_toSum_ok u y9 r10 e_r10) kr ?_
        obtain ⟨y11, e_y11, h⟩ := bind_some h
        refine Runs.idxO (e := 189) (e' := 189) (kk := .i64) (sz := 2) Sum.enc x5 x6 196609 rfl kr kr kr kr kr kr kr e_y11 ?_
        refine Runs.storeT (e := 189) (sz := 2) (m := 2) Sum.enc x5 196609 (Int.toNat x6) 0 r10 (.agg [.t (.int .i64 r10.fW), .t (.int .i64 r10.fS)]) [.int .i64 r10.fW, .int .i64 r10.fS] rfl kr kr kr kr kr kr kr kr (idx_some e_y11).2 kr kr ?_
        refine Runs.done ?_
        refine blkN ?_
        refine thenN ?_
        refine Wp.rg [] [] ?_
        refine Runs.alln ?_
        exact ⟨(p0, x5.set (Int.toNat x6) r10, bAdd .i64 x6 1), h, Le.of (mo := []) (mr := []) kr kr kr kr⟩
      have h := cond_f h hc
      refine Wp.exit ?_
      refine thenE ?_
      refine thenE ?_
      refine blkE ?_
      refine thenN ?_
      exact ⟨x5, h, Le.of (mo := []) (mr := []) kr kr kr kr⟩
theorem laws_toManifest_ok (u : Nat) (p0 : Manifest) (r : Manifest) (h : laws_toManifest u p0 = some r) : CallOK Tryz.prog 111 [.agg [.t (.int .i64 p0.fGen), .t (.int .i64 p0.fSize), .t (.int .i64 p0.fLen), .t (.sl 2 (p0.fSums.map Sum.enc))]] (.agg [.t (.int .i64 r.fGen), .t (.int .i64 r.fSize), .t (.int .i64 r.fLen), .ow 189 2 (r.fSums.map Sum.enc)]) [] := by
  unfold laws_toManifest at h
  refine CallOK.of_bodyK (fn := Tryz.f111) (m := true) [.agg ((Manifest.enc p0).map .t)] kr rfl kr kr kr kr kr ?_
  refine Wp.srg [] [] ?_
  refine Runs.alln ?_
  refine Wp.fg ⟨[(1, .obj 1 0), (2, .obj 2 0)], [(1, ((Manifest.enc p0).map .t)), (2, [.t (.int .i64 0), .t (.int .i64 0), .t (.int .i64 0), .nil])], []⟩ ?_
  refine Wp.srg [] [] ?_
  refine Runs.alln ?_
  refine Wp.fg ⟨[(1, .obj 1 0), (2, .obj 2 0), (3, .obj 3 0)], [(1, ((Manifest.enc p0).map .t)), (2, [.t (.int .i64 0), .t (.int .i64 0), .t (.int .i64 0), .nil]), (3, [.t (.int .i64 0), .t (.int .i64 0), .t (.int .i64 0), .nil])], []⟩ ?_
  refine Wp.srg [] [] ?_
  refine Runs.alln ?_
  refine Wp.fg ⟨[(1, .obj 1 0), (2, .obj 2 0), (3, .obj 3 0)], [(1, ((Manifest.enc p0).map .t)), (2, [.t (.int .i64 0), .t (.int .i64 0), .t (.int .i64 0), .nil]), (3, [.t (.int .i64 p0.fGen), .t (.int .i64 0), .t (.int .i64 0), .nil])], []⟩ ?_
  refine Wp.srg [] [] ?_
  refine Runs.alln ?_
  refine Wp.fg ⟨[(1, .obj 1 0), (2, .obj 2 0), (3, .obj 3 0)], [(1, ((Manifest.enc p0).map .t)), (2, [.t (.int .i64 0), .t (.int .i64 0), .t (.int .i64 0), .nil]), (3, [.t (.int .i64 p0.fGen), .t (.int .i64 p0.fSize), .t (.int .i64 0), .nil])], []⟩ ?_
  refine Wp.srg [] [] ?_
  refine Runs.alln ?_
  refine Wp.fg ⟨[(1, .obj 1 0), (2, .obj 2 0), (3, .obj 3 0)], [(1, ((Manifest.enc p0).map .t)), (2, [.t (.int .i64 0), .t (.int .i64 0), .t (.int .i64 0), .nil]), (3, [.t (.int .i64 p0.fGen), .t (.int .i64 p0.fSize), .t (.int .i64 p0.fLen), .nil])], []⟩ ?_
  refine Wp.srg [] [] ?_
  refine Runs.batch 2 kr ?_
  obtain ⟨r1, e_r1, h⟩ := bind_some h
  refine Runs.callK false 15 160 [] [.t (.sl 2 (p0.fSums.map Sum.enc))] _ _ _ rfl rfl kr kr kr kr kr (laws_toSumS_ok u p0.fSums r1 e_r1) kr ?_
  refine Runs.alln ?_
  refine Wp.fg ⟨[(2, .obj 2 0), (3, .obj 3 0)], [(2, [.t (.int .i64 0), .t (.int .i64 0), .t (.int .i64 0), .nil]), (3, [.t (.int .i64 p0.fGen), .t (.int .i64 p0.fSize), .t (.int .i64 p0.fLen), .own 983040])], [(983040, .live 189 2 (r1.map Sum.enc))]⟩ ?_
  refine Wp.srg [] [] ?_
  refine Runs.alln ?_
  refine Wp.fg ⟨[(2, .obj 2 0)], [(2, [.t (.int .i64 p0.fGen), .t (.int .i64 p0.fSize), .t (.int .i64 p0.fLen), .own 983040])], [(983040, .live 189 2 (r1.map Sum.enc))]⟩ ?_
  refine Wp.ret ?_
  obtain rfl := Option.some.inj h
  exact RetK [.agg [.t (.int .i64 p0.fGen), .t (.int .i64 p0.fSize), .t (.int .i64 p0.fLen), .own 983040]] _ [] kr kr (.refl _) .nil
theorem laws_toBuild_ok (u : Nat) (p0 : Build) (r : Build) (h : laws_toBuild u p0 = some r) : CallOK Tryz.prog 112 [.agg [.t (.int .i64 p0.fHave), .t (.sl 1 (p0.fBuf.map (eInt .u8)))]] (.agg [.t (.int .i64 r.fHave), .ow 5 1 (r.fBuf.map (eInt .u8))]) [] := by
  unfold laws_toBuild at h
  refine CallOK.of_bodyK (fn := Tryz.f112) (m := true) [.agg [.t (.int .i64 p0.fHave), .t (.sl 1 (p0.fBuf.map (eInt .u8)))]] kr rfl kr kr kr kr kr ?_
  refine Wp.srg [] [] ?_
  refine Runs.alln ?_
  refine Wp.fg ⟨[(1, .obj 1 0), (2, .obj 2 0)], [(1, [.t (.int .i64 p0.fHave), .t (.sl 1 (p0.fBuf.map (eInt .u8)))]), (2, [.t (.int .i64 0), .nil])], []⟩ ?_
  refine Wp.srg [] [] ?_
  refine Runs.alln ?_
  refine Wp.fg ⟨[(1, .obj 1 0), (2, .obj 2 0), (3, .obj 3 0)], [(1, [.t (.int .i64 p0.fHave), .t (.sl 1 (p0.fBuf.map (eInt .u8)))]), (2, [.t (.int .i64 0), .nil]), (3, [.t (.int .i64 0), .nil])], []⟩ ?_
  refine Wp.srg [] [] ?_
  refine Runs.alln ?_
  refine Wp.fg ⟨[(1, .obj 1 0), (2, .obj 2 0), (3, .obj 3 0)], [(1, [.t (.int .i64 p0.fHave), .t (.sl 1 (p0.fBuf.map (eInt .u8)))]), (2, [.t (.int .i64 0), .nil]), (3, [.t (.int .i64 p0.fHave), .nil])], []⟩ ?_
  refine Wp.srg [] [] ?_
  refine Runs.batch 2 kr ?_
  obtain ⟨r1, e_r1, h⟩ := bind_some h
  refine Runs.callK false 9 9 [] [.t (.sl 1 (p0.fBuf.map (eInt .u8)))] _ _ _ rfl rfl kr kr kr kr kr (laws_toByteS_ok u p0.fBuf r1 e_r1) kr ?_
  refine Runs.alln ?_
  refine Wp.fg ⟨[(2, .obj 2 0), (3, .obj 3 0)], [(2, [.t (.int .i64 0), .nil]), (3, [.t (.int .i64 p0.fHave), .own 589824])], [(589824, .live 5 1 (r1.map (eInt .u8)))]⟩ ?_
  refine Wp.srg [] [] ?_
  refine Runs.alln ?_
  refine Wp.fg ⟨[(2, .obj 2 0)], [(2, [.t (.int .i64 p0.fHave), .own 589824])], [(589824, .live 5 1 (r1.map (eInt .u8)))]⟩ ?_
  refine Wp.ret ?_
  obtain rfl := Option.some.inj h
  exact RetK [.agg [.t (.int .i64 p0.fHave), .own 589824]] _ [] kr kr (.refl _) .nil
theorem laws_toKid_ok (u : Nat) (p0 : Kid) (r : Kid) (h : laws_toKid u p0 = some r) : CallOK Tryz.prog 161 [.agg [.t (.int .i64 p0.fId), .t (.int .i64 p0.fWant), .t (.int .i64 p0.fDone), .t (.int .i64 p0.fAge), .t (.int .i64 p0.fSent)]] (.agg [.t (.int .i64 r.fId), .t (.int .i64 r.fWant), .t (.int .i64 r.fDone), .t (.int .i64 r.fAge), .t (.int .i64 r.fSent)]) [] := by
  unfold laws_toKid at h
  refine CallOK.of_bodyK (fn := Tryz.f161) (m := false) [.agg ((Kid.enc p0).map .t)] kr rfl kr kr kr kr kr ?_
  refine Wp.srg [] [] ?_
  refine Runs.alln ?_
  refine Wp.fg ⟨[(1, .obj 1 0), (2, .obj 2 0)], [(1, ((Kid.enc p0).map .t)), (2, [.t (.int .i64 0), .t (.int .i64 0), .t (.int .i64 0), .t (.int .i64 0), .t (.int .i64 0)])], []⟩ ?_
  refine Wp.srg [] [] ?_
  refine Runs.alln ?_
  refine Wp.fg ⟨[(1, .obj 1 0), (2, .obj 2 0), (3, .obj 3 0)], [(1, ((Kid.enc p0).map .t)), (2, [.t (.int .i64 0), .t (.int .i64 0), .t (.int .i64 0), .t (.int .i64 0), .t (.int .i64 0)]), (3, [.t (.int .i64 0), .t (.int .i64 0), .t (.int .i64 0), .t (.int .i64 0), .t (.int .i64 0)])], []⟩ ?_
  refine Wp.srg [] [] ?_
  refine Runs.alln ?_
  refine Wp.fg ⟨[(1, .obj 1 0), (2, .obj 2 0), (3, .obj 3 0)], [(1, ((Kid.enc p0).map .t)), (2, [.t (.int .i64 0), .t (.int .i64 0), .t (.int .i64 0), .t (.int .i64 0), .t (.int .i64 0)]), (3, [.t (.int .i64 p0.fId), .t (.int .i64 0), .t (.int .i64 0), .t (.int .i64 0), .t (.int .i64 0)])], []⟩ ?_
  refine Wp.srg [] [] ?_
  refine Runs.alln ?_
  refine Wp.fg ⟨[(1, .obj 1 0), (2, .obj 2 0), (3, .obj 3 0)], [(1, ((Kid.enc p0).map .t)), (2, [.t (.int .i64 0), .t (.int .i64 0), .t (.int .i64 0), .t (.int .i64 0), .t (.int .i64 0)]), (3, [.t (.int .i64 p0.fId), .t (.int .i64 p0.fWant), .t (.int .i64 0), .t (.int .i64 0), .t (.int .i64 0)])], []⟩ ?_
  refine Wp.srg [] [] ?_
  refine Runs.alln ?_
  refine Wp.fg ⟨[(1, .obj 1 0), (2, .obj 2 0), (3, .obj 3 0)], [(1, ((Kid.enc p0).map .t)), (2, [.t (.int .i64 0), .t (.int .i64 0), .t (.int .i64 0), .t (.int .i64 0), .t (.int .i64 0)]), (3, [.t (.int .i64 p0.fId), .t (.int .i64 p0.fWant), .t (.int .i64 p0.fDone), .t (.int .i64 0), .t (.int .i64 0)])], []⟩ ?_
  refine Wp.srg [] [] ?_
  refine Runs.alln ?_
  refine Wp.fg ⟨[(1, .obj 1 0), (2, .obj 2 0), (3, .obj 3 0)], [(1, ((Kid.enc p0).map .t)), (2, [.t (.int .i64 0), .t (.int .i64 0), .t (.int .i64 0), .t (.int .i64 0), .t (.int .i64 0)]), (3, [.t (.int .i64 p0.fId), .t (.int .i64 p0.fWant), .t (.int .i64 p0.fDone), .t (.int .i64 p0.fAge), .t (.int .i64 0)])], []⟩ ?_
  refine Wp.srg [] [] ?_
  refine Runs.alln ?_
  refine Wp.fg ⟨[(2, .obj 2 0), (3, .obj 3 0)], [(2, [.t (.int .i64 0), .t (.int .i64 0), .t (.int .i64 0), .t (.int .i64 0), .t (.int .i64 0)]), (3, ((Kid.enc p0).map .t))], []⟩ ?_
  refine Wp.srg [] [] ?_
  refine Runs.alln ?_
  refine Wp.fg ⟨[(2, .obj 2 0)], [(2, ((Kid.enc p0).map .t))], []⟩ ?_
  refine Wp.ret ?_
  obtain rfl := Option.some.inj h
  exact RetK [.agg ((Kid.enc p0).map .t)] _ [] kr kr (.refl _) .nil
theorem laws_toKidS_ok (u : Nat) (p0 : List Kid) (r : (List Kid)) (h : laws_toKidS u p0 = some r) : CallOK Tryz.prog 113 [.one (.t (.sl 5 (p0.map Kid.enc)))] (.one (.ow 200 5 (r.map Kid.enc))) [] := by
  unfold laws_toKidS at h
  refine CallOK.of_bodyK (fn := Tryz.f113) (m := true) [.t (.sl 5 (p0.map Kid.enc))] kr rfl kr kr kr kr kr ?_
  refine Wp.srg [] [] ?_
  refine Runs.alln ?_
  refine Wp.fg ⟨[(0, .t (.sl 5 (p0.map Kid.enc))), (2, .nil)], [], []⟩ ?_
  refine Wp.srg [] [] ?_
  refine Runs.batch 1 kr ?_
  refine Runs.lenT (y := .t (.sl 5 (p0.map Kid.enc))) (e := 202) Kid.enc p0 5 rfl rfl rfl kr kr kr kr kr ?_
  obtain ⟨_, e_1, h⟩ := bind_some h
  obtain ⟨_, e_2, h⟩ := bind_some h
  refine Runs.mkS Kid.enc ((Kid.mk 0 0 0 0 0) : Kid) 7 200 5 40 ((p0.length : Int)) ((p0.length : Int)) rfl rfl kr kr kr kr kr kr (chk_some e_1) (of_decide_eq_true (chk_some e_2)) kr ?_
  refine Runs.alln ?_
  refine Wp.fg ⟨[(0, .t (.sl 5 (p0.map Kid.enc))), (2, .nil), (3, .own 458752)], [], [(458752, .live 200 5 ((List.replicate (Int.toNat ((p0.length : Int))) ((Kid.mk 0 0 0 0 0) : Kid)).map Kid.enc))]⟩ ?_
  refine Wp.seqJ (α := (List Kid)) (fun a => ⟨[(2, .nil), (3, .own 196609)], [], [(196609, .live 200 5 (a.map Kid.enc))]⟩) (fun a => laws_toKidS_j1 u a = some r) ?_ ?_
  · rintro x12 h
    change laws_toKidS_j1 u x12 = some r at h
    unfold laws_toKidS_j1 at h
    refine Wp.srg [] [] ?_
    refine Runs.alln ?_
    refine Wp.fg ⟨[(2, .own 196609)], [], [(196609, .live 200 5 (x12.map Kid.enc))]⟩ ?_
    refine Wp.ret ?_
    obtain rfl := Option.some.inj h
    exact RetK [.own 196609] _ [] kr kr (.refl _) .nil
  · refine Wp.srg [] [] ?_
    refine Runs.alln ?_
    refine Wp.fg ⟨[(0, .t (.sl 5 (p0.map Kid.enc))), (2, .nil), (3, .own 458752), (4, .t (.int .i64 0))], [], [(458752, .live 200 5 ((List.replicate (Int.toNat ((p0.length : Int))) ((Kid.mk 0 0 0 0 0) : Kid)).map Kid.enc))]⟩ ?_
    refine Wp.block ?_
    refine Wp.loopF (α := (List Kid) × (List Kid) × Int) (fun a => ⟨[(0, .t (.sl 5 (a.1.map Kid.enc))), (2, .nil), (3, .own 196609), (4, .t (.int .i64 a.2.2))], [], [(196609, .live 200 5 (a.2.1.map Kid.enc))]⟩) (fun k_laws_toKidS_l2 a => laws_toKidS_l2 u k_laws_toKidS_l2 a.1 a.2.1 a.2.2 = some r) ?_ ?_ u (p0, List.replicate (Int.toNat ((p0.length : Int))) ((Kid.mk 0 0 0 0 0) : Kid), 0) h (Le.of (mo := []) (mr := [(196609, 458752)]) kr kr kr kr)
    · intro a h; unfold laws_toKidS_l2 at h; cases h
    · rintro k_laws_toKidS_l2 ⟨p0, x5, x6⟩ h
      change laws_toKidS_l2 u (k_laws_toKidS_l2 + 1) p0 x5 x6 = some r at h
      rw [laws_toKidS_l2] at h
      refine Wp.seq ?_
      refine Wp.srg [] [] ?_
      refine Runs.batch 2 kr ?_
      refine Runs.lenT (y := .t (.sl 5 (p0.map Kid.enc))) (e := 202) Kid.enc p0 5 rfl rfl rfl kr kr kr kr kr ?_
      refine Runs.alln ?_
      refine Wp.fg ⟨[(0, .t (.sl 5 (p0.map Kid.enc))), (2, .nil), (3, .own 196609), (4, .t (.int .i64 x6)), (11, .t (.bool (decide (x6 < ((p0.length : Int))))))], [], [(196609, .live 200 5 (x5.map Kid.enc))]⟩ ?_
      refine Wp.cond2 (b := decide (x6 < ((p0.length : Int)))) kr (fun hc => ?_) (fun hc => ?_)
      · have h := cond_t h hc
        refine Wp.skip (thenN ?_)
        refine Wp.seq ?_
        refine Wp.block ?_
        refine Wp.rg [] [] ?_
        refine Runs.batch 4 kr ?_
        obtain ⟨y9, e_y9, h⟩ := bind_some h
        refine Runs.idxT (e := 202) (kk := .i64) (sz := 5) Kid.enc p0 x6 rfl kr kr kr kr kr kr e_y9 ?_
        refine Runs.batch 1 kr ?_
        obtain ⟨r10, e_r10, h⟩ := bind_some h
        refine Runs.callK false 20 161 [] [.agg ((Kid.enc y9).map .t)] _ _ _ rfl rfl kr kr kr kr kr (laws_toKid_ok u y9 r10 e_r10) kr ?_
        obtain ⟨y11, e_y11, h⟩ := bind_some h
        refine Runs.idxO (e := 200) (e' := 200) (kk := .i64) (sz := 5) Kid.enc x5 x6 196609 rfl kr kr kr kr kr kr kr e_y11 ?_
        refine Runs.storeT (e := 200) (sz := 5) (m := 5) Kid.enc x5 196609 (Int.toNat x6) 0 r10 (.agg ((Kid.enc r10).map .t)) (Kid.enc r10) rfl kr kr kr kr kr kr kr kr (idx_some e_y11).2 kr kr ?_
        refine Runs.done ?_
        refine blkN ?_
        refine thenN ?_
        refine Wp.rg [] [] ?_
        refine Runs.alln ?_
        exact ⟨(p0, x5.set (Int.toNat x6) r10, bAdd .i64 x6 1), h, Le.of (mo := []) (mr := []) kr kr kr kr⟩
      have h := cond_f h hc
      refine Wp.exit ?_
      refine thenE ?_
      refine thenE ?_
      refine blkE ?_
      refine thenN ?_
      exact ⟨x5, h, Le.of (mo := []) (mr := []) kr kr kr kr⟩
theorem laws_toNode_ok (u : Nat) (p0 : Node) (r : Node) (h : laws_toNode u p0 = some r) : CallOK Tryz.prog 72 [.agg [.t (.bool p0.fOn), .t (.int .i64 p0.fBoss), .t (.int .i64 p0.fQuiet), .t (.int .i64 p0.fMan.fGen), .t (.int .i64 p0.fMan.fSize), .t (.int .i64 p0.fMan.fLen), .t (.sl 2 (p0.fMan.fSums.map Sum.enc)), .t (.int .i64 p0.fBld.fHave), .t (.sl 1 (p0.fBld.fBuf.map (eInt .u8))), .t (.int .i64 p0.fPhase), .t (.sl 5 (p0.fKids.map Kid.enc)), .t (.int .i64 p0.fDrops)]] (.agg [.t (.bool r.fOn), .t (.int .i64 r.fBoss), .t (.int .i64 r.fQuiet), .t (.int .i64 r.fMan.fGen), .t (.int .i64 r.fMan.fSize), .t (.int .i64 r.fMan.fLen), .ow 189 2 (r.fMan.fSums.map Sum.enc), .t (.int .i64 r.fBld.fHave), .ow 5 1 (r.fBld.fBuf.map (eInt .u8)), .t (.int .i64 r.fPhase), .ow 200 5 (r.fKids.map Kid.enc), .t (.int .i64 r.fDrops)]) [] := by
  unfold laws_toNode at h
  refine CallOK.of_bodyK (fn := Tryz.f72) (m := true) [.agg ((Node.enc p0).map .t)] kr rfl kr kr kr kr kr ?_
  refine Wp.srg [] [] ?_
  refine Runs.alln ?_
  refine Wp.fg ⟨[(1, .obj 1 0), (2, .obj 2 0)], [(1, ((Node.enc p0).map .t)), (2, [.t (.bool false), .t (.int .i64 0), .t (.int .i64 0), .t (.int .i64 0), .t (.int .i64 0), .t (.int .i64 0), .nil, .t (.int .i64 0), .nil, .t (.int .i64 0), .nil, .t (.int .i64 0)])], []⟩ ?_
  refine Wp.srg [] [] ?_
  refine Runs.alln ?_
  refine Wp.fg ⟨[(1, .obj 1 0), (2, .obj 2 0), (3, .obj 3 0)], [(1, ((Node.enc p0).map .t)), (2, [.t (.bool false), .t (.int .i64 0), .t (.int .i64 0), .t (.int .i64 0), .t (.int .i64 0), .t (.int .i64 0), .nil, .t (.int .i64 0), .nil, .t (.int .i64 0), .nil, .t (.int .i64 0)]), (3, [.t (.bool false), .t (.int .i64 0), .t (.int .i64 0), .t (.int .i64 0), .t (.int .i64 0), .t (.int .i64 0), .nil, .t (.int .i64 0), .nil, .t (.int .i64 0), .nil, .t (.int .i64 0)])], []⟩ ?_
  refine Wp.srg [] [] ?_
  refine Runs.alln ?_
  refine Wp.fg ⟨[(1, .obj 1 0), (2, .obj 2 0), (3, .obj 3 0)], [(1, ((Node.enc p0).map .t)), (2, [.t (.bool false), .t (.int .i64 0), .t (.int .i64 0), .t (.int .i64 0), .t (.int .i64 0), .t (.int .i64 0), .nil, .t (.int .i64 0), .nil, .t (.int .i64 0), .nil, .t (.int .i64 0)]), (3, [.t (.bool p0.fOn), .t (.int .i64 0), .t (.int .i64 0), .t (.int .i64 0), .t (.int .i64 0), .t (.int .i64 0), .nil, .t (.int .i64 0), .nil, .t (.int .i64 0), .nil, .t (.int .i64 0)])], []⟩ ?_
  refine Wp.srg [] [] ?_
  refine Runs.alln ?_
  refine Wp.fg ⟨[(1, .obj 1 0), (2, .obj 2 0), (3, .obj 3 0)], [(1, ((Node.enc p0).map .t)), (2, [.t (.bool false), .t (.int .i64 0), .t (.int .i64 0), .t (.int .i64 0), .t (.int .i64 0), .t (.int .i64 0), .nil, .t (.int .i64 0), .nil, .t (.int .i64 0), .nil, .t (.int .i64 0)]), (3, [.t (.bool p0.fOn), .t (.int .i64 p0.fBoss), .t (.int .i64 0), .t (.int .i64 0), .t (.int .i64 0), .t (.int .i64 0), .nil, .t (.int .i64 0), .nil, .t (.int .i64 0), .nil, .t (.int .i64 0)])], []⟩ ?_
  refine Wp.srg [] [] ?_
  refine Runs.alln ?_
  refine Wp.fg ⟨[(1, .obj 1 0), (2, .obj 2 0), (3, .obj 3 0)], [(1, ((Node.enc p0).map .t)), (2, [.t (.bool false), .t (.int .i64 0), .t (.int .i64 0), .t (.int .i64 0), .t (.int .i64 0), .t (.int .i64 0), .nil, .t (.int .i64 0), .nil, .t (.int .i64 0), .nil, .t (.int .i64 0)]), (3, [.t (.bool p0.fOn), .t (.int .i64 p0.fBoss), .t (.int .i64 p0.fQuiet), .t (.int .i64 0), .t (.int .i64 0), .t (.int .i64 0), .nil, .t (.int .i64 0), .nil, .t (.int .i64 0), .nil, .t (.int .i64 0)])], []⟩ ?_
  refine Wp.srg [] [] ?_
  refine Runs.batch 2 kr ?_
  obtain ⟨r1, e_r1, h⟩ := bind_some h
  refine Runs.callK false 15 111 [] [.agg ((Manifest.enc p0.fMan).map .t)] _ _ _ rfl rfl kr kr kr kr kr (laws_toManifest_ok u p0.fMan r1 e_r1) kr ?_
  refine Runs.alln ?_
  refine Wp.fg ⟨[(1, .obj 1 0), (2, .obj 2 0), (3, .obj 3 0)], [(1, ((Node.enc p0).map .t)), (2, [.t (.bool false), .t (.int .i64 0), .t (.int .i64 0), .t (.int .i64 0), .t (.int .i64 0), .t (.int .i64 0), .nil, .t (.int .i64 0), .nil, .t (.int .i64 0), .nil, .t (.int .i64 0)]), (3, [.t (.bool p0.fOn), .t (.int .i64 p0.fBoss), .t (.int .i64 p0.fQuiet), .t (.int .i64 r1.fGen), .t (.int .i64 r1.fSize), .t (.int .i64 r1.fLen), .own 983043, .t (.int .i64 0), .nil, .t (.int .i64 0), .nil, .t (.int .i64 0)])], [(983043, .live 189 2 (r1.fSums.map Sum.enc))]⟩ ?_
  refine Wp.srg [] [] ?_
  refine Runs.batch 2 kr ?_
  obtain ⟨r2, e_r2, h⟩ := bind_some h
  refine Runs.callK false 19 112 [] [.agg [.t (.int .i64 p0.fBld.fHave), .t (.sl 1 (p0.fBld.fBuf.map (eInt .u8)))]] _ _ _ rfl rfl kr kr kr kr kr (laws_toBuild_ok u p0.fBld r2 e_r2) kr ?_
  refine Runs.alln ?_
  refine Wp.fg ⟨[(1, .obj 1 0), (2, .obj 2 0), (3, .obj 3 0)], [(1, ((Node.enc p0).map .t)), (2, [.t (.bool false), .t (.int .i64 0), .t (.int .i64 0), .t (.int .i64 0), .t (.int .i64 0), .t (.int .i64 0), .nil, .t (.int .i64 0), .nil, .t (.int .i64 0), .nil, .t (.int .i64 0)]), (3, [.t (.bool p0.fOn), .t (.int .i64 p0.fBoss), .t (.int .i64 p0.fQuiet), .t (.int .i64 r1.fGen), .t (.int .i64 r1.fSize), .t (.int .i64 r1.fLen), .own 983043, .t (.int .i64 r2.fHave), .own 1245185, .t (.int .i64 0), .nil, .t (.int .i64 0)])], [(983043, .live 189 2 (r1.fSums.map Sum.enc)), (1245185, .live 5 1 (r2.fBuf.map (eInt .u8)))]⟩ ?_
  refine Wp.srg [] [] ?_
  refine Runs.alln ?_
  refine Wp.fg ⟨[(1, .obj 1 0), (2, .obj 2 0), (3, .obj 3 0)], [(1, ((Node.enc p0).map .t)), (2, [.t (.bool false), .t (.int .i64 0), .t (.int .i64 0), .t (.int .i64 0), .t (.int .i64 0), .t (.int .i64 0), .nil, .t (.int .i64 0), .nil, .t (.int .i64 0), .nil, .t (.int .i64 0)]), (3, [.t (.bool p0.fOn), .t (.int .i64 p0.fBoss), .t (.int .i64 p0.fQuiet), .t (.int .i64 r1.fGen), .t (.int .i64 r1.fSize), .t (.int .i64 r1.fLen), .own 983043, .t (.int .i64 r2.fHave), .own 1245185, .t (.int .i64 p0.fPhase), .nil, .t (.int .i64 0)])], [(983043, .live 189 2 (r1.fSums.map Sum.enc)), (1245185, .live 5 1 (r2.fBuf.map (eInt .u8)))]⟩ ?_
  refine Wp.srg [] [] ?_
  refine Runs.batch 2 kr ?_
  obtain ⟨r3, e_r3, h⟩ := bind_some h
  refine Runs.callK false 26 113 [] [.t (.sl 5 (p0.fKids.map Kid.enc))] _ _ _ rfl rfl kr kr kr kr kr (laws_toKidS_ok u p0.fKids r3 e_r3) kr ?_
  refine Runs.alln ?_
  refine Wp.fg ⟨[(1, .obj 1 0), (2, .obj 2 0), (3, .obj 3 0)], [(1, ((Node.enc p0).map .t)), (2, [.t (.bool false), .t (.int .i64 0), .t (.int .i64 0), .t (.int .i64 0), .t (.int .i64 0), .t (.int .i64 0), .nil, .t (.int .i64 0), .nil, .t (.int .i64 0), .nil, .t (.int .i64 0)]), (3, [.t (.bool p0.fOn), .t (.int .i64 p0.fBoss), .t (.int .i64 p0.fQuiet), .t (.int .i64 r1.fGen), .t (.int .i64 r1.fSize), .t (.int .i64 r1.fLen), .own 983043, .t (.int .i64 r2.fHave), .own 1245185, .t (.int .i64 p0.fPhase), .own 1703936, .t (.int .i64 0)])], [(983043, .live 189 2 (r1.fSums.map Sum.enc)), (1245185, .live 5 1 (r2.fBuf.map (eInt .u8))), (1703936, .live 200 5 (r3.map Kid.enc))]⟩ ?_
  refine Wp.srg [] [] ?_
  refine Runs.alln ?_
  refine Wp.fg ⟨[(2, .obj 2 0), (3, .obj 3 0)], [(2, [.t (.bool false), .t (.int .i64 0), .t (.int .i64 0), .t (.int .i64 0), .t (.int .i64 0), .t (.int .i64 0), .nil, .t (.int .i64 0), .nil, .t (.int .i64 0), .nil, .t (.int .i64 0)]), (3, [.t (.bool p0.fOn), .t (.int .i64 p0.fBoss), .t (.int .i64 p0.fQuiet), .t (.int .i64 r1.fGen), .t (.int .i64 r1.fSize), .t (.int .i64 r1.fLen), .own 983043, .t (.int .i64 r2.fHave), .own 1245185, .t (.int .i64 p0.fPhase), .own 1703936, .t (.int .i64 p0.fDrops)])], [(983043, .live 189 2 (r1.fSums.map Sum.enc)), (1245185, .live 5 1 (r2.fBuf.map (eInt .u8))), (1703936, .live 200 5 (r3.map Kid.enc))]⟩ ?_
  refine Wp.srg [] [] ?_
  refine Runs.alln ?_
  refine Wp.fg ⟨[(2, .obj 2 0)], [(2, [.t (.bool p0.fOn), .t (.int .i64 p0.fBoss), .t (.int .i64 p0.fQuiet), .t (.int .i64 r1.fGen), .t (.int .i64 r1.fSize), .t (.int .i64 r1.fLen), .own 983043, .t (.int .i64 r2.fHave), .own 1245185, .t (.int .i64 p0.fPhase), .own 1703936, .t (.int .i64 p0.fDrops)])], [(983043, .live 189 2 (r1.fSums.map Sum.enc)), (1245185, .live 5 1 (r2.fBuf.map (eInt .u8))), (1703936, .live 200 5 (r3.map Kid.enc))]⟩ ?_
  refine Wp.ret ?_
  obtain rfl := Option.some.inj h
  exact RetK [.agg [.t (.bool p0.fOn), .t (.int .i64 p0.fBoss), .t (.int .i64 p0.fQuiet), .t (.int .i64 r1.fGen), .t (.int .i64 r1.fSize), .t (.int .i64 r1.fLen), .own 983043, .t (.int .i64 r2.fHave), .own 1245185, .t (.int .i64 p0.fPhase), .own 1703936, .t (.int .i64 p0.fDrops)]] _ [] kr kr (.refl _) .nil
theorem laws_toNodeS_ok (u : Nat) (p0 : List Node) (r : (List Node)) (h : laws_toNodeS u p0 = some r) : CallOK Tryz.prog 40 [.one (.t (.sl 12 (p0.map Node.enc)))] (.one (.ow 92 12 (r.map Node.enc))) [] := by
  unfold laws_toNodeS at h
  refine CallOK.of_bodyK (fn := Tryz.f40) (m := true) [.t (.sl 12 (p0.map Node.enc))] kr rfl kr kr kr kr kr ?_
  refine Wp.srg [] [] ?_
  refine Runs.alln ?_
  refine Wp.fg ⟨[(0, .t (.sl 12 (p0.map Node.enc))), (2, .nil)], [], []⟩ ?_
  refine Wp.srg [] [] ?_
  refine Runs.batch 1 kr ?_
  refine Runs.lenT (y := .t (.sl 12 (p0.map Node.enc))) (e := 110) Node.enc p0 12 rfl rfl rfl kr kr kr kr kr ?_
  obtain ⟨_, e_1, h⟩ := bind_some h
  obtain ⟨_, e_2, h⟩ := bind_some h
  refine Runs.mkS Node.enc ((Node.mk false 0 0 ((Manifest.mk 0 0 0 ([]))) ((Build.mk 0 ([]))) 0 ([]) 0) : Node) 7 92 12 144 ((p0.length : Int)) ((p0.length : Int)) rfl rfl kr kr kr kr kr kr (chk_some e_1) (of_decide_eq_true (chk_some e_2)) kr ?_
  refine Runs.alln ?_
  refine Wp.fg ⟨[(0, .t (.sl 12 (p0.map Node.enc))), (2, .nil), (3, .own 458752)], [], [(458752, .live 92 12 ((List.replicate (Int.toNat ((p0.length : Int))) ((Node.mk false 0 0 ((Manifest.mk 0 0 0 ([]))) ((Build.mk 0 ([]))) 0 ([]) 0) : Node)).map Node.enc))]⟩ ?_
  refine Wp.seqJ (α := (List Node)) (fun a => ⟨[(2, .nil), (3, .own 196609)], [], [(196609, .live 92 12 (a.map Node.enc))]⟩) (fun a => laws_toNodeS_j1 u a = some r) ?_ ?_
  · rintro x12 h
    change laws_toNodeS_j1 u x12 = some r at h
    unfold laws_toNodeS_j1 at h
    refine Wp.srg [] [] ?_
    refine Runs.alln ?_
    refine Wp.fg ⟨[(2, .own 196609)], [], [(196609, .live 92 12 (x12.map Node.enc))]⟩ ?_
    refine Wp.ret ?_
    obtain rfl := Option.some.inj h
    exact RetK [.own 196609] _ [] kr kr (.refl _) .nil
  · refine Wp.srg [] [] ?_
    refine Runs.alln ?_
    refine Wp.fg ⟨[(0, .t (.sl 12 (p0.map Node.enc))), (2, .nil), (3, .own 458752), (4, .t (.int .i64 0))], [], [(458752, .live 92 12 ((List.replicate (Int.toNat ((p0.length : Int))) ((Node.mk false 0 0 ((Manifest.mk 0 0 0 ([]))) ((Build.mk 0 ([]))) 0 ([]) 0) : Node)).map Node.enc))]⟩ ?_
    refine Wp.block ?_
    refine Wp.loopF (α := (List Node) × (List Node) × Int) (fun a => ⟨[(0, .t (.sl 12 (a.1.map Node.enc))), (2, .nil), (3, .own 196609), (4, .t (.int .i64 a.2.2))], [], [(196609, .live 92 12 (a.2.1.map Node.enc))]⟩) (fun k_laws_toNodeS_l2 a => laws_toNodeS_l2 u k_laws_toNodeS_l2 a.1 a.2.1 a.2.2 = some r) ?_ ?_ u (p0, List.replicate (Int.toNat ((p0.length : Int))) ((Node.mk false 0 0 ((Manifest.mk 0 0 0 ([]))) ((Build.mk 0 ([]))) 0 ([]) 0) : Node), 0) h (Le.of (mo := []) (mr := [(196609, 458752)]) kr kr kr kr)
    · intro a h; unfold laws_toNodeS_l2 at h; cases h
    · rintro k_laws_toNodeS_l2 ⟨p0, x5, x6⟩ h
      change laws_toNodeS_l2 u (k_laws_toNodeS_l2 + 1) p0 x5 x6 = some r at h
      rw [laws_toNodeS_l2] at h
      refine Wp.seq ?_
      refine Wp.srg [] [] ?_
      refine Runs.batch 2 kr ?_
      refine Runs.lenT (y := .t (.sl 12 (p0.map Node.enc))) (e := 110) Node.enc p0 12 rfl rfl rfl kr kr kr kr kr ?_
      refine Runs.alln ?_
      refine Wp.fg ⟨[(0, .t (.sl 12 (p0.map Node.enc))), (2, .nil), (3, .own 196609), (4, .t (.int .i64 x6)), (11, .t (.bool (decide (x6 < ((p0.length : Int))))))], [], [(196609, .live 92 12 (x5.map Node.enc))]⟩ ?_
      refine Wp.cond2 (b := decide (x6 < ((p0.length : Int)))) kr (fun hc => ?_) (fun hc => ?_)
      · have h := cond_t h hc
        refine Wp.skip (thenN ?_)
        refine Wp.seq ?_
        refine Wp.block ?_
        refine Wp.rg [] [] ?_
        refine Runs.batch 4 kr ?_
        obtain ⟨y9, e_y9, h⟩ := bind_some h
        refine Runs.idxT (e := 110) (kk := .i64) (sz := 12) Node.enc p0 x6 rfl kr kr kr kr kr kr e_y9 ?_
        refine Runs.batch 1 kr ?_
        obtain ⟨r10, e_r10, h⟩ := bind_some h
        refine Runs.callK false 20 72 [] [.agg ((Node.enc y9).map .t)] _ _ _ rfl rfl kr kr kr kr kr (laws_toNode_ok u y9 r10 e_r10) kr ?_
        obtain ⟨y11, e_y11, h⟩ := bind_some h
        refine Runs.idxO (e := 92) (e' := 92) (kk := .i64) (sz := 12) Node.enc x5 x6 196609 rfl kr kr kr kr kr kr kr e_y11 ?_
        refine Runs.storeU (e := 92) (sz := 12) (m := 12) Node.enc x5 196609 (Int.toNat x6) 0 r10 (.agg [.t (.bool r10.fOn), .t (.int .i64 r10.fBoss), .t (.int .i64 r10.fQuiet), .t (.int .i64 r10.fMan.fGen), .t (.int .i64 r10.fMan.fSize), .t (.int .i64 r10.fMan.fLen), .own 1310726, .t (.int .i64 r10.fBld.fHave), .own 1310728, .t (.int .i64 r10.fPhase), .own 1310730, .t (.int .i64 r10.fDrops)]) (Node.enc r10) rfl kr kr kr kr kr kr kr kr (idx_some e_y11).2 kr kr ?_
        refine Runs.done ?_
        refine blkN ?_
        refine thenN ?_
        refine Wp.rg [] [] ?_
        refine Runs.alln ?_
        exact ⟨(p0, x5.set (Int.toNat x6) r10, bAdd .i64 x6 1), h, Le.of (mo := []) (mr := []) kr kr kr kr⟩
      have h := cond_f h hc
      refine Wp.exit ?_
      refine thenE ?_
      refine thenE ?_
      refine blkE ?_
      refine thenN ?_
      exact ⟨x5, h, Le.of (mo := []) (mr := []) kr kr kr kr⟩
theorem laws_toRecord_ok (u : Nat) (p0 : Record) (r : Record) (h : laws_toRecord u p0 = some r) : CallOK Tryz.prog 114 [.agg [.t (.int .i64 p0.fGen), .t (.int .i64 p0.fSlot), .t (.int .i64 p0.fLen)]] (.agg [.t (.int .i64 r.fGen), .t (.int .i64 r.fSlot), .t (.int .i64 r.fLen)]) [] := by
  unfold laws_toRecord at h
  refine CallOK.of_bodyK (fn := Tryz.f114) (m := false) [.agg ((Record.enc p0).map .t)] kr rfl kr kr kr kr kr ?_
  refine Wp.srg [] [] ?_
  refine Runs.alln ?_
  refine Wp.fg ⟨[(1, .obj 1 0), (2, .obj 2 0)], [(1, ((Record.enc p0).map .t)), (2, [.t (.int .i64 0), .t (.int .i64 0), .t (.int .i64 0)])], []⟩ ?_
  refine Wp.srg [] [] ?_
  refine Runs.alln ?_
  refine Wp.fg ⟨[(1, .obj 1 0), (2, .obj 2 0), (3, .obj 3 0)], [(1, ((Record.enc p0).map .t)), (2, [.t (.int .i64 0), .t (.int .i64 0), .t (.int .i64 0)]), (3, [.t (.int .i64 0), .t (.int .i64 0), .t (.int .i64 0)])], []⟩ ?_
  refine Wp.srg [] [] ?_
  refine Runs.alln ?_
  refine Wp.fg ⟨[(1, .obj 1 0), (2, .obj 2 0), (3, .obj 3 0)], [(1, ((Record.enc p0).map .t)), (2, [.t (.int .i64 0), .t (.int .i64 0), .t (.int .i64 0)]), (3, [.t (.int .i64 p0.fGen), .t (.int .i64 0), .t (.int .i64 0)])], []⟩ ?_
  refine Wp.srg [] [] ?_
  refine Runs.alln ?_
  refine Wp.fg ⟨[(1, .obj 1 0), (2, .obj 2 0), (3, .obj 3 0)], [(1, ((Record.enc p0).map .t)), (2, [.t (.int .i64 0), .t (.int .i64 0), .t (.int .i64 0)]), (3, [.t (.int .i64 p0.fGen), .t (.int .i64 p0.fSlot), .t (.int .i64 0)])], []⟩ ?_
  refine Wp.srg [] [] ?_
  refine Runs.alln ?_
  refine Wp.fg ⟨[(2, .obj 2 0), (3, .obj 3 0)], [(2, [.t (.int .i64 0), .t (.int .i64 0), .t (.int .i64 0)]), (3, ((Record.enc p0).map .t))], []⟩ ?_
  refine Wp.srg [] [] ?_
  refine Runs.alln ?_
  refine Wp.fg ⟨[(2, .obj 2 0)], [(2, ((Record.enc p0).map .t))], []⟩ ?_
  refine Wp.ret ?_
  obtain rfl := Option.some.inj h
  exact RetK [.agg ((Record.enc p0).map .t)] _ [] kr kr (.refl _) .nil
theorem laws_toPut_ok (u : Nat) (p0 : Put) (r : Put) (h : laws_toPut u p0 = some r) : CallOK Tryz.prog 162 [.agg [.t (.int .i64 p0.fWhat), .t (.int .i64 p0.fAt), .t (.sl 1 (p0.fB.map (eInt .u8))), .t (.int .i64 p0.fR.fGen), .t (.int .i64 p0.fR.fSlot), .t (.int .i64 p0.fR.fLen)]] (.agg [.t (.int .i64 r.fWhat), .t (.int .i64 r.fAt), .ow 5 1 (r.fB.map (eInt .u8)), .t (.int .i64 r.fR.fGen), .t (.int .i64 r.fR.fSlot), .t (.int .i64 r.fR.fLen)]) [] := by
  unfold laws_toPut at h
  refine CallOK.of_bodyK (fn := Tryz.f162) (m := true) [.agg ((Put.enc p0).map .t)] kr rfl kr kr kr kr kr ?_
  refine Wp.srg [] [] ?_
  refine Runs.alln ?_
  refine Wp.fg ⟨[(1, .obj 1 0), (2, .obj 2 0)], [(1, ((Put.enc p0).map .t)), (2, [.t (.int .i64 0), .t (.int .i64 0), .nil, .t (.int .i64 0), .t (.int .i64 0), .t (.int .i64 0)])], []⟩ ?_
  refine Wp.srg [] [] ?_
  refine Runs.alln ?_
  refine Wp.fg ⟨[(1, .obj 1 0), (2, .obj 2 0), (3, .obj 3 0)], [(1, ((Put.enc p0).map .t)), (2, [.t (.int .i64 0), .t (.int .i64 0), .nil, .t (.int .i64 0), .t (.int .i64 0), .t (.int .i64 0)]), (3, [.t (.int .i64 0), .t (.int .i64 0), .nil, .t (.int .i64 0), .t (.int .i64 0), .t (.int .i64 0)])], []⟩ ?_
  refine Wp.srg [] [] ?_
  refine Runs.alln ?_
  refine Wp.fg ⟨[(1, .obj 1 0), (2, .obj 2 0), (3, .obj 3 0)], [(1, ((Put.enc p0).map .t)), (2, [.t (.int .i64 0), .t (.int .i64 0), .nil, .t (.int .i64 0), .t (.int .i64 0), .t (.int .i64 0)]), (3, [.t (.int .i64 p0.fWhat), .t (.int .i64 0), .nil, .t (.int .i64 0), .t (.int .i64 0), .t (.int .i64 0)])], []⟩ ?_
  refine Wp.srg [] [] ?_
  refine Runs.alln ?_
  refine Wp.fg ⟨[(1, .obj 1 0), (2, .obj 2 0), (3, .obj 3 0)], [(1, ((Put.enc p0).map .t)), (2, [.t (.int .i64 0), .t (.int .i64 0), .nil, .t (.int .i64 0), .t (.int .i64 0), .t (.int .i64 0)]), (3, [.t (.int .i64 p0.fWhat), .t (.int .i64 p0.fAt), .nil, .t (.int .i64 0), .t (.int .i64 0), .t (.int .i64 0)])], []⟩ ?_
  refine Wp.srg [] [] ?_
  refine Runs.batch 2 kr ?_
  obtain ⟨r1, e_r1, h⟩ := bind_some h
  refine Runs.callK false 12 9 [] [.t (.sl 1 (p0.fB.map (eInt .u8)))] _ _ _ rfl rfl kr kr kr kr kr (laws_toByteS_ok u p0.fB r1 e_r1) kr ?_
  refine Runs.alln ?_
  refine Wp.fg ⟨[(1, .obj 1 0), (2, .obj 2 0), (3, .obj 3 0)], [(1, ((Put.enc p0).map .t)), (2, [.t (.int .i64 0), .t (.int .i64 0), .nil, .t (.int .i64 0), .t (.int .i64 0), .t (.int .i64 0)]), (3, [.t (.int .i64 p0.fWhat), .t (.int .i64 p0.fAt), .own 786432, .t (.int .i64 0), .t (.int .i64 0), .t (.int .i64 0)])], [(786432, .live 5 1 (r1.map (eInt .u8)))]⟩ ?_
  refine Wp.srg [] [] ?_
  refine Runs.batch 2 kr ?_
  obtain ⟨r2, e_r2, h⟩ := bind_some h
  refine Runs.callK false 16 114 [] [.agg ((Record.enc p0.fR).map .t)] _ _ _ rfl rfl kr kr kr kr kr (laws_toRecord_ok u p0.fR r2 e_r2) kr ?_
  refine Runs.alln ?_
  refine Wp.fg ⟨[(2, .obj 2 0), (3, .obj 3 0)], [(2, [.t (.int .i64 0), .t (.int .i64 0), .nil, .t (.int .i64 0), .t (.int .i64 0), .t (.int .i64 0)]), (3, [.t (.int .i64 p0.fWhat), .t (.int .i64 p0.fAt), .own 786432, .t (.int .i64 r2.fGen), .t (.int .i64 r2.fSlot), .t (.int .i64 r2.fLen)])], [(786432, .live 5 1 (r1.map (eInt .u8)))]⟩ ?_
  refine Wp.srg [] [] ?_
  refine Runs.alln ?_
  refine Wp.fg ⟨[(2, .obj 2 0)], [(2, [.t (.int .i64 p0.fWhat), .t (.int .i64 p0.fAt), .own 786432, .t (.int .i64 r2.fGen), .t (.int .i64 r2.fSlot), .t (.int .i64 r2.fLen)])], [(786432, .live 5 1 (r1.map (eInt .u8)))]⟩ ?_
  refine Wp.ret ?_
  obtain rfl := Option.some.inj h
  exact RetK [.agg [.t (.int .i64 p0.fWhat), .t (.int .i64 p0.fAt), .own 786432, .t (.int .i64 r2.fGen), .t (.int .i64 r2.fSlot), .t (.int .i64 r2.fLen)]] _ [] kr kr (.refl _) .nil
theorem laws_toPutS_ok (u : Nat) (p0 : List Put) (r : (List Put)) (h : laws_toPutS u p0 = some r) : CallOK Tryz.prog 115 [.one (.t (.sl 6 (p0.map Put.enc)))] (.one (.ow 204 6 (r.map Put.enc))) [] := by
  unfold laws_toPutS at h
  refine CallOK.of_bodyK (fn := Tryz.f115) (m := true) [.t (.sl 6 (p0.map Put.enc))] kr rfl kr kr kr kr kr ?_
  refine Wp.srg [] [] ?_
  refine Runs.alln ?_
  refine Wp.fg ⟨[(0, .t (.sl 6 (p0.map Put.enc))), (2, .nil)], [], []⟩ ?_
  refine Wp.srg [] [] ?_
  refine Runs.batch 1 kr ?_
  refine Runs.lenT (y := .t (.sl 6 (p0.map Put.enc))) (e := 197) Put.enc p0 6 rfl rfl rfl kr kr kr kr kr ?_
  obtain ⟨_, e_1, h⟩ := bind_some h
  obtain ⟨_, e_2, h⟩ := bind_some h
  refine Runs.mkS Put.enc ((Put.mk 0 0 ([]) ((Record.mk 0 0 0))) : Put) 7 204 6 64 ((p0.length : Int)) ((p0.length : Int)) rfl rfl kr kr kr kr kr kr (chk_some e_1) (of_decide_eq_true (chk_some e_2)) kr ?_
  refine Runs.alln ?_
  refine Wp.fg ⟨[(0, .t (.sl 6 (p0.map Put.enc))), (2, .nil), (3, .own 458752)], [], [(458752, .live 204 6 ((List.replicate (Int.toNat ((p0.length : Int))) ((Put.mk 0 0 ([]) ((Record.mk 0 0 0))) : Put)).map Put.enc))]⟩ ?_
  refine Wp.seqJ (α := (List Put)) (fun a => ⟨[(2, .nil), (3, .own 196609)], [], [(196609, .live 204 6 (a.map Put.enc))]⟩) (fun a => laws_toPutS_j1 u a = some r) ?_ ?_
  · rintro x12 h
    change laws_toPutS_j1 u x12 = some r at h
    unfold laws_toPutS_j1 at h
    refine Wp.srg [] [] ?_
    refine Runs.alln ?_
    refine Wp.fg ⟨[(2, .own 196609)], [], [(196609, .live 204 6 (x12.map Put.enc))]⟩ ?_
    refine Wp.ret ?_
    obtain rfl := Option.some.inj h
    exact RetK [.own 196609] _ [] kr kr (.refl _) .nil
  · refine Wp.srg [] [] ?_
    refine Runs.alln ?_
    refine Wp.fg ⟨[(0, .t (.sl 6 (p0.map Put.enc))), (2, .nil), (3, .own 458752), (4, .t (.int .i64 0))], [], [(458752, .live 204 6 ((List.replicate (Int.toNat ((p0.length : Int))) ((Put.mk 0 0 ([]) ((Record.mk 0 0 0))) : Put)).map Put.enc))]⟩ ?_
    refine Wp.block ?_
    refine Wp.loopF (α := (List Put) × (List Put) × Int) (fun a => ⟨[(0, .t (.sl 6 (a.1.map Put.enc))), (2, .nil), (3, .own 196609), (4, .t (.int .i64 a.2.2))], [], [(196609, .live 204 6 (a.2.1.map Put.enc))]⟩) (fun k_laws_toPutS_l2 a => laws_toPutS_l2 u k_laws_toPutS_l2 a.1 a.2.1 a.2.2 = some r) ?_ ?_ u (p0, List.replicate (Int.toNat ((p0.length : Int))) ((Put.mk 0 0 ([]) ((Record.mk 0 0 0))) : Put), 0) h (Le.of (mo := []) (mr := [(196609, 458752)]) kr kr kr kr)
    · intro a h; unfold laws_toPutS_l2 at h; cases h
    · rintro k_laws_toPutS_l2 ⟨p0, x5, x6⟩ h
      change laws_toPutS_l2 u (k_laws_toPutS_l2 + 1) p0 x5 x6 = some r at h
      rw [laws_toPutS_l2] at h
      refine Wp.seq ?_
      refine Wp.srg [] [] ?_
      refine Runs.batch 2 kr ?_
      refine Runs.lenT (y := .t (.sl 6 (p0.map Put.enc))) (e := 197) Put.enc p0 6 rfl rfl rfl kr kr kr kr kr ?_
      refine Runs.alln ?_
      refine Wp.fg ⟨[(0, .t (.sl 6 (p0.map Put.enc))), (2, .nil), (3, .own 196609), (4, .t (.int .i64 x6)), (11, .t (.bool (decide (x6 < ((p0.length : Int))))))], [], [(196609, .live 204 6 (x5.map Put.enc))]⟩ ?_
      refine Wp.cond2 (b := decide (x6 < ((p0.length : Int)))) kr (fun hc => ?_) (fun hc => ?_)
      · have h := cond_t h hc
        refine Wp.skip (thenN ?_)
        refine Wp.seq ?_
        refine Wp.block ?_
        refine Wp.rg [] [] ?_
        refine Runs.batch 4 kr ?_
        obtain ⟨y9, e_y9, h⟩ := bind_some h
        refine Runs.idxT (e := 197) (kk := .i64) (sz := 6) Put.enc p0 x6 rfl kr kr kr kr kr kr e_y9 ?_
        refine Runs.batch 1 kr ?_
        obtain ⟨r10, e_r10, h⟩ := bind_some h
        refine Runs.callK false 20 162 [] [.agg ((Put.enc y9).map .t)] _ _ _ rfl rfl kr kr kr kr kr (laws_toPut_ok u y9 r10 e_r10) kr ?_
        obtain ⟨y11, e_y11, h⟩ := bind_some h
        refine Runs.idxO (e := 204) (e' := 204) (kk := .i64) (sz := 6) Put.enc x5 x6 196609 rfl kr kr kr kr kr kr kr e_y11 ?_
        refine Runs.storeU (e := 204) (sz := 6) (m := 6) Put.enc x5 196609 (Int.toNat x6) 0 r10 (.agg [.t (.int .i64 r10.fWhat), .t (.int .i64 r10.fAt), .own 1310722, .t (.int .i64 r10.fR.fGen), .t (.int .i64 r10.fR.fSlot), .t (.int .i64 r10.fR.fLen)]) (Put.enc r10) rfl kr kr kr kr kr kr kr kr (idx_some e_y11).2 kr kr ?_
        refine Runs.done ?_
        refine blkN ?_
        refine thenN ?_
        refine Wp.rg [] [] ?_
        refine Runs.alln ?_
        exact ⟨(p0, x5.set (Int.toNat x6) r10, bAdd .i64 x6 1), h, Le.of (mo := []) (mr := []) kr kr kr kr⟩
      have h := cond_f h hc
      refine Wp.exit ?_
      refine thenE ?_
      refine thenE ?_
      refine blkE ?_
      refine thenN ?_
      exact ⟨x5, h, Le.of (mo := []) (mr := []) kr kr kr kr⟩
theorem laws_toDisk_ok (u : Nat) (p0 : Disk) (r : Disk) (h : laws_toDisk u p0 = some r) : CallOK Tryz.prog 73 [.agg [.t (.sl 1 (p0.fA.map (eInt .u8))), .t (.sl 1 (p0.fB.map (eInt .u8))), .t (.int .i64 p0.fR.fGen), .t (.int .i64 p0.fR.fSlot), .t (.int .i64 p0.fR.fLen), .t (.sl 6 (p0.fP.map Put.enc))]] (.agg [.ow 5 1 (r.fA.map (eInt .u8)), .ow 5 1 (r.fB.map (eInt .u8)), .t (.int .i64 r.fR.fGen), .t (.int .i64 r.fR.fSlot), .t (.int .i64 r.fR.fLen), .ow 204 6 (r.fP.map Put.enc)]) [] := by
  unfold laws_toDisk at h
  refine CallOK.of_bodyK (fn := Tryz.f73) (m := true) [.agg ((Disk.enc p0).map .t)] kr rfl kr kr kr kr kr ?_
  refine Wp.srg [] [] ?_
  refine Runs.alln ?_
  refine Wp.fg ⟨[(1, .obj 1 0), (2, .obj 2 0)], [(1, ((Disk.enc p0).map .t)), (2, [.nil, .nil, .t (.int .i64 0), .t (.int .i64 0), .t (.int .i64 0), .nil])], []⟩ ?_
  refine Wp.srg [] [] ?_
  refine Runs.alln ?_
  refine Wp.fg ⟨[(1, .obj 1 0), (2, .obj 2 0), (3, .obj 3 0)], [(1, ((Disk.enc p0).map .t)), (2, [.nil, .nil, .t (.int .i64 0), .t (.int .i64 0), .t (.int .i64 0), .nil]), (3, [.nil, .nil, .t (.int .i64 0), .t (.int .i64 0), .t (.int .i64 0), .nil])], []⟩ ?_
  refine Wp.srg [] [] ?_
  refine Runs.batch 2 kr ?_
  obtain ⟨r1, e_r1, h⟩ := bind_some h
  refine Runs.callK false 6 9 [] [.t (.sl 1 (p0.fA.map (eInt .u8)))] _ _ _ rfl rfl kr kr kr kr kr (laws_toByteS_ok u p0.fA r1 e_r1) kr ?_
  refine Runs.alln ?_
  refine Wp.fg ⟨[(1, .obj 1 0), (2, .obj 2 0), (3, .obj 3 0)], [(1, ((Disk.enc p0).map .t)), (2, [.nil, .nil, .t (.int .i64 0), .t (.int .i64 0), .t (.int .i64 0), .nil]), (3, [.own 393216, .nil, .t (.int .i64 0), .t (.int .i64 0), .t (.int .i64 0), .nil])], [(393216, .live 5 1 (r1.map (eInt .u8)))]⟩ ?_
  refine Wp.srg [] [] ?_
  refine Runs.batch 2 kr ?_
  obtain ⟨r2, e_r2, h⟩ := bind_some h
  refine Runs.callK false 10 9 [] [.t (.sl 1 (p0.fB.map (eInt .u8)))] _ _ _ rfl rfl kr kr kr kr kr (laws_toByteS_ok u p0.fB r2 e_r2) kr ?_
  refine Runs.alln ?_
  refine Wp.fg ⟨[(1, .obj 1 0), (2, .obj 2 0), (3, .obj 3 0)], [(1, ((Disk.enc p0).map .t)), (2, [.nil, .nil, .t (.int .i64 0), .t (.int .i64 0), .t (.int .i64 0), .nil]), (3, [.own 393216, .own 655360, .t (.int .i64 0), .t (.int .i64 0), .t (.int .i64 0), .nil])], [(393216, .live 5 1 (r1.map (eInt .u8))), (655360, .live 5 1 (r2.map (eInt .u8)))]⟩ ?_
  refine Wp.srg [] [] ?_
  refine Runs.batch 2 kr ?_
  obtain ⟨r3, e_r3, h⟩ := bind_some h
  refine Runs.callK false 14 114 [] [.agg ((Record.enc p0.fR).map .t)] _ _ _ rfl rfl kr kr kr kr kr (laws_toRecord_ok u p0.fR r3 e_r3) kr ?_
  refine Runs.alln ?_
  refine Wp.fg ⟨[(1, .obj 1 0), (2, .obj 2 0), (3, .obj 3 0)], [(1, ((Disk.enc p0).map .t)), (2, [.nil, .nil, .t (.int .i64 0), .t (.int .i64 0), .t (.int .i64 0), .nil]), (3, [.own 393216, .own 655360, .t (.int .i64 r3.fGen), .t (.int .i64 r3.fSlot), .t (.int .i64 r3.fLen), .nil])], [(393216, .live 5 1 (r1.map (eInt .u8))), (655360, .live 5 1 (r2.map (eInt .u8)))]⟩ ?_
  refine Wp.srg [] [] ?_
  refine Runs.batch 2 kr ?_
  obtain ⟨r4, e_r4, h⟩ := bind_some h
  refine Runs.callK false 18 115 [] [.t (.sl 6 (p0.fP.map Put.enc))] _ _ _ rfl rfl kr kr kr kr kr (laws_toPutS_ok u p0.fP r4 e_r4) kr ?_
  refine Runs.alln ?_
  refine Wp.fg ⟨[(2, .obj 2 0), (3, .obj 3 0)], [(2, [.nil, .nil, .t (.int .i64 0), .t (.int .i64 0), .t (.int .i64 0), .nil]), (3, [.own 393216, .own 655360, .t (.int .i64 r3.fGen), .t (.int .i64 r3.fSlot), .t (.int .i64 r3.fLen), .own 1179648])], [(393216, .live 5 1 (r1.map (eInt .u8))), (655360, .live 5 1 (r2.map (eInt .u8))), (1179648, .live 204 6 (r4.map Put.enc))]⟩ ?_
  refine Wp.srg [] [] ?_
  refine Runs.alln ?_
  refine Wp.fg ⟨[(2, .obj 2 0)], [(2, [.own 393216, .own 655360, .t (.int .i64 r3.fGen), .t (.int .i64 r3.fSlot), .t (.int .i64 r3.fLen), .own 1179648])], [(393216, .live 5 1 (r1.map (eInt .u8))), (655360, .live 5 1 (r2.map (eInt .u8))), (1179648, .live 204 6 (r4.map Put.enc))]⟩ ?_
  refine Wp.ret ?_
  obtain rfl := Option.some.inj h
  exact RetK [.agg [.own 393216, .own 655360, .t (.int .i64 r3.fGen), .t (.int .i64 r3.fSlot), .t (.int .i64 r3.fLen), .own 1179648]] _ [] kr kr (.refl _) .nil
theorem laws_toDiskS_ok (u : Nat) (p0 : List Disk) (r : (List Disk)) (h : laws_toDiskS u p0 = some r) : CallOK Tryz.prog 41 [.one (.t (.sl 6 (p0.map Disk.enc)))] (.one (.ow 124 6 (r.map Disk.enc))) [] := by
  unfold laws_toDiskS at h
  refine CallOK.of_bodyK (fn := Tryz.f41) (m := true) [.t (.sl 6 (p0.map Disk.enc))] kr rfl kr kr kr kr kr ?_
  refine Wp.srg [] [] ?_
  refine Runs.alln ?_
  refine Wp.fg ⟨[(0, .t (.sl 6 (p0.map Disk.enc))), (2, .nil)], [], []⟩ ?_
  refine Wp.srg [] [] ?_
  refine Runs.batch 1 kr ?_
  refine Runs.lenT (y := .t (.sl 6 (p0.map Disk.enc))) (e := 116) Disk.enc p0 6 rfl rfl rfl kr kr kr kr kr ?_
  obtain ⟨_, e_1, h⟩ := bind_some h
  obtain ⟨_, e_2, h⟩ := bind_some h
  refine Runs.mkS Disk.enc ((Disk.mk ([]) ([]) ((Record.mk 0 0 0)) ([])) : Disk) 7 124 6 96 ((p0.length : Int)) ((p0.length : Int)) rfl rfl kr kr kr kr kr kr (chk_some e_1) (of_decide_eq_true (chk_some e_2)) kr ?_
  refine Runs.alln ?_
  refine Wp.fg ⟨[(0, .t (.sl 6 (p0.map Disk.enc))), (2, .nil), (3, .own 458752)], [], [(458752, .live 124 6 ((List.replicate (Int.toNat ((p0.length : Int))) ((Disk.mk ([]) ([]) ((Record.mk 0 0 0)) ([])) : Disk)).map Disk.enc))]⟩ ?_
  refine Wp.seqJ (α := (List Disk)) (fun a => ⟨[(2, .nil), (3, .own 196609)], [], [(196609, .live 124 6 (a.map Disk.enc))]⟩) (fun a => laws_toDiskS_j1 u a = some r) ?_ ?_
  · rintro x12 h
    change laws_toDiskS_j1 u x12 = some r at h
    unfold laws_toDiskS_j1 at h
    refine Wp.srg [] [] ?_
    refine Runs.alln ?_
    refine Wp.fg ⟨[(2, .own 196609)], [], [(196609, .live 124 6 (x12.map Disk.enc))]⟩ ?_
    refine Wp.ret ?_
    obtain rfl := Option.some.inj h
    exact RetK [.own 196609] _ [] kr kr (.refl _) .nil
  · refine Wp.srg [] [] ?_
    refine Runs.alln ?_
    refine Wp.fg ⟨[(0, .t (.sl 6 (p0.map Disk.enc))), (2, .nil), (3, .own 458752), (4, .t (.int .i64 0))], [], [(458752, .live 124 6 ((List.replicate (Int.toNat ((p0.length : Int))) ((Disk.mk ([]) ([]) ((Record.mk 0 0 0)) ([])) : Disk)).map Disk.enc))]⟩ ?_
    refine Wp.block ?_
    refine Wp.loopF (α := (List Disk) × (List Disk) × Int) (fun a => ⟨[(0, .t (.sl 6 (a.1.map Disk.enc))), (2, .nil), (3, .own 196609), (4, .t (.int .i64 a.2.2))], [], [(196609, .live 124 6 (a.2.1.map Disk.enc))]⟩) (fun k_laws_toDiskS_l2 a => laws_toDiskS_l2 u k_laws_toDiskS_l2 a.1 a.2.1 a.2.2 = some r) ?_ ?_ u (p0, List.replicate (Int.toNat ((p0.length : Int))) ((Disk.mk ([]) ([]) ((Record.mk 0 0 0)) ([])) : Disk), 0) h (Le.of (mo := []) (mr := [(196609, 458752)]) kr kr kr kr)
    · intro a h; unfold laws_toDiskS_l2 at h; cases h
    · rintro k_laws_toDiskS_l2 ⟨p0, x5, x6⟩ h
      change laws_toDiskS_l2 u (k_laws_toDiskS_l2 + 1) p0 x5 x6 = some r at h
      rw [laws_toDiskS_l2] at h
      refine Wp.seq ?_
      refine Wp.srg [] [] ?_
      refine Runs.batch 2 kr ?_
      refine Runs.lenT (y := .t (.sl 6 (p0.map Disk.enc))) (e := 116) Disk.enc p0 6 rfl rfl rfl kr kr kr kr kr ?_
      refine Runs.alln ?_
      refine Wp.fg ⟨[(0, .t (.sl 6 (p0.map Disk.enc))), (2, .nil), (3, .own 196609), (4, .t (.int .i64 x6)), (11, .t (.bool (decide (x6 < ((p0.length : Int))))))], [], [(196609, .live 124 6 (x5.map Disk.enc))]⟩ ?_
      refine Wp.cond2 (b := decide (x6 < ((p0.length : Int)))) kr (fun hc => ?_) (fun hc => ?_)
      · have h := cond_t h hc
        refine Wp.skip (thenN ?_)
        refine Wp.seq ?_
        refine Wp.block ?_
        refine Wp.rg [] [] ?_
        refine Runs.batch 4 kr ?_
        obtain ⟨y9, e_y9, h⟩ := bind_some h
        refine Runs.idxT (e := 116) (kk := .i64) (sz := 6) Disk.enc p0 x6 rfl kr kr kr kr kr kr e_y9 ?_
        refine Runs.batch 1 kr ?_
        obtain ⟨r10, e_r10, h⟩ := bind_some h
        refine Runs.callK false 20 73 [] [.agg ((Disk.enc y9).map .t)] _ _ _ rfl rfl kr kr kr kr kr (laws_toDisk_ok u y9 r10 e_r10) kr ?_
        obtain ⟨y11, e_y11, h⟩ := bind_some h
        refine Runs.idxO (e := 124) (e' := 124) (kk := .i64) (sz := 6) Disk.enc x5 x6 196609 rfl kr kr kr kr kr kr kr e_y11 ?_
        refine Runs.storeU (e := 124) (sz := 6) (m := 6) Disk.enc x5 196609 (Int.toNat x6) 0 r10 (.agg [.own 1310720, .own 1310721, .t (.int .i64 r10.fR.fGen), .t (.int .i64 r10.fR.fSlot), .t (.int .i64 r10.fR.fLen), .own 1310725]) (Disk.enc r10) rfl kr kr kr kr kr kr kr kr (idx_some e_y11).2 kr kr ?_
        refine Runs.done ?_
        refine blkN ?_
        refine thenN ?_
        refine Wp.rg [] [] ?_
        refine Runs.alln ?_
        exact ⟨(p0, x5.set (Int.toNat x6) r10, bAdd .i64 x6 1), h, Le.of (mo := []) (mr := []) kr kr kr kr⟩
      have h := cond_f h hc
      refine Wp.exit ?_
      refine thenE ?_
      refine thenE ?_
      refine blkE ?_
      refine thenN ?_
      exact ⟨x5, h, Le.of (mo := []) (mr := []) kr kr kr kr⟩
theorem laws_toPacket_ok (u : Nat) (p0 : Packet) (r : Packet) (h : laws_toPacket u p0 = some r) : CallOK Tryz.prog 74 [.agg [.t (.int .i64 p0.fFrom), .t (.int .i64 p0.fTo), .t (.sl 1 (p0.fB.map (eInt .u8)))]] (.agg [.t (.int .i64 r.fFrom), .t (.int .i64 r.fTo), .ow 5 1 (r.fB.map (eInt .u8))]) [] := by
  unfold laws_toPacket at h
  refine CallOK.of_bodyK (fn := Tryz.f74) (m := true) [.agg ((Packet.enc p0).map .t)] kr rfl kr kr kr kr kr ?_
  refine Wp.srg [] [] ?_
  refine Runs.alln ?_
  refine Wp.fg ⟨[(1, .obj 1 0), (2, .obj 2 0)], [(1, ((Packet.enc p0).map .t)), (2, [.t (.int .i64 0), .t (.int .i64 0), .nil])], []⟩ ?_
  refine Wp.srg [] [] ?_
  refine Runs.alln ?_
  refine Wp.fg ⟨[(1, .obj 1 0), (2, .obj 2 0), (3, .obj 3 0)], [(1, ((Packet.enc p0).map .t)), (2, [.t (.int .i64 0), .t (.int .i64 0), .nil]), (3, [.t (.int .i64 0), .t (.int .i64 0), .nil])], []⟩ ?_
  refine Wp.srg [] [] ?_
  refine Runs.alln ?_
  refine Wp.fg ⟨[(1, .obj 1 0), (2, .obj 2 0), (3, .obj 3 0)], [(1, ((Packet.enc p0).map .t)), (2, [.t (.int .i64 0), .t (.int .i64 0), .nil]), (3, [.t (.int .i64 p0.fFrom), .t (.int .i64 0), .nil])], []⟩ ?_
  refine Wp.srg [] [] ?_
  refine Runs.alln ?_
  refine Wp.fg ⟨[(1, .obj 1 0), (2, .obj 2 0), (3, .obj 3 0)], [(1, ((Packet.enc p0).map .t)), (2, [.t (.int .i64 0), .t (.int .i64 0), .nil]), (3, [.t (.int .i64 p0.fFrom), .t (.int .i64 p0.fTo), .nil])], []⟩ ?_
  refine Wp.srg [] [] ?_
  refine Runs.batch 2 kr ?_
  obtain ⟨r1, e_r1, h⟩ := bind_some h
  refine Runs.callK false 12 9 [] [.t (.sl 1 (p0.fB.map (eInt .u8)))] _ _ _ rfl rfl kr kr kr kr kr (laws_toByteS_ok u p0.fB r1 e_r1) kr ?_
  refine Runs.alln ?_
  refine Wp.fg ⟨[(2, .obj 2 0), (3, .obj 3 0)], [(2, [.t (.int .i64 0), .t (.int .i64 0), .nil]), (3, [.t (.int .i64 p0.fFrom), .t (.int .i64 p0.fTo), .own 786432])], [(786432, .live 5 1 (r1.map (eInt .u8)))]⟩ ?_
  refine Wp.srg [] [] ?_
  refine Runs.alln ?_
  refine Wp.fg ⟨[(2, .obj 2 0)], [(2, [.t (.int .i64 p0.fFrom), .t (.int .i64 p0.fTo), .own 786432])], [(786432, .live 5 1 (r1.map (eInt .u8)))]⟩ ?_
  refine Wp.ret ?_
  obtain rfl := Option.some.inj h
  exact RetK [.agg [.t (.int .i64 p0.fFrom), .t (.int .i64 p0.fTo), .own 786432]] _ [] kr kr (.refl _) .nil
theorem laws_toPacketS_ok (u : Nat) (p0 : List Packet) (r : (List Packet)) (h : laws_toPacketS u p0 = some r) : CallOK Tryz.prog 42 [.one (.t (.sl 3 (p0.map Packet.enc)))] (.one (.ow 97 3 (r.map Packet.enc))) [] := by
  unfold laws_toPacketS at h
  refine CallOK.of_bodyK (fn := Tryz.f42) (m := true) [.t (.sl 3 (p0.map Packet.enc))] kr rfl kr kr kr kr kr ?_
  refine Wp.srg [] [] ?_
  refine Runs.alln ?_
  refine Wp.fg ⟨[(0, .t (.sl 3 (p0.map Packet.enc))), (2, .nil)], [], []⟩ ?_
  refine Wp.srg [] [] ?_
  refine Runs.batch 1 kr ?_
  refine Runs.lenT (y := .t (.sl 3 (p0.map Packet.enc))) (e := 118) Packet.enc p0 3 rfl rfl rfl kr kr kr kr kr ?_
  obtain ⟨_, e_1, h⟩ := bind_some h
  obtain ⟨_, e_2, h⟩ := bind_some h
  refine Runs.mkS Packet.enc ((Packet.mk 0 0 ([])) : Packet) 7 97 3 40 ((p0.length : Int)) ((p0.length : Int)) rfl rfl kr kr kr kr kr kr (chk_some e_1) (of_decide_eq_true (chk_some e_2)) kr ?_
  refine Runs.alln ?_
  refine Wp.fg ⟨[(0, .t (.sl 3 (p0.map Packet.enc))), (2, .nil), (3, .own 458752)], [], [(458752, .live 97 3 ((List.replicate (Int.toNat ((p0.length : Int))) ((Packet.mk 0 0 ([])) : Packet)).map Packet.enc))]⟩ ?_
  refine Wp.seqJ (α := (List Packet)) (fun a => ⟨[(2, .nil), (3, .own 196609)], [], [(196609, .live 97 3 (a.map Packet.enc))]⟩) (fun a => laws_toPacketS_j1 u a = some r) ?_ ?_
  · rintro x12 h
    change laws_toPacketS_j1 u x12 = some r at h
    unfold laws_toPacketS_j1 at h
    refine Wp.srg [] [] ?_
    refine Runs.alln ?_
    refine Wp.fg ⟨[(2, .own 196609)], [], [(196609, .live 97 3 (x12.map Packet.enc))]⟩ ?_
    refine Wp.ret ?_
    obtain rfl := Option.some.inj h
    exact RetK [.own 196609] _ [] kr kr (.refl _) .nil
  · refine Wp.srg [] [] ?_
    refine Runs.alln ?_
    refine Wp.fg ⟨[(0, .t (.sl 3 (p0.map Packet.enc))), (2, .nil), (3, .own 458752), (4, .t (.int .i64 0))], [], [(458752, .live 97 3 ((List.replicate (Int.toNat ((p0.length : Int))) ((Packet.mk 0 0 ([])) : Packet)).map Packet.enc))]⟩ ?_
    refine Wp.block ?_
    refine Wp.loopF (α := (List Packet) × (List Packet) × Int) (fun a => ⟨[(0, .t (.sl 3 (a.1.map Packet.enc))), (2, .nil), (3, .own 196609), (4, .t (.int .i64 a.2.2))], [], [(196609, .live 97 3 (a.2.1.map Packet.enc))]⟩) (fun k_laws_toPacketS_l2 a => laws_toPacketS_l2 u k_laws_toPacketS_l2 a.1 a.2.1 a.2.2 = some r) ?_ ?_ u (p0, List.replicate (Int.toNat ((p0.length : Int))) ((Packet.mk 0 0 ([])) : Packet), 0) h (Le.of (mo := []) (mr := [(196609, 458752)]) kr kr kr kr)
    · intro a h; unfold laws_toPacketS_l2 at h; cases h
    · rintro k_laws_toPacketS_l2 ⟨p0, x5, x6⟩ h
      change laws_toPacketS_l2 u (k_laws_toPacketS_l2 + 1) p0 x5 x6 = some r at h
      rw [laws_toPacketS_l2] at h
      refine Wp.seq ?_
      refine Wp.srg [] [] ?_
      refine Runs.batch 2 kr ?_
      refine Runs.lenT (y := .t (.sl 3 (p0.map Packet.enc))) (e := 118) Packet.enc p0 3 rfl rfl rfl kr kr kr kr kr ?_
      refine Runs.alln ?_
      refine Wp.fg ⟨[(0, .t (.sl 3 (p0.map Packet.enc))), (2, .nil), (3, .own 196609), (4, .t (.int .i64 x6)), (11, .t (.bool (decide (x6 < ((p0.length : Int))))))], [], [(196609, .live 97 3 (x5.map Packet.enc))]⟩ ?_
      refine Wp.cond2 (b := decide (x6 < ((p0.length : Int)))) kr (fun hc => ?_) (fun hc => ?_)
      · have h := cond_t h hc
        refine Wp.skip (thenN ?_)
        refine Wp.seq ?_
        refine Wp.block ?_
        refine Wp.rg [] [] ?_
        refine Runs.batch 4 kr ?_
        obtain ⟨y9, e_y9, h⟩ := bind_some h
        refine Runs.idxT (e := 118) (kk := .i64) (sz := 3) Packet.enc p0 x6 rfl kr kr kr kr kr kr e_y9 ?_
        refine Runs.batch 1 kr ?_
        obtain ⟨r10, e_r10, h⟩ := bind_some h
        refine Runs.callK false 20 74 [] [.agg ((Packet.enc y9).map .t)] _ _ _ rfl rfl kr kr kr kr kr (laws_toPacket_ok u y9 r10 e_r10) kr ?_
        obtain ⟨y11, e_y11, h⟩ := bind_some h
        refine Runs.idxO (e := 97) (e' := 97) (kk := .i64) (sz := 3) Packet.enc x5 x6 196609 rfl kr kr kr kr kr kr kr e_y11 ?_
        refine Runs.storeU (e := 97) (sz := 3) (m := 3) Packet.enc x5 196609 (Int.toNat x6) 0 r10 (.agg [.t (.int .i64 r10.fFrom), .t (.int .i64 r10.fTo), .own 1310722]) (Packet.enc r10) rfl kr kr kr kr kr kr kr kr (idx_some e_y11).2 kr kr ?_
        refine Runs.done ?_
        refine blkN ?_
        refine thenN ?_
        refine Wp.rg [] [] ?_
        refine Runs.alln ?_
        exact ⟨(p0, x5.set (Int.toNat x6) r10, bAdd .i64 x6 1), h, Le.of (mo := []) (mr := []) kr kr kr kr⟩
      have h := cond_f h hc
      refine Wp.exit ?_
      refine thenE ?_
      refine thenE ?_
      refine blkE ?_
      refine thenN ?_
      exact ⟨x5, h, Le.of (mo := []) (mr := []) kr kr kr kr⟩
theorem laws_toSent_ok (u : Nat) (p0 : Sent) (r : Sent) (h : laws_toSent u p0 = some r) : CallOK Tryz.prog 75 [.agg [.t (.int .i64 p0.fFrom), .t (.int .i64 p0.fTo), .t (.int .i64 p0.fI)]] (.agg [.t (.int .i64 r.fFrom), .t (.int .i64 r.fTo), .t (.int .i64 r.fI)]) [] := by
  unfold laws_toSent at h
  refine CallOK.of_bodyK (fn := Tryz.f75) (m := false) [.agg ((Sent.enc p0).map .t)] kr rfl kr kr kr kr kr ?_
  refine Wp.srg [] [] ?_
  refine Runs.alln ?_
  refine Wp.fg ⟨[(1, .obj 1 0), (2, .obj 2 0)], [(1, ((Sent.enc p0).map .t)), (2, [.t (.int .i64 0), .t (.int .i64 0), .t (.int .i64 0)])], []⟩ ?_
  refine Wp.srg [] [] ?_
  refine Runs.alln ?_
  refine Wp.fg ⟨[(1, .obj 1 0), (2, .obj 2 0), (3, .obj 3 0)], [(1, ((Sent.enc p0).map .t)), (2, [.t (.int .i64 0), .t (.int .i64 0), .t (.int .i64 0)]), (3, [.t (.int .i64 0), .t (.int .i64 0), .t (.int .i64 0)])], []⟩ ?_
  refine Wp.srg [] [] ?_
  refine Runs.alln ?_
  refine Wp.fg ⟨[(1, .obj 1 0), (2, .obj 2 0), (3, .obj 3 0)], [(1, ((Sent.enc p0).map .t)), (2, [.t (.int .i64 0), .t (.int .i64 0), .t (.int .i64 0)]), (3, [.t (.int .i64 p0.fFrom), .t (.int .i64 0), .t (.int .i64 0)])], []⟩ ?_
  refine Wp.srg [] [] ?_
  refine Runs.alln ?_
  refine Wp.fg ⟨[(1, .obj 1 0), (2, .obj 2 0), (3, .obj 3 0)], [(1, ((Sent.enc p0).map .t)), (2, [.t (.int .i64 0), .t (.int .i64 0), .t (.int .i64 0)]), (3, [.t (.int .i64 p0.fFrom), .t (.int .i64 p0.fTo), .t (.int .i64 0)])], []⟩ ?_
  refine Wp.srg [] [] ?_
  refine Runs.alln ?_
  refine Wp.fg ⟨[(2, .obj 2 0), (3, .obj 3 0)], [(2, [.t (.int .i64 0), .t (.int .i64 0), .t (.int .i64 0)]), (3, ((Sent.enc p0).map .t))], []⟩ ?_
  refine Wp.srg [] [] ?_
  refine Runs.alln ?_
  refine Wp.fg ⟨[(2, .obj 2 0)], [(2, ((Sent.enc p0).map .t))], []⟩ ?_
  refine Wp.ret ?_
  obtain rfl := Option.some.inj h
  exact RetK [.agg ((Sent.enc p0).map .t)] _ [] kr kr (.refl _) .nil
theorem laws_toSentS_ok (u : Nat) (p0 : List Sent) (r : (List Sent)) (h : laws_toSentS u p0 = some r) : CallOK Tryz.prog 43 [.one (.t (.sl 3 (p0.map Sent.enc)))] (.one (.ow 128 3 (r.map Sent.enc))) [] := by
  unfold laws_toSentS at h
  refine CallOK.of_bodyK (fn := Tryz.f43) (m := true) [.t (.sl 3 (p0.map Sent.enc))] kr rfl kr kr kr kr kr ?_
  refine Wp.srg [] [] ?_
  refine Runs.alln ?_
  refine Wp.fg ⟨[(0, .t (.sl 3 (p0.map Sent.enc))), (2, .nil)], [], []⟩ ?_
  refine Wp.srg [] [] ?_
  refine Runs.batch 1 kr ?_
  refine Runs.lenT (y := .t (.sl 3 (p0.map Sent.enc))) (e := 130) Sent.enc p0 3 rfl rfl rfl kr kr kr kr kr ?_
  obtain ⟨_, e_1, h⟩ := bind_some h
  obtain ⟨_, e_2, h⟩ := bind_some h
  refine Runs.mkS Sent.enc ((Sent.mk 0 0 0) : Sent) 7 128 3 24 ((p0.length : Int)) ((p0.length : Int)) rfl rfl kr kr kr kr kr kr (chk_some e_1) (of_decide_eq_true (chk_some e_2)) kr ?_
  refine Runs.alln ?_
  refine Wp.fg ⟨[(0, .t (.sl 3 (p0.map Sent.enc))), (2, .nil), (3, .own 458752)], [], [(458752, .live 128 3 ((List.replicate (Int.toNat ((p0.length : Int))) ((Sent.mk 0 0 0) : Sent)).map Sent.enc))]⟩ ?_
  refine Wp.seqJ (α := (List Sent)) (fun a => ⟨[(2, .nil), (3, .own 196609)], [], [(196609, .live 128 3 (a.map Sent.enc))]⟩) (fun a => laws_toSentS_j1 u a = some r) ?_ ?_
  · rintro x12 h
    change laws_toSentS_j1 u x12 = some r at h
    unfold laws_toSentS_j1 at h
    refine Wp.srg [] [] ?_
    refine Runs.alln ?_
    refine Wp.fg ⟨[(2, .own 196609)], [], [(196609, .live 128 3 (x12.map Sent.enc))]⟩ ?_
    refine Wp.ret ?_
    obtain rfl := Option.some.inj h
    exact RetK [.own 196609] _ [] kr kr (.refl _) .nil
  · refine Wp.srg [] [] ?_
    refine Runs.alln ?_
    refine Wp.fg ⟨[(0, .t (.sl 3 (p0.map Sent.enc))), (2, .nil), (3, .own 458752), (4, .t (.int .i64 0))], [], [(458752, .live 128 3 ((List.replicate (Int.toNat ((p0.length : Int))) ((Sent.mk 0 0 0) : Sent)).map Sent.enc))]⟩ ?_
    refine Wp.block ?_
    refine Wp.loopF (α := (List Sent) × (List Sent) × Int) (fun a => ⟨[(0, .t (.sl 3 (a.1.map Sent.enc))), (2, .nil), (3, .own 196609), (4, .t (.int .i64 a.2.2))], [], [(196609, .live 128 3 (a.2.1.map Sent.enc))]⟩) (fun k_laws_toSentS_l2 a => laws_toSentS_l2 u k_laws_toSentS_l2 a.1 a.2.1 a.2.2 = some r) ?_ ?_ u (p0, List.replicate (Int.toNat ((p0.length : Int))) ((Sent.mk 0 0 0) : Sent), 0) h (Le.of (mo := []) (mr := [(196609, 458752)]) kr kr kr kr)
    · intro a h; unfold laws_toSentS_l2 at h; cases h
    · rintro k_laws_toSentS_l2 ⟨p0, x5, x6⟩ h
      change laws_toSentS_l2 u (k_laws_toSentS_l2 + 1) p0 x5 x6 = some r at h
      rw [laws_toSentS_l2] at h
      refine Wp.seq ?_
      refine Wp.srg [] [] ?_
      refine Runs.batch 2 kr ?_
      refine Runs.lenT (y := .t (.sl 3 (p0.map Sent.enc))) (e := 130) Sent.enc p0 3 rfl rfl rfl kr kr kr kr kr ?_
      refine Runs.alln ?_
      refine Wp.fg ⟨[(0, .t (.sl 3 (p0.map Sent.enc))), (2, .nil), (3, .own 196609), (4, .t (.int .i64 x6)), (11, .t (.bool (decide (x6 < ((p0.length : Int))))))], [], [(196609, .live 128 3 (x5.map Sent.enc))]⟩ ?_
      refine Wp.cond2 (b := decide (x6 < ((p0.length : Int)))) kr (fun hc => ?_) (fun hc => ?_)
      · have h := cond_t h hc
        refine Wp.skip (thenN ?_)
        refine Wp.seq ?_
        refine Wp.block ?_
        refine Wp.rg [] [] ?_
        refine Runs.batch 4 kr ?_
        obtain ⟨y9, e_y9, h⟩ := bind_some h
        refine Runs.idxT (e := 130) (kk := .i64) (sz := 3) Sent.enc p0 x6 rfl kr kr kr kr kr kr e_y9 ?_
        refine Runs.batch 1 kr ?_
        obtain ⟨r10, e_r10, h⟩ := bind_some h
        refine Runs.callK false 20 75 [] [.agg ((Sent.enc y9).map .t)] _ _ _ rfl rfl kr kr kr kr kr (laws_toSent_ok u y9 r10 e_r10) kr ?_
        obtain ⟨y11, e_y11, h⟩ := bind_some h
        refine Runs.idxO (e := 128) (e' := 128) (kk := .i64) (sz := 3) Sent.enc x5 x6 196609 rfl kr kr kr kr kr kr kr e_y11 ?_
        refine Runs.storeT (e := 128) (sz := 3) (m := 3) Sent.enc x5 196609 (Int.toNat x6) 0 r10 (.agg ((Sent.enc r10).map .t)) (Sent.enc r10) rfl kr kr kr kr kr kr kr kr (idx_some e_y11).2 kr kr ?_
        refine Runs.done ?_
        refine blkN ?_
        refine thenN ?_
        refine Wp.rg [] [] ?_
        refine Runs.alln ?_
        exact ⟨(p0, x5.set (Int.toNat x6) r10, bAdd .i64 x6 1), h, Le.of (mo := []) (mr := []) kr kr kr kr⟩
      have h := cond_f h hc
      refine Wp.exit ?_
      refine thenE ?_
      refine thenE ?_
      refine blkE ?_
      refine thenN ?_
      exact ⟨x5, h, Le.of (mo := []) (mr := []) kr kr kr kr⟩
theorem laws_toWorld_ok (u : Nat) (p0 : World) (r : World) (h : laws_toWorld u p0 = some r) : CallOK Tryz.prog 16 [.agg [.t (.int .i64 p0.fC.fSize), .t (.int .i64 p0.fC.fWindow), .t (.int .i64 p0.fC.fSuspect), .t (.int .i64 p0.fC.fForget), .t (.sl 1 (p0.fT.fUp.map (eInt .i64))), .t (.sl 1 (p0.fNew.map (eInt .u8))), .t (.sl 1 (p0.fOld.map Image.enc)), .t (.sl 12 (p0.fN.map Node.enc)), .t (.sl 6 (p0.fD.map Disk.enc)), .t (.sl 3 (p0.fNet.map Packet.enc)), .t (.sl 3 (p0.fLog.map Sent.enc)), .t (.int .i64 p0.fLost)]] (.agg [.t (.int .i64 r.fC.fSize), .t (.int .i64 r.fC.fWindow), .t (.int .i64 r.fC.fSuspect), .t (.int .i64 r.fC.fForget), .ow 3 1 (r.fT.fUp.map (eInt .i64)), .ow 5 1 (r.fNew.map (eInt .u8)), .ow 61 1 (r.fOld.map Image.enc), .ow 92 12 (r.fN.map Node.enc), .ow 124 6 (r.fD.map Disk.enc), .ow 97 3 (r.fNet.map Packet.enc), .ow 128 3 (r.fLog.map Sent.enc), .t (.int .i64 r.fLost)]) [] := by
  unfold laws_toWorld at h
  refine CallOK.of_bodyK (fn := Tryz.f16) (m := true) [.agg ((World.enc p0).map .t)] kr rfl kr kr kr kr kr ?_
  refine Wp.srg [] [] ?_
  refine Runs.alln ?_
  refine Wp.fg ⟨[(1, .obj 1 0), (2, .obj 2 0)], [(1, ((World.enc p0).map .t)), (2, [.t (.int .i64 0), .t (.int .i64 0), .t (.int .i64 0), .t (.int .i64 0), .nil, .nil, .nil, .nil, .nil, .nil, .nil, .t (.int .i64 0)])], []⟩ ?_
  refine Wp.srg [] [] ?_
  refine Runs.alln ?_
  refine Wp.fg ⟨[(1, .obj 1 0), (2, .obj 2 0), (3, .obj 3 0)], [(1, ((World.enc p0).map .t)), (2, [.t (.int .i64 0), .t (.int .i64 0), .t (.int .i64 0), .t (.int .i64 0), .nil, .nil, .nil, .nil, .nil, .nil, .nil, .t (.int .i64 0)]), (3, [.t (.int .i64 0), .t (.int .i64 0), .t (.int .i64 0), .t (.int .i64 0), .nil, .nil, .nil, .nil, .nil, .nil, .nil, .t (.int .i64 0)])], []⟩ ?_
  refine Wp.srg [] [] ?_
  refine Runs.batch 2 kr ?_
  obtain ⟨r1, e_r1, h⟩ := bind_some h
  refine Runs.callK false 6 38 [] [.agg ((Conf.enc p0.fC).map .t)] _ _ _ rfl rfl kr kr kr kr kr (laws_toConf_ok u p0.fC r1 e_r1) kr ?_
  refine Runs.alln ?_
  refine Wp.fg ⟨[(1, .obj 1 0), (2, .obj 2 0), (3, .obj 3 0)], [(1, ((World.enc p0).map .t)), (2, [.t (.int .i64 0), .t (.int .i64 0), .t (.int .i64 0), .t (.int .i64 0), .nil, .nil, .nil, .nil, .nil, .nil, .nil, .t (.int .i64 0)]), (3, [.t (.int .i64 r1.fSize), .t (.int .i64 r1.fWindow), .t (.int .i64 r1.fSuspect), .t (.int .i64 r1.fForget), .nil, .nil, .nil, .nil, .nil, .nil, .nil, .t (.int .i64 0)])], []⟩ ?_
  refine Wp.srg [] [] ?_
  refine Runs.batch 2 kr ?_
  obtain ⟨r2, e_r2, h⟩ := bind_some h
  refine Runs.callK false 10 39 [] [.agg [.t (.sl 1 (p0.fT.fUp.map (eInt .i64)))]] _ _ _ rfl rfl kr kr kr kr kr (laws_toTree_ok u p0.fT r2 e_r2) kr ?_
  refine Runs.alln ?_
  refine Wp.fg ⟨[(1, .obj 1 0), (2, .obj 2 0), (3, .obj 3 0)], [(1, ((World.enc p0).map .t)), (2, [.t (.int .i64 0), .t (.int .i64 0), .t (.int .i64 0), .t (.int .i64 0), .nil, .nil, .nil, .nil, .nil, .nil, .nil, .t (.int .i64 0)]), (3, [.t (.int .i64 r1.fSize), .t (.int .i64 r1.fWindow), .t (.int .i64 r1.fSuspect), .t (.int .i64 r1.fForget), .own 655360, .nil, .nil, .nil, .nil, .nil, .nil, .t (.int .i64 0)])], [(655360, .live 3 1 (r2.fUp.map (eInt .i64)))]⟩ ?_
  refine Wp.srg [] [] ?_
  refine Runs.batch 2 kr ?_
  obtain ⟨r3, e_r3, h⟩ := bind_some h
  refine Runs.callK false 14 9 [] [.t (.sl 1 (p0.fNew.map (eInt .u8)))] _ _ _ rfl rfl kr kr kr kr kr (laws_toByteS_ok u p0.fNew r3 e_r3) kr ?_
  refine Runs.alln ?_
  refine Wp.fg ⟨[(1, .obj 1 0), (2, .obj 2 0), (3, .obj 3 0)], [(1, ((World.enc p0).map .t)), (2, [.t (.int .i64 0), .t (.int .i64 0), .t (.int .i64 0), .t (.int .i64 0), .nil, .nil, .nil, .nil, .nil, .nil, .nil, .t (.int .i64 0)]), (3, [.t (.int .i64 r1.fSize), .t (.int .i64 r1.fWindow), .t (.int .i64 r1.fSuspect), .t (.int .i64 r1.fForget), .own 655360, .own 917504, .nil, .nil, .nil, .nil, .nil, .t (.int .i64 0)])], [(655360, .live 3 1 (r2.fUp.map (eInt .i64))), (917504, .live 5 1 (r3.map (eInt .u8)))]⟩ ?_
  refine Wp.srg [] [] ?_
  refine Runs.batch 2 kr ?_
  obtain ⟨r4, e_r4, h⟩ := bind_some h
  refine Runs.callK false 18 10 [] [.t (.sl 1 (p0.fOld.map Image.enc))] _ _ _ rfl rfl kr kr kr kr kr (laws_toImageS_ok u p0.fOld r4 e_r4) kr ?_
  refine Runs.alln ?_
  refine Wp.fg ⟨[(1, .obj 1 0), (2, .obj 2 0), (3, .obj 3 0)], [(1, ((World.enc p0).map .t)), (2, [.t (.int .i64 0), .t (.int .i64 0), .t (.int .i64 0), .t (.int .i64 0), .nil, .nil, .nil, .nil, .nil, .nil, .nil, .t (.int .i64 0)]), (3, [.t (.int .i64 r1.fSize), .t (.int .i64 r1.fWindow), .t (.int .i64 r1.fSuspect), .t (.int .i64 r1.fForget), .own 655360, .own 917504, .own 1179648, .nil, .nil, .nil, .nil, .t (.int .i64 0)])], [(655360, .live 3 1 (r2.fUp.map (eInt .i64))), (917504, .live 5 1 (r3.map (eInt .u8))), (1179648, .live 61 1 (r4.map Image.enc))]⟩ ?_
  refine Wp.srg [] [] ?_
  refine Runs.batch 2 kr ?_
  obtain ⟨r5, e_r5, h⟩ := bind_some h
  refine Runs.callK false 22 40 [] [.t (.sl 12 (p0.fN.map Node.enc))] _ _ _ rfl rfl kr kr kr kr kr (laws_toNodeS_ok u p0.fN r5 e_r5) kr ?_
  refine Runs.alln ?_
  refine Wp.fg ⟨[(1, .obj 1 0), (2, .obj 2 0), (3, .obj 3 0)], [(1, ((World.enc p0).map .t)), (2, [.t (.int .i64 0), .t (.int .i64 0), .t (.int .i64 0), .t (.int .i64 0), .nil, .nil, .nil, .nil, .nil, .nil, .nil, .t (.int .i64 0)]), (3, [.t (.int .i64 r1.fSize), .t (.int .i64 r1.fWindow), .t (.int .i64 r1.fSuspect), .t (.int .i64 r1.fForget), .own 655360, .own 917504, .own 1179648, .own 1441792, .nil, .nil, .nil, .t (.int .i64 0)])], [(655360, .live 3 1 (r2.fUp.map (eInt .i64))), (917504, .live 5 1 (r3.map (eInt .u8))), (1179648, .live 61 1 (r4.map Image.enc)), (1441792, .live 92 12 (r5.map Node.enc))]⟩ ?_
  refine Wp.srg [] [] ?_
  refine Runs.batch 2 kr ?_
  obtain ⟨r6, e_r6, h⟩ := bind_some h
  refine Runs.callK false 26 41 [] [.t (.sl 6 (p0.fD.map Disk.enc))] _ _ _ rfl rfl kr kr kr kr kr (laws_toDiskS_ok u p0.fD r6 e_r6) kr ?_
  refine Runs.alln ?_
  refine Wp.fg ⟨[(1, .obj 1 0), (2, .obj 2 0), (3, .obj 3 0)], [(1, ((World.enc p0).map .t)), (2, [.t (.int .i64 0), .t (.int .i64 0), .t (.int .i64 0), .t (.int .i64 0), .nil, .nil, .nil, .nil, .nil, .nil, .nil, .t (.int .i64 0)]), (3, [.t (.int .i64 r1.fSize), .t (.int .i64 r1.fWindow), .t (.int .i64 r1.fSuspect), .t (.int .i64 r1.fForget), .own 655360, .own 917504, .own 1179648, .own 1441792, .own 1703936, .nil, .nil, .t (.int .i64 0)])], [(655360, .live 3 1 (r2.fUp.map (eInt .i64))), (917504, .live 5 1 (r3.map (eInt .u8))), (1179648, .live 61 1 (r4.map Image.enc)), (1441792, .live 92 12 (r5.map Node.enc)), (1703936, .live 124 6 (r6.map Disk.enc))]⟩ ?_
  refine Wp.srg [] [] ?_
  refine Runs.batch 2 kr ?_
  obtain ⟨r7, e_r7, h⟩ := bind_some h
  refine Runs.callK false 30 42 [] [.t (.sl 3 (p0.fNet.map Packet.enc))] _ _ _ rfl rfl kr kr kr kr kr (laws_toPacketS_ok u p0.fNet r7 e_r7) kr ?_
  refine Runs.alln ?_
  refine Wp.fg ⟨[(1, .obj 1 0), (2, .obj 2 0), (3, .obj 3 0)], [(1, ((World.enc p0).map .t)), (2, [.t (.int .i64 0), .t (.int .i64 0), .t (.int .i64 0), .t (.int .i64 0), .nil, .nil, .nil, .nil, .nil, .nil, .nil, .t (.int .i64 0)]), (3, [.t (.int .i64 r1.fSize), .t (.int .i64 r1.fWindow), .t (.int .i64 r1.fSuspect), .t (.int .i64 r1.fForget), .own 655360, .own 917504, .own 1179648, .own 1441792, .own 1703936, .own 1966080, .nil, .t (.int .i64 0)])], [(655360, .live 3 1 (r2.fUp.map (eInt .i64))), (917504, .live 5 1 (r3.map (eInt .u8))), (1179648, .live 61 1 (r4.map Image.enc)), (1441792, .live 92 12 (r5.map Node.enc)), (1703936, .live 124 6 (r6.map Disk.enc)), (1966080, .live 97 3 (r7.map Packet.enc))]⟩ ?_
  refine Wp.srg [] [] ?_
  refine Runs.batch 2 kr ?_
  obtain ⟨r8, e_r8, h⟩ := bind_some h
  refine Runs.callK false 34 43 [] [.t (.sl 3 (p0.fLog.map Sent.enc))] _ _ _ rfl rfl kr kr kr kr kr (laws_toSentS_ok u p0.fLog r8 e_r8) kr ?_
  refine Runs.alln ?_
  refine Wp.fg ⟨[(1, .obj 1 0), (2, .obj 2 0), (3, .obj 3 0)], [(1, ((World.enc p0).map .t)), (2, [.t (.int .i64 0), .t (.int .i64 0), .t (.int .i64 0), .t (.int .i64 0), .nil, .nil, .nil, .nil, .nil, .nil, .nil, .t (.int .i64 0)]), (3, [.t (.int .i64 r1.fSize), .t (.int .i64 r1.fWindow), .t (.int .i64 r1.fSuspect), .t (.int .i64 r1.fForget), .own 655360, .own 917504, .own 1179648, .own 1441792, .own 1703936, .own 1966080, .own 2228224, .t (.int .i64 0)])], [(655360, .live 3 1 (r2.fUp.map (eInt .i64))), (917504, .live 5 1 (r3.map (eInt .u8))), (1179648, .live 61 1 (r4.map Image.enc)), (1441792, .live 92 12 (r5.map Node.enc)), (1703936, .live 124 6 (r6.map Disk.enc)), (1966080, .live 97 3 (r7.map Packet.enc)), (2228224, .live 128 3 (r8.map Sent.enc))]⟩ ?_
  refine Wp.srg [] [] ?_
  refine Runs.alln ?_
  refine Wp.fg ⟨[(2, .obj 2 0), (3, .obj 3 0)], [(2, [.t (.int .i64 0), .t (.int .i64 0), .t (.int .i64 0), .t (.int .i64 0), .nil, .nil, .nil, .nil, .nil, .nil, .nil, .t (.int .i64 0)]), (3, [.t (.int .i64 r1.fSize), .t (.int .i64 r1.fWindow), .t (.int .i64 r1.fSuspect), .t (.int .i64 r1.fForget), .own 655360, .own 917504, .own 1179648, .own 1441792, .own 1703936, .own 1966080, .own 2228224, .t (.int .i64 p0.fLost)])], [(655360, .live 3 1 (r2.fUp.map (eInt .i64))), (917504, .live 5 1 (r3.map (eInt .u8))), (1179648, .live 61 1 (r4.map Image.enc)), (1441792, .live 92 12 (r5.map Node.enc)), (1703936, .live 124 6 (r6.map Disk.enc)), (1966080, .live 97 3 (r7.map Packet.enc)), (2228224, .live 128 3 (r8.map Sent.enc))]⟩ ?_
  refine Wp.srg [] [] ?_
  refine Runs.alln ?_
  refine Wp.fg ⟨[(2, .obj 2 0)], [(2, [.t (.int .i64 r1.fSize), .t (.int .i64 r1.fWindow), .t (.int .i64 r1.fSuspect), .t (.int .i64 r1.fForget), .own 655360, .own 917504, .own 1179648, .own 1441792, .own 1703936, .own 1966080, .own 2228224, .t (.int .i64 p0.fLost)])], [(655360, .live 3 1 (r2.fUp.map (eInt .i64))), (917504, .live 5 1 (r3.map (eInt .u8))), (1179648, .live 61 1 (r4.map Image.enc)), (1441792, .live 92 12 (r5.map Node.enc)), (1703936, .live 124 6 (r6.map Disk.enc)), (1966080, .live 97 3 (r7.map Packet.enc)), (2228224, .live 128 3 (r8.map Sent.enc))]⟩ ?_
  refine Wp.ret ?_
  obtain rfl := Option.some.inj h
  exact RetK [.agg [.t (.int .i64 r1.fSize), .t (.int .i64 r1.fWindow), .t (.int .i64 r1.fSuspect), .t (.int .i64 r1.fForget), .own 655360, .own 917504, .own 1179648, .own 1441792, .own 1703936, .own 1966080, .own 2228224, .t (.int .i64 p0.fLost)]] _ [] kr kr (.refl _) .nil
theorem spec_l1In_ok (u : Nat) (p0 : Int) (p1 : Int) (p2 : Int) (r : Bool) (h : spec_l1In u p0 p1 p2 = some r) : CallOK Tryz.prog 94 [.one (.t (.int .i64 p0)), .one (.t (.int .i64 p1)), .one (.t (.int .i64 p2))] (.one (.t (.bool r))) [] := by
  unfold spec_l1In at h
  refine CallOK.of_bodyK (fn := Tryz.f94) (m := false) [.t (.int .i64 p0), .t (.int .i64 p1), .t (.int .i64 p2)] kr rfl kr kr kr kr kr ?_
  refine Wp.srg [] [] ?_
  refine Runs.alln ?_
  refine Wp.fg ⟨[(0, .t (.int .i64 p0)), (1, .t (.int .i64 p1)), (2, .t (.int .i64 p2)), (6, .t (.bool false))], [], []⟩ ?_
  refine Wp.srg [] [] ?_
  refine Runs.batch 4 kr ?_
  rcases tf (decide (p0 ≥ p1)) with hc | hc
  · have h := cond_t h hc
    refine Runs.known 10 (v := true) kr hc ?_
    refine Runs.alln ?_
    refine Wp.fg ⟨[(6, .t (.bool (decide (p0 ≤ p2))))], [], []⟩ ?_
    refine Wp.ret ?_
    obtain rfl := Option.some.inj h
    exact RetK [.t (.bool (decide (p0 ≤ p2)))] _ [] kr kr (.refl _) .nil
  have h := cond_f h hc
  refine Runs.known 10 (v := false) kr hc ?_
  refine Runs.alln ?_
  refine Wp.fg ⟨[(6, .t (.bool false))], [], []⟩ ?_
  refine Wp.ret ?_
  obtain rfl := Option.some.inj h
  exact RetK [.t (.bool false)] _ [] kr kr (.refl _) .nil
theorem spec_PhName_ok (u : Nat) (p0 : Int) (r : ByteArray) (h : spec_PhName u p0 = some r) : CallOK Tryz.prog 83 [.one (.t (.int .i64 p0))] (.one (.t (.str r))) [] := by
  unfold spec_PhName at h
  refine CallOK.of_bodyK (fn := Tryz.f83) (m := false) [.t (.int .i64 p0)] kr rfl kr kr kr kr kr ?_
  refine Wp.srg [] [] ?_
  refine Runs.alln ?_
  refine Wp.fg ⟨[(0, .t (.int .i64 p0)), (2, .t (.str ((ByteArray.mk #[]))))], [], []⟩ ?_
  refine Wp.srg [] [] ?_
  refine Runs.alln ?_
  refine Wp.fg ⟨[(0, .t (.int .i64 p0)), (2, .t (.str ((ByteArray.mk #[])))), (3, .own 262144)], [], [(262144, .live 9 1 (([(ByteArray.mk #[105, 100, 108, 101]), (ByteArray.mk #[103, 97, 116, 104, 101, 114]), (ByteArray.mk #[115, 116, 97, 103, 101, 100]), (ByteArray.mk #[115, 117, 114, 101]), (ByteArray.mk #[109, 101, 97, 110, 116]), (ByteArray.mk #[100, 111, 110, 101]), (ByteArray.mk #[114, 111, 111, 116])]).map eStr))]⟩ ?_
  refine Wp.seq ?_
  refine Wp.srg [] [] ?_
  refine Runs.batch 2 kr ?_
  refine Runs.lenT (y := .own 262144) (e := 9) eStr ([(ByteArray.mk #[105, 100, 108, 101]), (ByteArray.mk #[103, 97, 116, 104, 101, 114]), (ByteArray.mk #[115, 116, 97, 103, 101, 100]), (ByteArray.mk #[115, 117, 114, 101]), (ByteArray.mk #[109, 101, 97, 110, 116]), (ByteArray.mk #[100, 111, 110, 101]), (ByteArray.mk #[114, 111, 111, 116])]) 1 rfl rfl rfl kr kr kr kr kr ?_
  refine Runs.batch 1 kr ?_
  obtain ⟨r1, e_r1, h⟩ := bind_some h
  refine Runs.callK false 9 94 [] [.t (.int .i64 p0), .t (.int .i64 0), .t (.int .i64 (bSub .i64 ((([(ByteArray.mk #[105, 100, 108, 101]), (ByteArray.mk #[103, 97, 116, 104, 101, 114]), (ByteArray.mk #[115, 116, 97, 103, 101, 100]), (ByteArray.mk #[115, 117, 114, 101]), (ByteArray.mk #[109, 101, 97, 110, 116]), (ByteArray.mk #[100, 111, 110, 101]), (ByteArray.mk #[114, 111, 111, 116])]).length : Int)) 1))] _ _ _ rfl rfl kr kr kr kr kr (spec_l1In_ok u p0 0 (bSub .i64 ((([(ByteArray.mk #[105, 100, 108, 101]), (ByteArray.mk #[103, 97, 116, 104, 101, 114]), (ByteArray.mk #[115, 116, 97, 103, 101, 100]), (ByteArray.mk #[115, 117, 114, 101]), (ByteArray.mk #[109, 101, 97, 110, 116]), (ByteArray.mk #[100, 111, 110, 101]), (ByteArray.mk #[114, 111, 111, 116])]).length : Int)) 1) r1 e_r1) kr ?_
  refine Runs.alln ?_
  refine Wp.fg ⟨[(0, .t (.int .i64 p0)), (2, .t (.str ((ByteArray.mk #[])))), (3, .own 262144), (10, .t (.bool (!r1)))], [], [(262144, .live 9 1 (([(ByteArray.mk #[105, 100, 108, 101]), (ByteArray.mk #[103, 97, 116, 104, 101, 114]), (ByteArray.mk #[115, 116, 97, 103, 101, 100]), (ByteArray.mk #[115, 117, 114, 101]), (ByteArray.mk #[109, 101, 97, 110, 116]), (ByteArray.mk #[100, 111, 110, 101]), (ByteArray.mk #[114, 111, 111, 116])]).map eStr))]⟩ ?_
  refine Wp.cond2 (b := !r1) kr (fun hc => ?_) (fun hc => ?_)
  · have h := cond_t h hc
    refine Wp.srg [] [] ?_
    refine Runs.alln ?_
    refine Wp.fg ⟨[(0, .t (.int .i64 p0)), (2, .t (.str ((ByteArray.mk #[])))), (3, .own 262144)], [], [(262144, .live 9 1 (([(ByteArray.mk #[105, 100, 108, 101]), (ByteArray.mk #[103, 97, 116, 104, 101, 114]), (ByteArray.mk #[115, 116, 97, 103, 101, 100]), (ByteArray.mk #[115, 117, 114, 101]), (ByteArray.mk #[109, 101, 97, 110, 116]), (ByteArray.mk #[100, 111, 110, 101]), (ByteArray.mk #[114, 111, 111, 116])]).map eStr))]⟩ ?_
    refine Wp.ret ?_
    refine thenR ?_
    obtain rfl := Option.some.inj h
    exact RetK [.t (.str ((ByteArray.mk #[])))] _ [] kr kr (.refl _) .nil
  have h := cond_f h hc
  refine Wp.skip (thenN ?_)
  refine Wp.srg [] [] ?_
  refine Runs.batch 2 kr ?_
  obtain ⟨y2, e_y2, h⟩ := bind_some h
  refine Runs.idxO (e := 9) (e' := 9) (kk := .i64) (sz := 1) eStr ([(ByteArray.mk #[105, 100, 108, 101]), (ByteArray.mk #[103, 97, 116, 104, 101, 114]), (ByteArray.mk #[115, 116, 97, 103, 101, 100]), (ByteArray.mk #[115, 117, 114, 101]), (ByteArray.mk #[109, 101, 97, 110, 116]), (ByteArray.mk #[100, 111, 110, 101]), (ByteArray.mk #[114, 111, 111, 116])]) p0 262144 rfl kr kr kr kr kr kr kr e_y2 ?_
  refine Runs.loadE (e' := 9) (sz := 1) (m := 1) (gg := false) eStr ([(ByteArray.mk #[105, 100, 108, 101]), (ByteArray.mk #[103, 97, 116, 104, 101, 114]), (ByteArray.mk #[115, 116, 97, 103, 101, 100]), (ByteArray.mk #[115, 117, 114, 101]), (ByteArray.mk #[109, 101, 97, 110, 116]), (ByteArray.mk #[100, 111, 110, 101]), (ByteArray.mk #[114, 111, 111, 116])]) 262144 (Int.toNat p0) 0 (.t (.str y2)) rfl kr kr kr kr kr kr (idx_some e_y2).2 kr ?_
  refine Runs.alln ?_
  refine Wp.fg ⟨[(2, .t (.str y2))], [], []⟩ ?_
  refine Wp.ret ?_
  obtain rfl := Option.some.inj h
  exact RetK [.t (.str y2)] _ [] kr kr (.refl _) .nil
theorem spec_NumText_ok (u : Nat) (p0 : Int) (r : ByteArray) (h : spec_NumText u p0 = some r) : CallOK Tryz.prog 24 [.one (.t (.int .i64 p0))] (.one (.t (.str r))) [] := by
  unfold spec_NumText at h
  refine CallOK.of_bodyK (fn := Tryz.f24) (m := false) [.t (.int .i64 p0)] kr rfl kr kr kr kr kr ?_
  refine Wp.srg [] [] ?_
  refine Runs.alln ?_
  refine Wp.fg ⟨[(0, .t (.int .i64 p0)), (2, .t (.str ((ByteArray.mk #[]))))], [], []⟩ ?_
  refine Wp.seq ?_
  refine Wp.srg [] [] ?_
  refine Runs.alln ?_
  refine Wp.fg ⟨[(0, .t (.int .i64 p0)), (2, .t (.str ((ByteArray.mk #[])))), (7, .t (.bool (p0 == 0)))], [], []⟩ ?_
  refine Wp.cond2 (b := p0 == 0) kr (fun hc => ?_) (fun hc => ?_)
  · have h := cond_t h hc
    refine Wp.srg [] [] ?_
    refine Runs.alln ?_
    refine Wp.fg ⟨[(0, .t (.int .i64 p0)), (2, .t (.str ((ByteArray.mk #[48]))))], [], []⟩ ?_
    refine Wp.ret ?_
    refine thenR ?_
    obtain rfl := Option.some.inj h
    exact RetK [.t (.str ((ByteArray.mk #[48])))] _ [] kr kr (.refl _) .nil
  have h := cond_f h hc
  refine Wp.skip (thenN ?_)
  refine Wp.srg [] [] ?_
  refine Runs.alln ?_
  refine Wp.fg ⟨[(0, .t (.int .i64 p0)), (2, .t (.str ((ByteArray.mk #[])))), (3, .t (.str ((ByteArray.mk #[]))))], [], []⟩ ?_
  refine Wp.seqJ (α := Int × ByteArray) (fun a => ⟨[(0, .t (.int .i64 a.1)), (2, .t (.str ((ByteArray.mk #[])))), (3, .t (.str a.2))], [], []⟩) (fun a => spec_NumText_j1 u a.1 a.2 = some r) ?_ ?_
  · rintro ⟨p0, x8⟩ h
    change spec_NumText_j1 u p0 x8 = some r at h
    unfold spec_NumText_j1 at h
    refine Wp.seq ?_
    refine Wp.srg [] [] ?_
    refine Runs.alln ?_
    refine Wp.fg ⟨[(2, .t (.str ((ByteArray.mk #[])))), (3, .t (.str x8)), (27, .t (.bool (decide (p0 < 0))))], [], []⟩ ?_
    refine Wp.cond2 (b := decide (p0 < 0)) kr (fun hc => ?_) (fun hc => ?_)
    · have h := cond_t h hc
      refine Wp.srg [] [] ?_
      refine Runs.batch 1 kr ?_
      obtain ⟨_, e_9, h⟩ := bind_some h
      refine Runs.cat ((ByteArray.mk #[45])) x8 rfl kr kr kr kr (of_decide_eq_true (chk_some e_9)) ?_
      refine Runs.alln ?_
      refine Wp.fg ⟨[(2, .t (.str (((ByteArray.mk #[45])) ++ x8))), (3, .t (.str x8))], [], []⟩ ?_
      refine Wp.ret ?_
      refine thenR ?_
      obtain rfl := Option.some.inj h
      exact RetK [.t (.str (((ByteArray.mk #[45])) ++ x8))] _ [] kr kr (.refl _) .nil
    have h := cond_f h hc
    refine Wp.skip (thenN ?_)
    refine Wp.srg [] [] ?_
    refine Runs.alln ?_
    refine Wp.fg ⟨[(2, .t (.str x8))], [], []⟩ ?_
    refine Wp.ret ?_
    obtain rfl := Option.some.inj h
    exact RetK [.t (.str x8)] _ [] kr kr (.refl _) .nil
  · refine Wp.srg [] [] ?_
    refine Runs.alln ?_
    refine Wp.fg ⟨[(0, .t (.int .i64 p0)), (2, .t (.str ((ByteArray.mk #[])))), (3, .t (.str ((ByteArray.mk #[])))), (4, .t (.int .i64 p0))], [], []⟩ ?_
    refine Wp.block ?_
    refine Wp.loopF (α := Int × ByteArray × Int) (fun a => ⟨[(0, .t (.int .i64 a.1)), (2, .t (.str ((ByteArray.mk #[])))), (3, .t (.str a.2.1)), (4, .t (.int .i64 a.2.2))], [], []⟩) (fun k_spec_NumText_l2 a => spec_NumText_l2 u k_spec_NumText_l2 a.1 a.2.1 a.2.2 = some r) ?_ ?_ u (p0, (ByteArray.mk #[]), p0) h (Le.of (mo := []) (mr := []) kr kr kr kr)
    · intro a h; unfold spec_NumText_l2 at h; cases h
    · rintro k_spec_NumText_l2 ⟨p0, x3, x4⟩ h
      change spec_NumText_l2 u (k_spec_NumText_l2 + 1) p0 x3 x4 = some r at h
      rw [spec_NumText_l2] at h
      refine Wp.seq ?_
      refine Wp.srg [] [] ?_
      refine Runs.alln ?_
      refine Wp.fg ⟨[(0, .t (.int .i64 p0)), (2, .t (.str ((ByteArray.mk #[])))), (3, .t (.str x3)), (4, .t (.int .i64 x4)), (10, .t (.bool (x4 != 0)))], [], []⟩ ?_
      refine Wp.cond2 (b := x4 != 0) kr (fun hc => ?_) (fun hc => ?_)
      · have h := cond_t h hc
        refine Wp.skip (thenN ?_)
        refine Wp.seq ?_
        refine Wp.block ?_
        refine Wp.srg [] [] ?_
        refine Runs.alln ?_
        refine Wp.fg ⟨[(0, .t (.int .i64 p0)), (2, .t (.str ((ByteArray.mk #[])))), (3, .t (.str x3)), (4, .t (.int .i64 x4)), (5, .t (.int .i64 (bRem .i64 x4 10)))], [], []⟩ ?_
        refine Wp.seqJ (α := Int × ByteArray × Int × Int) (fun a => ⟨[(0, .t (.int .i64 a.1)), (2, .t (.str ((ByteArray.mk #[])))), (3, .t (.str a.2.1)), (4, .t (.int .i64 a.2.2.1)), (5, .t (.int .i64 a.2.2.2))], [], []⟩) (fun a => spec_NumText_j3 u (fun z0 z1 z2 => spec_NumText_l2 u k_spec_NumText_l2 z0 z1 z2) a.1 a.2.1 a.2.2.1 a.2.2.2 = some r) ?_ ?_
        · rintro ⟨p0, x3, x4, x7⟩ h
          change spec_NumText_j3 u (fun z0 z1 z2 => spec_NumText_l2 u k_spec_NumText_l2 z0 z1 z2) p0 x3 x4 x7 = some r at h
          unfold spec_NumText_j3 at h
          refine Wp.rg [] [] ?_
          refine Runs.batch 4 kr ?_
          refine Runs.bytesStr (y := .own 1441792) (e := 5) ([IntKind.wrap .u8 (bAdd .i64 48 x7)]) 1 rfl kr kr kr kr kr kr kr ?_
          refine Runs.batch 1 kr ?_
          obtain ⟨_, e_8, h⟩ := bind_some h
          refine Runs.cat (strOfNums ([IntKind.wrap .u8 (bAdd .i64 48 x7)])) x3 rfl kr kr kr kr (of_decide_eq_true (chk_some e_8)) ?_
          refine Runs.all kr ?_
          refine blkN ?_
          refine thenN ?_
          refine Wp.rg [] [] ?_
          refine Runs.alln ?_
          exact ⟨(p0, (strOfNums ([IntKind.wrap .u8 (bAdd .i64 48 x7)])) ++ x3, bQuo .i64 x4 10), h, Le.of (mo := []) (mr := []) kr kr kr kr⟩
        · refine Wp.srg [] [] ?_
          refine Runs.alln ?_
          refine Wp.fg ⟨[(0, .t (.int .i64 p0)), (2, .t (.str ((ByteArray.mk #[])))), (3, .t (.str x3)), (4, .t (.int .i64 x4)), (5, .t (.int .i64 (bRem .i64 x4 10))), (16, .t (.bool (decide ((bRem .i64 x4 10) < 0))))], [], []⟩ ?_
          refine Wp.cond2 (b := decide ((bRem .i64 x4 10) < 0)) kr (fun hc => ?_) (fun hc => ?_)
          · have h := cond_t h hc
            refine Wp.rg [] [] ?_
            refine Runs.alln ?_
            exact ⟨(p0, x3, x4, bSub .i64 0 (bRem .i64 x4 10)), h, Le.of (mo := []) (mr := []) kr kr kr kr⟩
          have h := cond_f h hc
          refine Wp.skip (thenN ?_)
          exact ⟨(p0, x3, x4, bRem .i64 x4 10), h, Le.of (mo := []) (mr := []) kr kr kr kr⟩
      have h := cond_f h hc
      refine Wp.exit ?_
      refine thenE ?_
      refine thenE ?_
      refine blkE ?_
      refine thenN ?_
      exact ⟨(p0, x3), h, Le.of (mo := []) (mr := []) kr kr kr kr⟩
theorem spec_SetOk_ok (u : Nat) (p0 : Int) (r : Bool) (h : spec_SetOk u p0 = some r) : CallOK Tryz.prog 166 [.one (.t (.int .i64 p0))] (.one (.t (.bool r))) [] := by
  unfold spec_SetOk at h
  refine CallOK.of_bodyK (fn := Tryz.f166) (m := false) [.t (.int .i64 p0)] kr rfl kr kr kr kr kr ?_
  refine Wp.srg [] [] ?_
  refine Runs.alln ?_
  refine Wp.fg ⟨[(0, .t (.int .i64 p0)), (2, .t (.bool false))], [], []⟩ ?_
  refine Wp.srg [] [] ?_
  refine Runs.batch 1 kr ?_
  obtain ⟨r1, e_r1, h⟩ := bind_some h
  refine Runs.callK false 4 94 [] [.t (.int .i64 p0), .t (.int .i64 0), .t (.int .i64 1099511627775)] _ _ _ rfl rfl kr kr kr kr kr (spec_l1In_ok u p0 0 1099511627775 r1 e_r1) kr ?_
  refine Runs.alln ?_
  refine Wp.fg ⟨[(2, .t (.bool r1))], [], []⟩ ?_
  refine Wp.ret ?_
  obtain rfl := Option.some.inj h
  exact RetK [.t (.bool r1)] _ [] kr kr (.refl _) .nil
theorem spec_InSet_ok (u : Nat) (p0 : Int) (p1 : Int) (r : Bool) (h : spec_InSet u p0 p1 = some r) : CallOK Tryz.prog 124 [.one (.t (.int .i64 p0)), .one (.t (.int .i64 p1))] (.one (.t (.bool r))) [] := by
  unfold spec_InSet at h
  refine CallOK.of_bodyK (fn := Tryz.f124) (m := false) [.t (.int .i64 p0), .t (.int .i64 p1)] kr rfl kr kr kr kr kr ?_
  refine Wp.srg [] [] ?_
  refine Runs.alln ?_
  refine Wp.fg ⟨[(0, .t (.int .i64 p0)), (1, .t (.int .i64 p1)), (4, .t (.bool false))], [], []⟩ ?_
  refine Wp.srg [] [] ?_
  refine Runs.batch 1 kr ?_
  obtain ⟨r1, e_r1, h⟩ := bind_some h
  refine Runs.callK false 6 166 [] [.t (.int .i64 p0)] _ _ _ rfl rfl kr kr kr kr kr (spec_SetOk_ok u p0 r1 e_r1) kr ?_
  refine Runs.batch 1 kr ?_
  rcases tf (r1) with hc | hc
  · have h := cond_t h hc
    refine Runs.known 7 (v := true) kr hc ?_
    refine Runs.batch 1 kr ?_
    obtain ⟨r2, e_r2, h⟩ := bind_some h
    refine Runs.callK false 9 94 [] [.t (.int .i64 p1), .t (.int .i64 0), .t (.int .i64 39)] _ _ _ rfl rfl kr kr kr kr kr (spec_l1In_ok u p1 0 39 r2 e_r2) kr ?_
    refine Runs.batch 2 kr ?_
    rcases tf (r2) with hc | hc
    · have h := cond_t h hc
      refine Runs.known 11 (v := true) kr hc ?_
      refine Runs.batch 2 kr ?_
      obtain ⟨_, e_3, h⟩ := bind_some h
      refine Runs.num .shr (.int .i64 p0) (.int .i64 p1) (.int .i64 (bShr .i64 p0 p1)) rfl kr kr kr kr (bin_shr _ _ _ _ _ (chk_some e_3)) ?_
      refine Runs.alln ?_
      refine Wp.fg ⟨[(4, .t (.bool ((bAnd .i64 (bShr .i64 p0 p1) 1) == 1)))], [], []⟩ ?_
      refine Wp.ret ?_
      obtain rfl := Option.some.inj h
      exact RetK [.t (.bool ((bAnd .i64 (bShr .i64 p0 p1) 1) == 1))] _ [] kr kr (.refl _) .nil
    have h := cond_f h hc
    refine Runs.known 11 (v := false) kr hc ?_
    refine Runs.alln ?_
    refine Wp.fg ⟨[(4, .t (.bool false))], [], []⟩ ?_
    refine Wp.ret ?_
    obtain rfl := Option.some.inj h
    exact RetK [.t (.bool false)] _ [] kr kr (.refl _) .nil
  have h := cond_f h hc
  refine Runs.known 7 (v := false) kr hc ?_
  refine Runs.alln ?_
  refine Wp.fg ⟨[(4, .t (.bool false))], [], []⟩ ?_
  refine Wp.ret ?_
  obtain rfl := Option.some.inj h
  exact RetK [.t (.bool false)] _ [] kr kr (.refl _) .nil
theorem spec_CountSet_ok (u : Nat) (p0 : Int) (r : Int) (h : spec_CountSet u p0 = some r) : CallOK Tryz.prog 84 [.one (.t (.int .i64 p0))] (.one (.t (.int .i64 r))) [] := by
  unfold spec_CountSet at h
  refine CallOK.of_bodyK (fn := Tryz.f84) (m := false) [.t (.int .i64 p0)] kr rfl kr kr kr kr kr ?_
  refine Wp.srg [] [] ?_
  refine Runs.alln ?_
  refine Wp.fg ⟨[(0, .t (.int .i64 p0)), (2, .t (.int .i64 0))], [], []⟩ ?_
  refine Wp.srg [] [] ?_
  refine Runs.alln ?_
  refine Wp.fg ⟨[(0, .t (.int .i64 p0)), (2, .t (.int .i64 0)), (3, .t (.int .i64 0))], [], []⟩ ?_
  refine Wp.seqJ (α := Int) (fun a => ⟨[(2, .t (.int .i64 0)), (3, .t (.int .i64 a))], [], []⟩) (fun a => spec_CountSet_j1 u a = some r) ?_ ?_
  · rintro x9 h
    change spec_CountSet_j1 u x9 = some r at h
    unfold spec_CountSet_j1 at h
    refine Wp.srg [] [] ?_
    refine Runs.alln ?_
    refine Wp.fg ⟨[(2, .t (.int .i64 x9))], [], []⟩ ?_
    refine Wp.ret ?_
    obtain rfl := Option.some.inj h
    exact RetK [.t (.int .i64 x9)] _ [] kr kr (.refl _) .nil
  · refine Wp.srg [] [] ?_
    refine Runs.alln ?_
    refine Wp.fg ⟨[(0, .t (.int .i64 p0)), (2, .t (.int .i64 0)), (3, .t (.int .i64 0)), (4, .t (.int .i64 0))], [], []⟩ ?_
    refine Wp.block ?_
    refine Wp.loopF (α := Int × Int × Int) (fun a => ⟨[(0, .t (.int .i64 a.1)), (2, .t (.int .i64 0)), (3, .t (.int .i64 a.2.1)), (4, .t (.int .i64 a.2.2))], [], []⟩) (fun k_spec_CountSet_l2 a => spec_CountSet_l2 u k_spec_CountSet_l2 a.1 a.2.1 a.2.2 = some r) ?_ ?_ u (p0, 0, 0) h (Le.of (mo := []) (mr := []) kr kr kr kr)
    · intro a h; unfold spec_CountSet_l2 at h; cases h
    · rintro k_spec_CountSet_l2 ⟨p0, x3, x4⟩ h
      change spec_CountSet_l2 u (k_spec_CountSet_l2 + 1) p0 x3 x4 = some r at h
      rw [spec_CountSet_l2] at h
      refine Wp.seq ?_
      refine Wp.srg [] [] ?_
      refine Runs.alln ?_
      refine Wp.fg ⟨[(0, .t (.int .i64 p0)), (2, .t (.int .i64 0)), (3, .t (.int .i64 x3)), (4, .t (.int .i64 x4)), (6, .t (.bool (decide (x4 < 40))))], [], []⟩ ?_
      refine Wp.cond2 (b := decide (x4 < 40)) kr (fun hc => ?_) (fun hc => ?_)
      · have h := cond_t h hc
        refine Wp.skip (thenN ?_)
        refine Wp.seqJ (α := Int × Int × Int) (fun a => ⟨[(0, .t (.int .i64 a.1)), (2, .t (.int .i64 0)), (3, .t (.int .i64 a.2.1)), (4, .t (.int .i64 a.2.2))], [], []⟩) (fun a => spec_CountSet_j3 u (fun z0 z1 z2 => spec_CountSet_l2 u k_spec_CountSet_l2 z0 z1 z2) a.1 a.2.1 a.2.2 = some r) ?_ ?_
        · rintro ⟨p0, x8, x4⟩ h
          change spec_CountSet_j3 u (fun z0 z1 z2 => spec_CountSet_l2 u k_spec_CountSet_l2 z0 z1 z2) p0 x8 x4 = some r at h
          unfold spec_CountSet_j3 at h
          refine Wp.rg [] [] ?_
          refine Runs.alln ?_
          exact ⟨(p0, x8, bAdd .i64 x4 1), h, Le.of (mo := []) (mr := []) kr kr kr kr⟩
        · refine Wp.block ?_
          refine Wp.srg [] [] ?_
          refine Runs.batch 2 kr ?_
          obtain ⟨r7, e_r7, h⟩ := bind_some h
          refine Runs.callK false 11 124 [] [.t (.int .i64 p0), .t (.int .i64 x4)] _ _ _ rfl rfl kr kr kr kr kr (spec_InSet_ok u p0 x4 r7 e_r7) kr ?_
          refine Runs.done ?_
          refine thenN ?_
          refine Wp.fg ⟨[(0, .t (.int .i64 p0)), (2, .t (.int .i64 0)), (3, .t (.int .i64 x3)), (4, .t (.int .i64 x4)), (11, .t (.bool r7))], [], []⟩ ?_
          refine Wp.cond2 (b := r7) kr (fun hc => ?_) (fun hc => ?_)
          · have h := cond_t h hc
            refine Wp.rg [] [] ?_
            refine Runs.all kr ?_
            refine blkN ?_
            refine thenN ?_
            exact ⟨(p0, bAdd .i64 x3 1, x4), h, Le.of (mo := []) (mr := []) kr kr kr kr⟩
          have h := cond_f h hc
          refine Wp.skip ?_
          refine blkN ?_
          refine thenN ?_
          exact ⟨(p0, x3, x4), h, Le.of (mo := []) (mr := []) kr kr kr kr⟩
      have h := cond_f h hc
      refine Wp.exit ?_
      refine thenE ?_
      refine thenE ?_
      refine blkE ?_
      refine thenN ?_
      exact ⟨x3, h, Le.of (mo := []) (mr := []) kr kr kr kr⟩
theorem spec_NodeText_ok (u : Nat) (p0 : Node) (r : ByteArray) (h : spec_NodeText u p0 = some r) : CallOK Tryz.prog 51 [.agg [.t (.bool p0.fOn), .t (.int .i64 p0.fBoss), .t (.int .i64 p0.fQuiet), .t (.int .i64 p0.fMan.fGen), .t (.int .i64 p0.fMan.fSize), .t (.int .i64 p0.fMan.fLen), .t (.sl 2 (p0.fMan.fSums.map Sum.enc)), .t (.int .i64 p0.fBld.fHave), .t (.sl 1 (p0.fBld.fBuf.map (eInt .u8))), .t (.int .i64 p0.fPhase), .t (.sl 5 (p0.fKids.map Kid.enc)), .t (.int .i64 p0.fDrops)]] (.one (.t (.str r))) [] := by
  unfold spec_NodeText at h
  refine CallOK.of_bodyK (fn := Tryz.f51) (m := false) [.agg ((Node.enc p0).map .t)] kr rfl kr kr kr kr kr ?_
  refine Wp.srg [] [] ?_
  refine Runs.alln ?_
  refine Wp.fg ⟨[(1, .obj 1 0), (2, .t (.str ((ByteArray.mk #[]))))], [(1, ((Node.enc p0).map .t))], []⟩ ?_
  refine Wp.seq ?_
  refine Wp.srg [] [] ?_
  refine Runs.alln ?_
  refine Wp.fg ⟨[(1, .obj 1 0), (2, .t (.str ((ByteArray.mk #[])))), (5, .t (.bool (!p0.fOn)))], [(1, ((Node.enc p0).map .t))], []⟩ ?_
  refine Wp.cond2 (b := !p0.fOn) kr (fun hc => ?_) (fun hc => ?_)
  · have h := cond_t h hc
    refine Wp.srg [] [] ?_
    refine Runs.alln ?_
    refine Wp.fg ⟨[(1, .obj 1 0), (2, .t (.str ((ByteArray.mk #[111, 102, 102]))))], [(1, ((Node.enc p0).map .t))], []⟩ ?_
    refine Wp.ret ?_
    refine thenR ?_
    obtain rfl := Option.some.inj h
    exact RetK [.t (.str ((ByteArray.mk #[111, 102, 102])))] _ [] kr kr (.refl _) .nil
  have h := cond_f h hc
  refine Wp.skip (thenN ?_)
  refine Wp.seq ?_
  refine Wp.regionA (pOf []) (rhoOf [(1, .obj 1), (6, .obj 1), (7, .frz), (8, .frz), (9, .frz), (10, .obj 1), (11, .frz), (12, .frz), (13, .frz), (14, .frz), (15, .obj 1), (16, .obj 1), (17, .frz), (18, .frz), (19, .frz), (20, .frz), (21, .frz), (22, .obj 1), (23, .frz), (24, .frz), (25, .frz), (26, .frz), (27, .frz), (28, .obj 1), (29, .frz), (30, .frz), (31, .frz)]) kr kr ?_
  refine Runs.batch 2 kr ?_
  obtain ⟨r1, e_r1, h⟩ := bind_some h
  refine Runs.callK false 8 83 [] [.t (.int .i64 p0.fPhase)] _ _ _ rfl rfl kr kr kr kr kr (spec_PhName_ok u p0.fPhase r1 e_r1) kr ?_
  obtain ⟨_, e_2, h⟩ := bind_some h
  refine Runs.cat r1 ((ByteArray.mk #[32])) rfl kr kr kr kr (of_decide_eq_true (chk_some e_2)) ?_
  refine Runs.batch 2 kr ?_
  obtain ⟨r3, e_r3, h⟩ := bind_some h
  refine Runs.callK false 12 24 [] [.t (.int .i64 p0.fBoss)] _ _ _ rfl rfl kr kr kr kr kr (spec_NumText_ok u p0.fBoss r3 e_r3) kr ?_
  obtain ⟨_, e_4, h⟩ := bind_some h
  refine Runs.cat (r1 ++ ((ByteArray.mk #[32]))) r3 rfl kr kr kr kr (of_decide_eq_true (chk_some e_4)) ?_
  obtain ⟨_, e_5, h⟩ := bind_some h
  refine Runs.cat ((r1 ++ ((ByteArray.mk #[32]))) ++ r3) ((ByteArray.mk #[32])) rfl kr kr kr kr (of_decide_eq_true (chk_some e_5)) ?_
  refine Runs.batch 3 kr ?_
  obtain ⟨r6, e_r6, h⟩ := bind_some h
  refine Runs.callK false 18 84 [] [.t (.int .i64 p0.fBld.fHave)] _ _ _ rfl rfl kr kr kr kr kr (spec_CountSet_ok u p0.fBld.fHave r6 e_r6) kr ?_
  obtain ⟨r7, e_r7, h⟩ := bind_some h
  refine Runs.callK false 19 24 [] [.t (.int .i64 r6)] _ _ _ rfl rfl kr kr kr kr kr (spec_NumText_ok u r6 r7 e_r7) kr ?_
  obtain ⟨_, e_8, h⟩ := bind_some h
  refine Runs.cat (((r1 ++ ((ByteArray.mk #[32]))) ++ r3) ++ ((ByteArray.mk #[32]))) r7 rfl kr kr kr kr (of_decide_eq_true (chk_some e_8)) ?_
  obtain ⟨_, e_9, h⟩ := bind_some h
  refine Runs.cat ((((r1 ++ ((ByteArray.mk #[32]))) ++ r3) ++ ((ByteArray.mk #[32]))) ++ r7) ((ByteArray.mk #[32])) rfl kr kr kr kr (of_decide_eq_true (chk_some e_9)) ?_
  refine Runs.batch 2 kr ?_
  refine Runs.lenT (y := .t (.sl 5 (p0.fKids.map Kid.enc))) (e := 200) Kid.enc p0.fKids 5 rfl rfl rfl kr kr kr kr kr ?_
  obtain ⟨r10, e_r10, h⟩ := bind_some h
  refine Runs.callK false 25 24 [] [.t (.int .i64 ((p0.fKids.length : Int)))] _ _ _ rfl rfl kr kr kr kr kr (spec_NumText_ok u ((p0.fKids.length : Int)) r10 e_r10) kr ?_
  obtain ⟨_, e_11, h⟩ := bind_some h
  refine Runs.cat (((((r1 ++ ((ByteArray.mk #[32]))) ++ r3) ++ ((ByteArray.mk #[32]))) ++ r7) ++ ((ByteArray.mk #[32]))) r10 rfl kr kr kr kr (of_decide_eq_true (chk_some e_11)) ?_
  obtain ⟨_, e_12, h⟩ := bind_some h
  refine Runs.cat ((((((r1 ++ ((ByteArray.mk #[32]))) ++ r3) ++ ((ByteArray.mk #[32]))) ++ r7) ++ ((ByteArray.mk #[32]))) ++ r10) ((ByteArray.mk #[32])) rfl kr kr kr kr (of_decide_eq_true (chk_some e_12)) ?_
  refine Runs.batch 2 kr ?_
  obtain ⟨r13, e_r13, h⟩ := bind_some h
  refine Runs.callK false 30 24 [] [.t (.int .i64 p0.fDrops)] _ _ _ rfl rfl kr kr kr kr kr (spec_NumText_ok u p0.fDrops r13 e_r13) kr ?_
  obtain ⟨_, e_14, h⟩ := bind_some h
  refine Runs.cat (((((((r1 ++ ((ByteArray.mk #[32]))) ++ r3) ++ ((ByteArray.mk #[32]))) ++ r7) ++ ((ByteArray.mk #[32]))) ++ r10) ++ ((ByteArray.mk #[32]))) r13 rfl kr kr kr kr (of_decide_eq_true (chk_some e_14)) ?_
  refine Runs.alln ?_
  refine Wp.fg ⟨[(2, .t (.str ((((((((r1 ++ ((ByteArray.mk #[32]))) ++ r3) ++ ((ByteArray.mk #[32]))) ++ r7) ++ ((ByteArray.mk #[32]))) ++ r10) ++ ((ByteArray.mk #[32]))) ++ r13)))], [], []⟩ ?_
  refine Wp.ret ?_
  obtain rfl := Option.some.inj h
  exact RetK [.t (.str ((((((((r1 ++ ((ByteArray.mk #[32]))) ++ r3) ++ ((ByteArray.mk #[32]))) ++ r7) ++ ((ByteArray.mk #[32]))) ++ r10) ++ ((ByteArray.mk #[32]))) ++ r13))] _ [] kr kr (.refl _) .nil
theorem spec_WorldText_ok (u : Nat) (p0 : World) (r : ByteArray) (h : spec_WorldText u p0 = some r) : CallOK Tryz.prog 19 [.agg [.t (.int .i64 p0.fC.fSize), .t (.int .i64 p0.fC.fWindow), .t (.int .i64 p0.fC.fSuspect), .t (.int .i64 p0.fC.fForget), .t (.sl 1 (p0.fT.fUp.map (eInt .i64))), .t (.sl 1 (p0.fNew.map (eInt .u8))), .t (.sl 1 (p0.fOld.map Image.enc)), .t (.sl 12 (p0.fN.map Node.enc)), .t (.sl 6 (p0.fD.map Disk.enc)), .t (.sl 3 (p0.fNet.map Packet.enc)), .t (.sl 3 (p0.fLog.map Sent.enc)), .t (.int .i64 p0.fLost)]] (.one (.t (.str r))) [] := by
  unfold spec_WorldText at h
  refine CallOK.of_bodyK (fn := Tryz.f19) (m := false) [.agg ((World.enc p0).map .t)] kr rfl kr kr kr kr kr ?_
  refine Wp.srg [] [] ?_
  refine Runs.alln ?_
  refine Wp.fg ⟨[(1, .obj 1 0), (2, .t (.str ((ByteArray.mk #[]))))], [(1, ((World.enc p0).map .t))], []⟩ ?_
  refine Wp.srg [] [] ?_
  refine Runs.alln ?_
  refine Wp.fg ⟨[(1, .obj 1 0), (2, .t (.str ((ByteArray.mk #[])))), (3, .t (.str ((ByteArray.mk #[]))))], [(1, ((World.enc p0).map .t))], []⟩ ?_
  refine Wp.seqJ (α := ByteArray) (fun a => ⟨[(2, .t (.str ((ByteArray.mk #[])))), (3, .t (.str a))], [], []⟩) (fun a => spec_WorldText_j1 u a = some r) ?_ ?_
  · rintro x10 h
    change spec_WorldText_j1 u x10 = some r at h
    unfold spec_WorldText_j1 at h
    refine Wp.srg [] [] ?_
    refine Runs.alln ?_
    refine Wp.fg ⟨[(2, .t (.str x10))], [], []⟩ ?_
    refine Wp.ret ?_
    obtain rfl := Option.some.inj h
    exact RetK [.t (.str x10)] _ [] kr kr (.refl _) .nil
  · refine Wp.srg [] [] ?_
    refine Runs.alln ?_
    refine Wp.fg ⟨[(1, .obj 1 0), (2, .t (.str ((ByteArray.mk #[])))), (3, .t (.str ((ByteArray.mk #[])))), (4, .t (.int .i64 0))], [(1, ((World.enc p0).map .t))], []⟩ ?_
    refine Wp.block ?_
    refine Wp.loopF (α := ByteArray × Int × World) (fun a => ⟨[(1, .obj 1 0), (2, .t (.str ((ByteArray.mk #[])))), (3, .t (.str a.1)), (4, .t (.int .i64 a.2.1))], [(1, ((World.enc a.2.2).map .t))], []⟩) (fun k_spec_WorldText_l2 a => spec_WorldText_l2 u k_spec_WorldText_l2 a.1 a.2.1 a.2.2 = some r) ?_ ?_ u ((ByteArray.mk #[]), 0, p0) h (Le.of (mo := []) (mr := []) kr kr kr kr)
    · intro a h; unfold spec_WorldText_l2 at h; cases h
    · rintro k_spec_WorldText_l2 ⟨x3, x4, p0⟩ h
      change spec_WorldText_l2 u (k_spec_WorldText_l2 + 1) x3 x4 p0 = some r at h
      rw [spec_WorldText_l2] at h
      refine Wp.seq ?_
      refine Wp.srg [] [] ?_
      refine Runs.batch 3 kr ?_
      refine Runs.lenT (y := .t (.sl 12 (p0.fN.map Node.enc))) (e := 92) Node.enc p0.fN 12 rfl rfl rfl kr kr kr kr kr ?_
      refine Runs.alln ?_
      refine Wp.fg ⟨[(1, .obj 1 0), (2, .t (.str ((ByteArray.mk #[])))), (3, .t (.str x3)), (4, .t (.int .i64 x4)), (9, .t (.bool (decide (x4 < ((p0.fN.length : Int))))))], [(1, ((World.enc p0).map .t))], []⟩ ?_
      refine Wp.cond2 (b := decide (x4 < ((p0.fN.length : Int)))) kr (fun hc => ?_) (fun hc => ?_)
      · have h := cond_t h hc
        refine Wp.skip (thenN ?_)
        refine Wp.seq ?_
        refine Wp.block ?_
        refine Wp.seqJ (α := ByteArray × Int × World) (fun a => ⟨[(1, .obj 1 0), (2, .t (.str ((ByteArray.mk #[])))), (3, .t (.str a.1)), (4, .t (.int .i64 a.2.1))], [(1, ((World.enc a.2.2).map .t))], []⟩) (fun a => spec_WorldText_j3 u (fun z0 z1 z2 => spec_WorldText_l2 u k_spec_WorldText_l2 z0 z1 z2) a.1 a.2.1 a.2.2 = some r) ?_ ?_
        · rintro ⟨x7, x4, p0⟩ h
          change spec_WorldText_j3 u (fun z0 z1 z2 => spec_WorldText_l2 u k_spec_WorldText_l2 z0 z1 z2) x7 x4 p0 = some r at h
          unfold spec_WorldText_j3 at h
          refine Wp.rg [] [] ?_
          refine Runs.batch 4 kr ?_
          obtain ⟨y8, e_y8, h⟩ := bind_some h
          refine Runs.idxT (e := 92) (kk := .i64) (sz := 12) Node.enc p0.fN x4 rfl kr kr kr kr kr kr e_y8 ?_
          refine Runs.batch 1 kr ?_
          obtain ⟨r9, e_r9, h⟩ := bind_some h
          refine Runs.callK false 22 51 [] [.agg ((Node.enc y8).map .t)] _ _ _ rfl rfl kr kr kr kr kr (spec_NodeText_ok u y8 r9 e_r9) kr ?_
          obtain ⟨_, e_10, h⟩ := bind_some h
          refine Runs.cat x7 r9 rfl kr kr kr kr (of_decide_eq_true (chk_some e_10)) ?_
          refine Runs.all kr ?_
          refine blkN ?_
          refine thenN ?_
          refine Wp.rg [] [] ?_
          refine Runs.alln ?_
          exact ⟨(x7 ++ r9, bAdd .i64 x4 1, p0), h, Le.of (mo := []) (mr := []) kr kr kr kr⟩
        · refine Wp.srg [] [] ?_
          refine Runs.alln ?_
          refine Wp.fg ⟨[(1, .obj 1 0), (2, .t (.str ((ByteArray.mk #[])))), (3, .t (.str x3)), (4, .t (.int .i64 x4)), (13, .t (.bool (decide (x4 > 0))))], [(1, ((World.enc p0).map .t))], []⟩ ?_
          refine Wp.cond2 (b := decide (x4 > 0)) kr (fun hc => ?_) (fun hc => ?_)
          · have h := cond_t h hc
            refine Wp.rg [] [] ?_
            refine Runs.batch 1 kr ?_
            obtain ⟨_, e_7, h⟩ := bind_some h
            refine Runs.cat x3 ((ByteArray.mk #[59, 32])) rfl kr kr kr kr (of_decide_eq_true (chk_some e_7)) ?_
            refine Runs.alln ?_
            exact ⟨(x3 ++ ((ByteArray.mk #[59, 32])), x4, p0), h, Le.of (mo := []) (mr := []) kr kr kr kr⟩
          have h := cond_f h hc
          refine Wp.skip (thenN ?_)
          exact ⟨(x3, x4, p0), h, Le.of (mo := []) (mr := []) kr kr kr kr⟩
      have h := cond_f h hc
      refine Wp.exit ?_
      refine thenE ?_
      refine thenE ?_
      refine blkE ?_
      refine thenN ?_
      exact ⟨x3, h, Le.of (mo := []) (mr := []) kr kr kr kr⟩
theorem impl_within_ok (u : Nat) (p0 : Int) (p1 : Int) (p2 : Int) (r : Bool) (h : impl_within u p0 p1 p2 = some r) : CallOK Tryz.prog 100 [.one (.t (.int .i64 p0)), .one (.t (.int .i64 p1)), .one (.t (.int .i64 p2))] (.one (.t (.bool r))) [] := by
  unfold impl_within at h
  refine CallOK.of_bodyK (fn := Tryz.f100) (m := false) [.t (.int .i64 p0), .t (.int .i64 p1), .t (.int .i64 p2)] kr rfl kr kr kr kr kr ?_
  refine Wp.srg [] [] ?_
  refine Runs.alln ?_
  refine Wp.fg ⟨[(0, .t (.int .i64 p0)), (1, .t (.int .i64 p1)), (2, .t (.int .i64 p2)), (6, .t (.bool false))], [], []⟩ ?_
  refine Wp.srg [] [] ?_
  refine Runs.batch 4 kr ?_
  rcases tf (decide (p0 ≥ p1)) with hc | hc
  · have h := cond_t h hc
    refine Runs.known 10 (v := true) kr hc ?_
    refine Runs.alln ?_
    refine Wp.fg ⟨[(6, .t (.bool (decide (p0 ≤ p2))))], [], []⟩ ?_
    refine Wp.ret ?_
    obtain rfl := Option.some.inj h
    exact RetK [.t (.bool (decide (p0 ≤ p2)))] _ [] kr kr (.refl _) .nil
  have h := cond_f h hc
  refine Runs.known 10 (v := false) kr hc ?_
  refine Runs.alln ?_
  refine Wp.fg ⟨[(6, .t (.bool false))], [], []⟩ ?_
  refine Wp.ret ?_
  obtain rfl := Option.some.inj h
  exact RetK [.t (.bool false)] _ [] kr kr (.refl _) .nil
theorem impl_PhName_ok (u : Nat) (p0 : Int) (r : ByteArray) (h : impl_PhName u p0 = some r) : CallOK Tryz.prog 85 [.one (.t (.int .i64 p0))] (.one (.t (.str r))) [] := by
  unfold impl_PhName at h
  refine CallOK.of_bodyK (fn := Tryz.f85) (m := false) [.t (.int .i64 p0)] kr rfl kr kr kr kr kr ?_
  refine Wp.srg [] [] ?_
  refine Runs.alln ?_
  refine Wp.fg ⟨[(0, .t (.int .i64 p0)), (2, .t (.str ((ByteArray.mk #[]))))], [], []⟩ ?_
  refine Wp.seq ?_
  refine Wp.srg [] [] ?_
  refine Runs.batch 1 kr ?_
  obtain ⟨r1, e_r1, h⟩ := bind_some h
  refine Runs.callK false 4 100 [] [.t (.int .i64 p0), .t (.int .i64 0), .t (.int .i64 6)] _ _ _ rfl rfl kr kr kr kr kr (impl_within_ok u p0 0 6 r1 e_r1) kr ?_
  refine Runs.alln ?_
  refine Wp.fg ⟨[(0, .t (.int .i64 p0)), (2, .t (.str ((ByteArray.mk #[])))), (5, .t (.bool (!r1)))], [], []⟩ ?_
  refine Wp.cond2 (b := !r1) kr (fun hc => ?_) (fun hc => ?_)
  · have h := cond_t h hc
    refine Wp.srg [] [] ?_
    refine Runs.alln ?_
    refine Wp.fg ⟨[(0, .t (.int .i64 p0)), (2, .t (.str ((ByteArray.mk #[]))))], [], []⟩ ?_
    refine Wp.ret ?_
    refine thenR ?_
    obtain rfl := Option.some.inj h
    exact RetK [.t (.str ((ByteArray.mk #[])))] _ [] kr kr (.refl _) .nil
  have h := cond_f h hc
  refine Wp.skip (thenN ?_)
  refine Wp.srg [] [] ?_
  refine Runs.batch 2 kr ?_
  obtain ⟨y2, e_y2, h⟩ := bind_some h
  refine Runs.idxO (e := 9) (e' := 9) (kk := .i64) (sz := 1) eStr ([(ByteArray.mk #[105, 100, 108, 101]), (ByteArray.mk #[103, 97, 116, 104, 101, 114]), (ByteArray.mk #[115, 116, 97, 103, 101, 100]), (ByteArray.mk #[115, 117, 114, 101]), (ByteArray.mk #[109, 101, 97, 110, 116]), (ByteArray.mk #[100, 111, 110, 101]), (ByteArray.mk #[114, 111, 111, 116])]) p0 393216 rfl kr kr kr kr kr kr kr e_y2 ?_
  refine Runs.loadE (e' := 9) (sz := 1) (m := 1) (gg := false) eStr ([(ByteArray.mk #[105, 100, 108, 101]), (ByteArray.mk #[103, 97, 116, 104, 101, 114]), (ByteArray.mk #[115, 116, 97, 103, 101, 100]), (ByteArray.mk #[115, 117, 114, 101]), (ByteArray.mk #[109, 101, 97, 110, 116]), (ByteArray.mk #[100, 111, 110, 101]), (ByteArray.mk #[114, 111, 111, 116])]) 393216 (Int.toNat p0) 0 (.t (.str y2)) rfl kr kr kr kr kr kr (idx_some e_y2).2 kr ?_
  refine Runs.alln ?_
  refine Wp.fg ⟨[(2, .t (.str y2))], [], []⟩ ?_
  refine Wp.ret ?_
  obtain rfl := Option.some.inj h
  exact RetK [.t (.str y2)] _ [] kr kr (.refl _) .nil
theorem impl_SetOk_ok (u : Nat) (p0 : Int) (r : Bool) (h : impl_SetOk u p0 = some r) : CallOK Tryz.prog 125 [.one (.t (.int .i64 p0))] (.one (.t (.bool r))) [] := by
  unfold impl_SetOk at h
  refine CallOK.of_bodyK (fn := Tryz.f125) (m := false) [.t (.int .i64 p0)] kr rfl kr kr kr kr kr ?_
  refine Wp.srg [] [] ?_
  refine Runs.alln ?_
  refine Wp.fg ⟨[(0, .t (.int .i64 p0)), (2, .t (.bool false))], [], []⟩ ?_
  refine Wp.srg [] [] ?_
  refine Runs.batch 1 kr ?_
  obtain ⟨r1, e_r1, h⟩ := bind_some h
  refine Runs.callK false 4 100 [] [.t (.int .i64 p0), .t (.int .i64 0), .t (.int .i64 1099511627775)] _ _ _ rfl rfl kr kr kr kr kr (impl_within_ok u p0 0 1099511627775 r1 e_r1) kr ?_
  refine Runs.alln ?_
  refine Wp.fg ⟨[(2, .t (.bool r1))], [], []⟩ ?_
  refine Wp.ret ?_
  obtain rfl := Option.some.inj h
  exact RetK [.t (.bool r1)] _ [] kr kr (.refl _) .nil
theorem bits_OnesCount64_ok (u : Nat) (p0 : Int) (r : Int) (h : bits_OnesCount64 u p0 = some r) : CallOK Tryz.prog 126 [.one (.t (.int .u64 p0))] (.one (.t (.int .i64 r))) [] := by
  unfold bits_OnesCount64 at h
  refine CallOK.of_bodyK (fn := Tryz.f126) (m := false) [.t (.int .u64 p0)] kr rfl kr kr kr kr kr ?_
  refine Wp.srg [] [] ?_
  refine Runs.alln ?_
  refine Wp.fg ⟨[(0, .t (.int .u64 p0)), (2, .t (.int .i64 0))], [], []⟩ ?_
  refine Wp.srg [] [] ?_
  refine Runs.alln ?_
  refine Wp.fg ⟨[(0, .t (.int .u64 (bAdd .u64 (bAnd .u64 (bShr .u64 p0 1) 6148914691236517205) (bAnd .u64 p0 6148914691236517205)))), (2, .t (.int .i64 0))], [], []⟩ ?_
  refine Wp.srg [] [] ?_
  refine Runs.alln ?_
  refine Wp.fg ⟨[(0, .t (.int .u64 (bAdd .u64 (bAnd .u64 (bShr .u64 (bAdd .u64 (bAnd .u64 (bShr .u64 p0 1) 6148914691236517205) (bAnd .u64 p0 6148914691236517205)) 2) 3689348814741910323) (bAnd .u64 (bAdd .u64 (bAnd .u64 (bShr .u64 p0 1) 6148914691236517205) (bAnd .u64 p0 6148914691236517205)) 3689348814741910323)))), (2, .t (.int .i64 0))], [], []⟩ ?_
  refine Wp.srg [] [] ?_
  refine Runs.alln ?_
  refine Wp.fg ⟨[(0, .t (.int .u64 (bAnd .u64 (bAdd .u64 (bShr .u64 (bAdd .u64 (bAnd .u64 (bShr .u64 (bAdd .u64 (bAnd .u64 (bShr .u64 p0 1) 6148914691236517205) (bAnd .u64 p0 6148914691236517205)) 2) 3689348814741910323) (bAnd .u64 (bAdd .u64 (bAnd .u64 (bShr .u64 p0 1) 6148914691236517205) (bAnd .u64 p0 6148914691236517205)) 3689348814741910323)) 4) (bAdd .u64 (bAnd .u64 (bShr .u64 (bAdd .u64 (bAnd .u64 (bShr .u64 p0 1) 6148914691236517205) (bAnd .u64 p0 6148914691236517205)) 2) 3689348814741910323) (bAnd .u64 (bAdd .u64 (bAnd .u64 (bShr .u64 p0 1) 6148914691236517205) (bAnd .u64 p0 6148914691236517205)) 3689348814741910323))) 1085102592571150095))), (2, .t (.int .i64 0))], [], []⟩ ?_
  refine Wp.srg [] [] ?_
  refine Runs.alln ?_
  refine Wp.fg ⟨[(0, .t (.int .u64 (bAdd .u64 (bAnd .u64 (bAdd .u64 (bShr .u64 (bAdd .u64 (bAnd .u64 (bShr .u64 (bAdd .u64 (bAnd .u64 (bShr .u64 p0 1) 6148914691236517205) (bAnd .u64 p0 6148914691236517205)) 2) 3689348814741910323) (bAnd .u64 (bAdd .u64 (bAnd .u64 (bShr .u64 p0 1) 6148914691236517205) (bAnd .u64 p0 6148914691236517205)) 3689348814741910323)) 4) (bAdd .u64 (bAnd .u64 (bShr .u64 (bAdd .u64 (bAnd .u64 (bShr .u64 p0 1) 6148914691236517205) (bAnd .u64 p0 6148914691236517205)) 2) 3689348814741910323) (bAnd .u64 (bAdd .u64 (bAnd .u64 (bShr .u64 p0 1) 6148914691236517205) (bAnd .u64 p0 6148914691236517205)) 3689348814741910323))) 1085102592571150095) (bShr .u64 (bAnd .u64 (bAdd .u64 (bShr .u64 (bAdd .u64 (bAnd .u64 (bShr .u64 (bAdd .u64 (bAnd .u64 (bShr .u64 p0 1) 6148914691236517205) (bAnd .u64 p0 6148914691236517205)) 2) 3689348814741910323) (bAnd .u64 (bAdd .u64 (bAnd .u64 (bShr .u64 p0 1) 6148914691236517205) (bAnd .u64 p0 6148914691236517205)) 3689348814741910323)) 4) (bAdd .u64 (bAnd .u64 (bShr .u64 (bAdd .u64 (bAnd .u64 (bShr .u64 p0 1) 6148914691236517205) (bAnd .u64 p0 6148914691236517205)) 2) 3689348814741910323) (bAnd .u64 (bAdd .u64 (bAnd .u64 (bShr .u64 p0 1) 6148914691236517205) (bAnd .u64 p0 6148914691236517205)) 3689348814741910323))) 1085102592571150095) 8)))), (2, .t (.int .i64 0))], [], []⟩ ?_
  refine Wp.srg [] [] ?_
  refine Runs.alln ?_
  refine Wp.fg ⟨[(0, .t (.int .u64 (bAdd .u64 (bAdd .u64 (bAnd .u64 (bAdd .u64 (bShr .u64 (bAdd .u64 (bAnd .u64 (bShr .u64 (bAdd .u64 (bAnd .u64 (bShr .u64 p0 1) 6148914691236517205) (bAnd .u64 p0 6148914691236517205)) 2) 3689348814741910323) (bAnd .u64 (bAdd .u64 (bAnd .u64 (bShr .u64 p0 1) 6148914691236517205) (bAnd .u64 p0 6148914691236517205)) 3689348814741910323)) 4) (bAdd .u64 (bAnd .u64 (bShr .u64 (bAdd .u64 (bAnd .u64 (bShr .u64 p0 1) 6148914691236517205) (bAnd .u64 p0 6148914691236517205)) 2) 3689348814741910323) (bAnd .u64 (bAdd .u64 (bAnd .u64 (bShr .u64 p0 1) 6148914691236517205) (bAnd .u64 p0 6148914691236517205)) 3689348814741910323))) 1085102592571150095) (bShr .u64 (bAnd .u64 (bAdd .u64 (bShr .u64 (bAdd .u64 (bAnd .u64 (bShr .u64 (bAdd .u64 (bAnd .u64 (bShr .u64 p0 1) 6148914691236517205) (bAnd .u64 p0 6148914691236517205)) 2) 3689348814741910323) (bAnd .u64 (bAdd .u64 (bAnd .u64 (bShr .u64 p0 1) 6148914691236517205) (bAnd .u64 p0 6148914691236517205)) 3689348814741910323)) 4) (bAdd .u64 (bAnd .u64 (bShr .u64 (bAdd .u64 (bAnd .u64 (bShr .u64 p0 1) 6148914691236517205) (bAnd .u64 p0 6148914691236517205)) 2) 3689348814741910323) (bAnd .u64 (bAdd .u64 (bAnd .u64 (bShr .u64 p0 1) 6148914691236517205) (bAnd .u64 p0 6148914691236517205)) 3689348814741910323))) 1085102592571150095) 8)) (bShr .u64 (bAdd .u64 (bAnd .u64 (bAdd .u64 (bShr .u64 (bAdd .u64 (bAnd .u64 (bShr .u64 (bAdd .u64 (bAnd .u64 (bShr .u64 p0 1) 6148914691236517205) (bAnd .u64 p0 6148914691236517205)) 2) 3689348814741910323) (bAnd .u64 (bAdd .u64 (bAnd .u64 (bShr .u64 p0 1) 6148914691236517205) (bAnd .u64 p0 6148914691236517205)) 3689348814741910323)) 4) (bAdd .u64 (bAnd .u64 (bShr .u64 (bAdd .u64 (bAnd .u64 (bShr .u64 p0 1) 6148914691236517205) (bAnd .u64 p0 6148914691236517205)) 2) 3689348814741910323) (bAnd .u64 (bAdd .u64 (bAnd .u64 (bShr .u64 p0 1) 6148914691236517205) (bAnd .u64 p0 6148914691236517205)) 3689348814741910323))) 1085102592571150095) (bShr .u64 (bAnd .u64 (bAdd .u64 (bShr .u64 (bAdd .u64 (bAnd .u64 (bShr .u64 (bAdd .u64 (bAnd .u64 (bShr .u64 p0 1) 6148914691236517205) (bAnd .u64 p0 6148914691236517205)) 2) 3689348814741910323) (bAnd .u64 (bAdd .u64 (bAnd .u64 (bShr .u64 p0 1) 6148914691236517205) (bAnd .u64 p0 6148914691236517205)) 3689348814741910323)) 4) (bAdd .u64 (bAnd .u64 (bShr .u64 (bAdd .u64 (bAnd .u64 (bShr .u64 p0 1) 6148914691236517205) (bAnd .u64 p0 6148914691236517205)) 2) 3689348814741910323) (bAnd .u64 (bAdd .u64 (bAnd .u64 (bShr .u64 p0 1) 6148914691236517205) (bAnd .u64 p0 6148914691236517205)) 3689348814741910323))) 1085102592571150095) 8)) 16)))), (2, .t (.int .i64 0))], [], []⟩ ?_
  refine Wp.srg [] [] ?_
  refine Runs.alln ?_
  refine Wp.fg ⟨[(0, .t (.int .u64 (bAdd .u64 (bAdd .u64 (bAdd .u64 (bAnd .u64 (bAdd .u64 (bShr .u64 (bAdd .u64 (bAnd .u64 (bShr .u64 (bAdd .u64 (bAnd .u64 (bShr .u64 p0 1) 6148914691236517205) (bAnd .u64 p0 6148914691236517205)) 2) 3689348814741910323) (bAnd .u64 (bAdd .u64 (bAnd .u64 (bShr .u64 p0 1) 6148914691236517205) (bAnd .u64 p0 6148914691236517205)) 3689348814741910323)) 4) (bAdd .u64 (bAnd .u64 (bShr .u64 (bAdd .u64 (bAnd .u64 (bShr .u64 p0 1) 6148914691236517205) (bAnd .u64 p0 6148914691236517205)) 2) 3689348814741910323) (bAnd .u64 (bAdd .u64 (bAnd .u64 (bShr .u64 p0 1) 6148914691236517205) (bAnd .u64 p0 6148914691236517205)) 3689348814741910323))) 1085102592571150095) (bShr .u64 (bAnd .u64 (bAdd .u64 (bShr .u64 (bAdd .u64 (bAnd .u64 (bShr .u64 (bAdd .u64 (bAnd .u64 (bShr .u64 p0 1) 6148914691236517205) (bAnd .u64 p0 6148914691236517205)) 2) 3689348814741910323) (bAnd .u64 (bAdd .u64 (bAnd .u64 (bShr .u64 p0 1) 6148914691236517205) (bAnd .u64 p0 6148914691236517205)) 3689348814741910323)) 4) (bAdd .u64 (bAnd .u64 (bShr .u64 (bAdd .u64 (bAnd .u64 (bShr .u64 p0 1) 6148914691236517205) (bAnd .u64 p0 6148914691236517205)) 2) 3689348814741910323) (bAnd .u64 (bAdd .u64 (bAnd .u64 (bShr .u64 p0 1) 6148914691236517205) (bAnd .u64 p0 6148914691236517205)) 3689348814741910323))) 1085102592571150095) 8)) (bShr .u64 (bAdd .u64 (bAnd .u64 (bAdd .u64 (bShr .u64 (bAdd .u64 (bAnd .u64 (bShr .u64 (bAdd .u64 (bAnd .u64 (bShr .u64 p0 1) 6148914691236517205) (bAnd .u64 p0 6148914691236517205)) 2) 3689348814741910323) (bAnd .u64 (bAdd .u64 (bAnd .u64 (bShr .u64 p0 1) 6148914691236517205) (bAnd .u64 p0 6148914691236517205)) 3689348814741910323)) 4) (bAdd .u64 (bAnd .u64 (bShr .u64 (bAdd .u64 (bAnd .u64 (bShr .u64 p0 1) 6148914691236517205) (bAnd .u64 p0 6148914691236517205)) 2) 3689348814741910323) (bAnd .u64 (bAdd .u64 (bAnd .u64 (bShr .u64 p0 1) 6148914691236517205) (bAnd .u64 p0 6148914691236517205)) 3689348814741910323))) 1085102592571150095) (bShr .u64 (bAnd .u64 (bAdd .u64 (bShr .u64 (bAdd .u64 (bAnd .u64 (bShr .u64 (bAdd .u64 (bAnd .u64 (bShr .u64 p0 1) 6148914691236517205) (bAnd .u64 p0 6148914691236517205)) 2) 3689348814741910323) (bAnd .u64 (bAdd .u64 (bAnd .u64 (bShr .u64 p0 1) 6148914691236517205) (bAnd .u64 p0 6148914691236517205)) 3689348814741910323)) 4) (bAdd .u64 (bAnd .u64 (bShr .u64 (bAdd .u64 (bAnd .u64 (bShr .u64 p0 1) 6148914691236517205) (bAnd .u64 p0 6148914691236517205)) 2) 3689348814741910323) (bAnd .u64 (bAdd .u64 (bAnd .u64 (bShr .u64 p0 1) 6148914691236517205) (bAnd .u64 p0 6148914691236517205)) 3689348814741910323))) 1085102592571150095) 8)) 16)) (bShr .u64 (bAdd .u64 (bAdd .u64 (bAnd .u64 (bAdd .u64 (bShr .u64 (bAdd .u64 (bAnd .u64 (bShr .u64 (bAdd .u64 (bAnd .u64 (bShr .u64 p0 1) 6148914691236517205) (bAnd .u64 p0 6148914691236517205)) 2) 3689348814741910323) (bAnd .u64 (bAdd .u64 (bAnd .u64 (bShr .u64 p0 1) 6148914691236517205) (bAnd .u64 p0 6148914691236517205)) 3689348814741910323)) 4) (bAdd .u64 (bAnd .u64 (bShr .u64 (bAdd .u64 (bAnd .u64 (bShr .u64 p0 1) 6148914691236517205) (bAnd .u64 p0 6148914691236517205)) 2) 3689348814741910323) (bAnd .u64 (bAdd .u64 (bAnd .u64 (bShr .u64 p0 1) 6148914691236517205) (bAnd .u64 p0 6148914691236517205)) 3689348814741910323))) 1085102592571150095) (bShr .u64 (bAnd .u64 (bAdd .u64 (bShr .u64 (bAdd .u64 (bAnd .u64 (bShr .u64 (bAdd .u64 (bAnd .u64 (bShr .u64 p0 1) 6148914691236517205) (bAnd .u64 p0 6148914691236517205)) 2) 3689348814741910323) (bAnd .u64 (bAdd .u64 (bAnd .u64 (bShr .u64 p0 1) 6148914691236517205) (bAnd .u64 p0 6148914691236517205)) 3689348814741910323)) 4) (bAdd .u64 (bAnd .u64 (bShr .u64 (bAdd .u64 (bAnd .u64 (bShr .u64 p0 1) 6148914691236517205) (bAnd .u64 p0 6148914691236517205)) 2) 3689348814741910323) (bAnd .u64 (bAdd .u64 (bAnd .u64 (bShr .u64 p0 1) 6148914691236517205) (bAnd .u64 p0 6148914691236517205)) 3689348814741910323))) 1085102592571150095) 8)) (bShr .u64 (bAdd .u64 (bAnd .u64 (bAdd .u64 (bShr .u64 (bAdd .u64 (bAnd .u64 (bShr .u64 (bAdd .u64 (bAnd .u64 (bShr .u64 p0 1) 6148914691236517205) (bAnd .u64 p0 6148914691236517205)) 2) 3689348814741910323) (bAnd .u64 (bAdd .u64 (bAnd .u64 (bShr .u64 p0 1) 6148914691236517205) (bAnd .u64 p0 6148914691236517205)) 3689348814741910323)) 4) (bAdd .u64 (bAnd .u64 (bShr .u64 (bAdd .u64 (bAnd .u64 (bShr .u64 p0 1) 6148914691236517205) (bAnd .u64 p0 6148914691236517205)) 2) 3689348814741910323) (bAnd .u64 (bAdd .u64 (bAnd .u64 (bShr .u64 p0 1) 6148914691236517205) (bAnd .u64 p0 6148914691236517205)) 3689348814741910323))) 1085102592571150095) (bShr .u64 (bAnd .u64 (bAdd .u64 (bShr .u64 (bAdd .u64 (bAnd .u64 (bShr .u64 (bAdd .u64 (bAnd .u64 (bShr .u64 p0 1) 6148914691236517205) (bAnd .u64 p0 6148914691236517205)) 2) 3689348814741910323) (bAnd .u64 (bAdd .u64 (bAnd .u64 (bShr .u64 p0 1) 6148914691236517205) (bAnd .u64 p0 6148914691236517205)) 3689348814741910323)) 4) (bAdd .u64 (bAnd .u64 (bShr .u64 (bAdd .u64 (bAnd .u64 (bShr .u64 p0 1) 6148914691236517205) (bAnd .u64 p0 6148914691236517205)) 2) 3689348814741910323) (bAnd .u64 (bAdd .u64 (bAnd .u64 (bShr .u64 p0 1) 6148914691236517205) (bAnd .u64 p0 6148914691236517205)) 3689348814741910323))) 1085102592571150095) 8)) 16)) 32)))), (2, .t (.int .i64 0))], [], []⟩ ?_
  refine Wp.srg [] [] ?_
  refine Runs.alln ?_
  refine Wp.fg ⟨[(2, .t (.int .i64 (bAnd .i64 (IntKind.wrap .i64 (bAdd .u64 (bAdd .u64 (bAdd .u64 (bAnd .u64 (bAdd .u64 (bShr .u64 (bAdd .u64 (bAnd .u64 (bShr .u64 (bAdd .u64 (bAnd .u64 (bShr .u64 p0 1) 6148914691236517205) (bAnd .u64 p0 6148914691236517205)) 2) 3689348814741910323) (bAnd .u64 (bAdd .u64 (bAnd .u64 (bShr .u64 p0 1) 6148914691236517205) (bAnd .u64 p0 6148914691236517205)) 3689348814741910323)) 4) (bAdd .u64 (bAnd .u64 (bShr .u64 (bAdd .u64 (bAnd .u64 (bShr .u64 p0 1) 6148914691236517205) (bAnd .u64 p0 6148914691236517205)) 2) 3689348814741910323) (bAnd .u64 (bAdd .u64 (bAnd .u64 (bShr .u64 p0 1) 6148914691236517205) (bAnd .u64 p0 6148914691236517205)) 3689348814741910323))) 1085102592571150095) (bShr .u64 (bAnd .u64 (bAdd .u64 (bShr .u64 (bAdd .u64 (bAnd .u64 (bShr .u64 (bAdd .u64 (bAnd .u64 (bShr .u64 p0 1) 6148914691236517205) (bAnd .u64 p0 6148914691236517205)) 2) 3689348814741910323) (bAnd .u64 (bAdd .u64 (bAnd .u64 (bShr .u64 p0 1) 6148914691236517205) (bAnd .u64 p0 6148914691236517205)) 3689348814741910323)) 4) (bAdd .u64 (bAnd .u64 (bShr .u64 (bAdd .u64 (bAnd .u64 (bShr .u64 p0 1) 6148914691236517205) (bAnd .u64 p0 6148914691236517205)) 2) 3689348814741910323) (bAnd .u64 (bAdd .u64 (bAnd .u64 (bShr .u64 p0 1) 6148914691236517205) (bAnd .u64 p0 6148914691236517205)) 3689348814741910323))) 1085102592571150095) 8)) (bShr .u64 (bAdd .u64 (bAnd .u64 (bAdd .u64 (bShr .u64 (bAdd .u64 (bAnd .u64 (bShr .u64 (bAdd .u64 (bAnd .u64 (bShr .u64 p0 1) 6148914691236517205) (bAnd .u64 p0 6148914691236517205)) 2) 3689348814741910323) (bAnd .u64 (bAdd .u64 (bAnd .u64 (bShr .u64 p0 1) 6148914691236517205) (bAnd .u64 p0 6148914691236517205)) 3689348814741910323)) 4) (bAdd .u64 (bAnd .u64 (bShr .u64 (bAdd .u64 (bAnd .u64 (bShr .u64 p0 1) 6148914691236517205) (bAnd .u64 p0 6148914691236517205)) 2) 3689348814741910323) (bAnd .u64 (bAdd .u64 (bAnd .u64 (bShr .u64 p0 1) 6148914691236517205) (bAnd .u64 p0 6148914691236517205)) 3689348814741910323))) 1085102592571150095) (bShr .u64 (bAnd .u64 (bAdd .u64 (bShr .u64 (bAdd .u64 (bAnd .u64 (bShr .u64 (bAdd .u64 (bAnd .u64 (bShr .u64 p0 1) 6148914691236517205) (bAnd .u64 p0 6148914691236517205)) 2) 3689348814741910323) (bAnd .u64 (bAdd .u64 (bAnd .u64 (bShr .u64 p0 1) 6148914691236517205) (bAnd .u64 p0 6148914691236517205)) 3689348814741910323)) 4) (bAdd .u64 (bAnd .u64 (bShr .u64 (bAdd .u64 (bAnd .u64 (bShr .u64 p0 1) 6148914691236517205) (bAnd .u64 p0 6148914691236517205)) 2) 3689348814741910323) (bAnd .u64 (bAdd .u64 (bAnd .u64 (bShr .u64 p0 1) 6148914691236517205) (bAnd .u64 p0 6148914691236517205)) 3689348814741910323))) 1085102592571150095) 8)) 16)) (bShr .u64 (bAdd .u64 (bAdd .u64 (bAnd .u64 (bAdd .u64 (bShr .u64 (bAdd .u64 (bAnd .u64 (bShr .u64 (bAdd .u64 (bAnd .u64 (bShr .u64 p0 1) 6148914691236517205) (bAnd .u64 p0 6148914691236517205)) 2) 3689348814741910323) (bAnd .u64 (bAdd .u64 (bAnd .u64 (bShr .u64 p0 1) 6148914691236517205) (bAnd .u64 p0 6148914691236517205)) 3689348814741910323)) 4) (bAdd .u64 (bAnd .u64 (bShr .u64 (bAdd .u64 (bAnd .u64 (bShr .u64 p0 1) 6148914691236517205) (bAnd .u64 p0 6148914691236517205)) 2) 3689348814741910323) (bAnd .u64 (bAdd .u64 (bAnd .u64 (bShr .u64 p0 1) 6148914691236517205) (bAnd .u64 p0 6148914691236517205)) 3689348814741910323))) 1085102592571150095) (bShr .u64 (bAnd .u64 (bAdd .u64 (bShr .u64 (bAdd .u64 (bAnd .u64 (bShr .u64 (bAdd .u64 (bAnd .u64 (bShr .u64 p0 1) 6148914691236517205) (bAnd .u64 p0 6148914691236517205)) 2) 3689348814741910323) (bAnd .u64 (bAdd .u64 (bAnd .u64 (bShr .u64 p0 1) 6148914691236517205) (bAnd .u64 p0 6148914691236517205)) 3689348814741910323)) 4) (bAdd .u64 (bAnd .u64 (bShr .u64 (bAdd .u64 (bAnd .u64 (bShr .u64 p0 1) 6148914691236517205) (bAnd .u64 p0 6148914691236517205)) 2) 3689348814741910323) (bAnd .u64 (bAdd .u64 (bAnd .u64 (bShr .u64 p0 1) 6148914691236517205) (bAnd .u64 p0 6148914691236517205)) 3689348814741910323))) 1085102592571150095) 8)) (bShr .u64 (bAdd .u64 (bAnd .u64 (bAdd .u64 (bShr .u64 (bAdd .u64 (bAnd .u64 (bShr .u64 (bAdd .u64 (bAnd .u64 (bShr .u64 p0 1) 6148914691236517205) (bAnd .u64 p0 6148914691236517205)) 2) 3689348814741910323) (bAnd .u64 (bAdd .u64 (bAnd .u64 (bShr .u64 p0 1) 6148914691236517205) (bAnd .u64 p0 6148914691236517205)) 3689348814741910323)) 4) (bAdd .u64 (bAnd .u64 (bShr .u64 (bAdd .u64 (bAnd .u64 (bShr .u64 p0 1) 6148914691236517205) (bAnd .u64 p0 6148914691236517205)) 2) 3689348814741910323) (bAnd .u64 (bAdd .u64 (bAnd .u64 (bShr .u64 p0 1) 6148914691236517205) (bAnd .u64 p0 6148914691236517205)) 3689348814741910323))) 1085102592571150095) (bShr .u64 (bAnd .u64 (bAdd .u64 (bShr .u64 (bAdd .u64 (bAnd .u64 (bShr .u64 (bAdd .u64 (bAnd .u64 (bShr .u64 p0 1) 6148914691236517205) (bAnd .u64 p0 6148914691236517205)) 2) 3689348814741910323) (bAnd .u64 (bAdd .u64 (bAnd .u64 (bShr .u64 p0 1) 6148914691236517205) (bAnd .u64 p0 6148914691236517205)) 3689348814741910323)) 4) (bAdd .u64 (bAnd .u64 (bShr .u64 (bAdd .u64 (bAnd .u64 (bShr .u64 p0 1) 6148914691236517205) (bAnd .u64 p0 6148914691236517205)) 2) 3689348814741910323) (bAnd .u64 (bAdd .u64 (bAnd .u64 (bShr .u64 p0 1) 6148914691236517205) (bAnd .u64 p0 6148914691236517205)) 3689348814741910323))) 1085102592571150095) 8)) 16)) 32))) 127)))], [], []⟩ ?_
  refine Wp.ret ?_
  obtain rfl := Option.some.inj h
  exact RetK [.t (.int .i64 (bAnd .i64 (IntKind.wrap .i64 (bAdd .u64 (bAdd .u64 (bAdd .u64 (bAnd .u64 (bAdd .u64 (bShr .u64 (bAdd .u64 (bAnd .u64 (bShr .u64 (bAdd .u64 (bAnd .u64 (bShr .u64 p0 1) 6148914691236517205) (bAnd .u64 p0 6148914691236517205)) 2) 3689348814741910323) (bAnd .u64 (bAdd .u64 (bAnd .u64 (bShr .u64 p0 1) 6148914691236517205) (bAnd .u64 p0 6148914691236517205)) 3689348814741910323)) 4) (bAdd .u64 (bAnd .u64 (bShr .u64 (bAdd .u64 (bAnd .u64 (bShr .u64 p0 1) 6148914691236517205) (bAnd .u64 p0 6148914691236517205)) 2) 3689348814741910323) (bAnd .u64 (bAdd .u64 (bAnd .u64 (bShr .u64 p0 1) 6148914691236517205) (bAnd .u64 p0 6148914691236517205)) 3689348814741910323))) 1085102592571150095) (bShr .u64 (bAnd .u64 (bAdd .u64 (bShr .u64 (bAdd .u64 (bAnd .u64 (bShr .u64 (bAdd .u64 (bAnd .u64 (bShr .u64 p0 1) 6148914691236517205) (bAnd .u64 p0 6148914691236517205)) 2) 3689348814741910323) (bAnd .u64 (bAdd .u64 (bAnd .u64 (bShr .u64 p0 1) 6148914691236517205) (bAnd .u64 p0 6148914691236517205)) 3689348814741910323)) 4) (bAdd .u64 (bAnd .u64 (bShr .u64 (bAdd .u64 (bAnd .u64 (bShr .u64 p0 1) 6148914691236517205) (bAnd .u64 p0 6148914691236517205)) 2) 3689348814741910323) (bAnd .u64 (bAdd .u64 (bAnd .u64 (bShr .u64 p0 1) 6148914691236517205) (bAnd .u64 p0 6148914691236517205)) 3689348814741910323))) 1085102592571150095) 8)) (bShr .u64 (bAdd .u64 (bAnd .u64 (bAdd .u64 (bShr .u64 (bAdd .u64 (bAnd .u64 (bShr .u64 (bAdd .u64 (bAnd .u64 (bShr .u64 p0 1) 6148914691236517205) (bAnd .u64 p0 6148914691236517205)) 2) 3689348814741910323) (bAnd .u64 (bAdd .u64 (bAnd .u64 (bShr .u64 p0 1) 6148914691236517205) (bAnd .u64 p0 6148914691236517205)) 3689348814741910323)) 4) (bAdd .u64 (bAnd .u64 (bShr .u64 (bAdd .u64 (bAnd .u64 (bShr .u64 p0 1) 6148914691236517205) (bAnd .u64 p0 6148914691236517205)) 2) 3689348814741910323) (bAnd .u64 (bAdd .u64 (bAnd .u64 (bShr .u64 p0 1) 6148914691236517205) (bAnd .u64 p0 6148914691236517205)) 3689348814741910323))) 1085102592571150095) (bShr .u64 (bAnd .u64 (bAdd .u64 (bShr .u64 (bAdd .u64 (bAnd .u64 (bShr .u64 (bAdd .u64 (bAnd .u64 (bShr .u64 p0 1) 6148914691236517205) (bAnd .u64 p0 6148914691236517205)) 2) 3689348814741910323) (bAnd .u64 (bAdd .u64 (bAnd .u64 (bShr .u64 p0 1) 6148914691236517205) (bAnd .u64 p0 6148914691236517205)) 3689348814741910323)) 4) (bAdd .u64 (bAnd .u64 (bShr .u64 (bAdd .u64 (bAnd .u64 (bShr .u64 p0 1) 6148914691236517205) (bAnd .u64 p0 6148914691236517205)) 2) 3689348814741910323) (bAnd .u64 (bAdd .u64 (bAnd .u64 (bShr .u64 p0 1) 6148914691236517205) (bAnd .u64 p0 6148914691236517205)) 3689348814741910323))) 1085102592571150095) 8)) 16)) (bShr .u64 (bAdd .u64 (bAdd .u64 (bAnd .u64 (bAdd .u64 (bShr .u64 (bAdd .u64 (bAnd .u64 (bShr .u64 (bAdd .u64 (bAnd .u64 (bShr .u64 p0 1) 6148914691236517205) (bAnd .u64 p0 6148914691236517205)) 2) 3689348814741910323) (bAnd .u64 (bAdd .u64 (bAnd .u64 (bShr .u64 p0 1) 6148914691236517205) (bAnd .u64 p0 6148914691236517205)) 3689348814741910323)) 4) (bAdd .u64 (bAnd .u64 (bShr .u64 (bAdd .u64 (bAnd .u64 (bShr .u64 p0 1) 6148914691236517205) (bAnd .u64 p0 6148914691236517205)) 2) 3689348814741910323) (bAnd .u64 (bAdd .u64 (bAnd .u64 (bShr .u64 p0 1) 6148914691236517205) (bAnd .u64 p0 6148914691236517205)) 3689348814741910323))) 1085102592571150095) (bShr .u64 (bAnd .u64 (bAdd .u64 (bShr .u64 (bAdd .u64 (bAnd .u64 (bShr .u64 (bAdd .u64 (bAnd .u64 (bShr .u64 p0 1) 6148914691236517205) (bAnd .u64 p0 6148914691236517205)) 2) 3689348814741910323) (bAnd .u64 (bAdd .u64 (bAnd .u64 (bShr .u64 p0 1) 6148914691236517205) (bAnd .u64 p0 6148914691236517205)) 3689348814741910323)) 4) (bAdd .u64 (bAnd .u64 (bShr .u64 (bAdd .u64 (bAnd .u64 (bShr .u64 p0 1) 6148914691236517205) (bAnd .u64 p0 6148914691236517205)) 2) 3689348814741910323) (bAnd .u64 (bAdd .u64 (bAnd .u64 (bShr .u64 p0 1) 6148914691236517205) (bAnd .u64 p0 6148914691236517205)) 3689348814741910323))) 1085102592571150095) 8)) (bShr .u64 (bAdd .u64 (bAnd .u64 (bAdd .u64 (bShr .u64 (bAdd .u64 (bAnd .u64 (bShr .u64 (bAdd .u64 (bAnd .u64 (bShr .u64 p0 1) 6148914691236517205) (bAnd .u64 p0 6148914691236517205)) 2) 3689348814741910323) (bAnd .u64 (bAdd .u64 (bAnd .u64 (bShr .u64 p0 1) 6148914691236517205) (bAnd .u64 p0 6148914691236517205)) 3689348814741910323)) 4) (bAdd .u64 (bAnd .u64 (bShr .u64 (bAdd .u64 (bAnd .u64 (bShr .u64 p0 1) 6148914691236517205) (bAnd .u64 p0 6148914691236517205)) 2) 3689348814741910323) (bAnd .u64 (bAdd .u64 (bAnd .u64 (bShr .u64 p0 1) 6148914691236517205) (bAnd .u64 p0 6148914691236517205)) 3689348814741910323))) 1085102592571150095) (bShr .u64 (bAnd .u64 (bAdd .u64 (bShr .u64 (bAdd .u64 (bAnd .u64 (bShr .u64 (bAdd .u64 (bAnd .u64 (bShr .u64 p0 1) 6148914691236517205) (bAnd .u64 p0 6148914691236517205)) 2) 3689348814741910323) (bAnd .u64 (bAdd .u64 (bAnd .u64 (bShr .u64 p0 1) 6148914691236517205) (bAnd .u64 p0 6148914691236517205)) 3689348814741910323)) 4) (bAdd .u64 (bAnd .u64 (bShr .u64 (bAdd .u64 (bAnd .u64 (bShr .u64 p0 1) 6148914691236517205) (bAnd .u64 p0 6148914691236517205)) 2) 3689348814741910323) (bAnd .u64 (bAdd .u64 (bAnd .u64 (bShr .u64 p0 1) 6148914691236517205) (bAnd .u64 p0 6148914691236517205)) 3689348814741910323))) 1085102592571150095) 8)) 16)) 32))) 127))] _ [] kr kr (.refl _) .nil
theorem impl_CountSet_ok (u : Nat) (p0 : Int) (r : Int) (h : impl_CountSet u p0 = some r) : CallOK Tryz.prog 86 [.one (.t (.int .i64 p0))] (.one (.t (.int .i64 r))) [] := by
  unfold impl_CountSet at h
  refine CallOK.of_bodyK (fn := Tryz.f86) (m := false) [.t (.int .i64 p0)] kr rfl kr kr kr kr kr ?_
  refine Wp.srg [] [] ?_
  refine Runs.alln ?_
  refine Wp.fg ⟨[(0, .t (.int .i64 p0)), (2, .t (.int .i64 0))], [], []⟩ ?_
  refine Wp.seq ?_
  refine Wp.srg [] [] ?_
  refine Runs.batch 1 kr ?_
  obtain ⟨r1, e_r1, h⟩ := bind_some h
  refine Runs.callK false 4 125 [] [.t (.int .i64 p0)] _ _ _ rfl rfl kr kr kr kr kr (impl_SetOk_ok u p0 r1 e_r1) kr ?_
  refine Runs.alln ?_
  refine Wp.fg ⟨[(0, .t (.int .i64 p0)), (2, .t (.int .i64 0)), (5, .t (.bool (!r1)))], [], []⟩ ?_
  refine Wp.cond2 (b := !r1) kr (fun hc => ?_) (fun hc => ?_)
  · have h := cond_t h hc
    refine Wp.srg [] [] ?_
    refine Runs.alln ?_
    refine Wp.fg ⟨[(0, .t (.int .i64 p0)), (2, .t (.int .i64 0))], [], []⟩ ?_
    refine Wp.ret ?_
    refine thenR ?_
    obtain rfl := Option.some.inj h
    exact RetK [.t (.int .i64 0)] _ [] kr kr (.refl _) .nil
  have h := cond_f h hc
  refine Wp.skip (thenN ?_)
  refine Wp.srg [] [] ?_
  refine Runs.batch 2 kr ?_
  obtain ⟨r2, e_r2, h⟩ := bind_some h
  refine Runs.callK false 8 126 [] [.t (.int .u64 (IntKind.wrap .u64 p0))] _ _ _ rfl rfl kr kr kr kr kr (bits_OnesCount64_ok u (IntKind.wrap .u64 p0) r2 e_r2) kr ?_
  refine Runs.alln ?_
  refine Wp.fg ⟨[(2, .t (.int .i64 r2))], [], []⟩ ?_
  refine Wp.ret ?_
  obtain rfl := Option.some.inj h
  exact RetK [.t (.int .i64 r2)] _ [] kr kr (.refl _) .nil
def laysItoa_ren : Go.Shelf.Ren := ⟨fun | 171 => 106 | 243 => 157 | 246 => 192 | 283 => 200 | 284 => 201 | 285 => 202 | 286 => 203 | 129 => 207 | 317 => 206 | 318 => 208 | 319 => 209 | 320 => 210 | 337 => 212 | 338 => 213 | n => n, fun | 3 => 3 | 9 => 9 | 2 => 2 | 4 => 4 | 171 => 229 | 0 => 0 | 53 => 175 | 37 => 22 | 5 => 5 | 173 => 231 | 212 => 235 | 51 => 236 | 20 => 20 | 213 => 237 | 46 => 209 | 232 => 242 | 233 => 243 | n => n, fun | 17 => 1 | 18 => 2 | 19 => 3 | n => n⟩
theorem laysItoa : Go.Proofs.LaysM.n171 Tryz.prog laysItoa_ren := {
  mixed := by kernel_rfl,
  f129 := Tryz.func207.trans (congrArg some kr),
  f171 := Tryz.func106.trans (congrArg some kr),
  f243 := Tryz.func157.trans (congrArg some kr),
  f246 := Tryz.func192.trans (congrArg some kr),
  f283 := Tryz.func200.trans (congrArg some kr),
  f284 := Tryz.func201.trans (congrArg some kr),
  f285 := Tryz.func202.trans (congrArg some kr),
  f286 := Tryz.func203.trans (congrArg some kr),
  f317 := Tryz.func206.trans (congrArg some kr),
  f318 := Tryz.func208.trans (congrArg some kr),
  f319 := Tryz.func209.trans (congrArg some kr),
  f320 := Tryz.func210.trans (congrArg some kr),
  f337 := Tryz.func212.trans (congrArg some kr),
  f338 := Tryz.func213.trans (congrArg some kr),
  t0 := Tryz.underlying0,
  a0 := Tryz.isAgg0,
  z0 := Tryz.sizeOf0,
  v0 := Tryz.zeroValue0,
  t2 := Tryz.underlying2,
  a2 := Tryz.isAgg2,
  z2 := Tryz.sizeOf2,
  v2 := Tryz.zeroValue2,
  t3 := Tryz.underlying3,
  a3 := Tryz.isAgg3,
  z3 := Tryz.sizeOf3,
  v3 := Tryz.zeroValue3,
  t4 := Tryz.underlying4,
  a4 := Tryz.isAgg4,
  z4 := Tryz.sizeOf4,
  v4 := Tryz.zeroValue4,
  t5 := Tryz.underlying5,
  a5 := Tryz.isAgg5,
  z5 := Tryz.sizeOf5,
  v5 := Tryz.zeroValue5,
  t9 := Tryz.underlying9,
  a9 := Tryz.isAgg9,
  z9 := Tryz.sizeOf9,
  v9 := Tryz.zeroValue9,
  t20 := Tryz.underlying20,
  a20 := Tryz.isAgg20,
  z20 := Tryz.sizeOf20,
  v20 := Tryz.zeroValue20,
  t37 := Tryz.underlying22,
  a37 := Tryz.isAgg22,
  z37 := Tryz.sizeOf22,
  v37 := Tryz.zeroValue22,
  t46 := Tryz.underlying209,
  a46 := Tryz.isAgg209,
  z46 := Tryz.sizeOf209,
  v46 := Tryz.zeroValue209,
  t51 := Tryz.underlying236,
  a51 := Tryz.isAgg236,
  z51 := Tryz.sizeOf236,
  v51 := Tryz.zeroValue236,
  t53 := Tryz.underlying175,
  a53 := Tryz.isAgg175,
  z53 := Tryz.sizeOf175,
  v53 := Tryz.zeroValue175,
  t171 := Tryz.underlying229,
  a171 := Tryz.isAgg229,
  z171 := Tryz.sizeOf229,
  v171 := Tryz.zeroValue229,
  t173 := Tryz.underlying231,
  a173 := Tryz.isAgg231,
  z173 := Tryz.sizeOf231,
  v173 := Tryz.zeroValue231,
  t212 := Tryz.underlying235,
  a212 := Tryz.isAgg235,
  z212 := Tryz.sizeOf235,
  v212 := Tryz.zeroValue235,
  t213 := Tryz.underlying237,
  a213 := Tryz.isAgg237,
  z213 := Tryz.sizeOf237,
  t232 := Tryz.underlying242,
  a232 := Tryz.isAgg242,
  z232 := Tryz.sizeOf242,
  v232 := Tryz.zeroValue242,
  t233 := Tryz.underlying243,
  a233 := Tryz.isAgg243,
  z233 := Tryz.sizeOf243,
  v233 := Tryz.zeroValue243,
  g17 := by kernel_rfl,
  g18 := by kernel_rfl,
  g19 := by kernel_rfl,
  i0 := by kernel_rfl,
  i2 := by kernel_rfl,
  i3 := by kernel_rfl,
  i4 := by kernel_rfl,
  i5 := by kernel_rfl,
  i9 := by kernel_rfl,
  i20 := by kernel_rfl,
  i37 := by kernel_rfl,
  i46 := by kernel_rfl,
  i51 := by kernel_rfl,
  i53 := by kernel_rfl,
  i171 := by kernel_rfl,
  i173 := by kernel_rfl,
  i212 := by kernel_rfl,
  i232 := by kernel_rfl,
  i233 := by kernel_rfl,
  m17 := by kernel_rfl,
  m18 := by kernel_rfl,
  m19 := by kernel_rfl }
theorem strconv_Itoa_ok (u : Nat) (p0 : Int) (r : ByteArray) (h : strconv_Itoa u p0 = some r) : CallOK Tryz.prog 106 [.one (.t (.int .i64 p0))] (.one (.t (.str r))) [] :=
  itoa_call ⟨_, Tryz.func106, by kernel_rfl, by kernel_rfl⟩ (k := 1) kr (fun n h0 h1 w ht => Go.Proofs.Any.strconv_Itoa laysItoa n h0 h1 w ht) h
theorem impl_NumText_ok (u : Nat) (p0 : Int) (r : ByteArray) (h : impl_NumText u p0 = some r) : CallOK Tryz.prog 64 [.one (.t (.int .i64 p0))] (.one (.t (.str r))) [] := by
  unfold impl_NumText at h
  refine CallOK.of_bodyK (fn := Tryz.f64) (m := false) [.t (.int .i64 p0)] kr rfl kr kr kr kr kr ?_
  refine Wp.srg [] [] ?_
  refine Runs.alln ?_
  refine Wp.fg ⟨[(0, .t (.int .i64 p0)), (2, .t (.str ((ByteArray.mk #[]))))], [], []⟩ ?_
  refine Wp.srg [] [] ?_
  refine Runs.batch 1 kr ?_
  obtain ⟨r1, e_r1, h⟩ := bind_some h
  refine Runs.callK false 4 106 [] [.t (.int .i64 p0)] _ _ _ rfl rfl kr kr kr kr kr (strconv_Itoa_ok u p0 r1 e_r1) kr ?_
  refine Runs.alln ?_
  refine Wp.fg ⟨[(2, .t (.str r1))], [], []⟩ ?_
  refine Wp.ret ?_
  obtain rfl := Option.some.inj h
  exact RetK [.t (.str r1)] _ [] kr kr (.refl _) .nil
theorem impl_NodeText_ok (u : Nat) (p0 : Node) (r : ByteArray) (h : impl_NodeText u p0 = some r) : CallOK Tryz.prog 52 [.agg [.t (.bool p0.fOn), .t (.int .i64 p0.fBoss), .t (.int .i64 p0.fQuiet), .t (.int .i64 p0.fMan.fGen), .t (.int .i64 p0.fMan.fSize), .t (.int .i64 p0.fMan.fLen), .t (.sl 2 (p0.fMan.fSums.map Sum.enc)), .t (.int .i64 p0.fBld.fHave), .t (.sl 1 (p0.fBld.fBuf.map (eInt .u8))), .t (.int .i64 p0.fPhase), .t (.sl 5 (p0.fKids.map Kid.enc)), .t (.int .i64 p0.fDrops)]] (.one (.t (.str r))) [] := by
  unfold impl_NodeText at h
  refine CallOK.of_bodyK (fn := Tryz.f52) (m := false) [.agg ((Node.enc p0).map .t)] kr rfl kr kr kr kr kr ?_
  refine Wp.srg [] [] ?_
  refine Runs.alln ?_
  refine Wp.fg ⟨[(1, .obj 1 0), (2, .t (.str ((ByteArray.mk #[]))))], [(1, ((Node.enc p0).map .t))], []⟩ ?_
  refine Wp.seq ?_
  refine Wp.srg [] [] ?_
  refine Runs.alln ?_
  refine Wp.fg ⟨[(1, .obj 1 0), (2, .t (.str ((ByteArray.mk #[])))), (8, .t (.bool (!p0.fOn)))], [(1, ((Node.enc p0).map .t))], []⟩ ?_
  refine Wp.cond2 (b := !p0.fOn) kr (fun hc => ?_) (fun hc => ?_)
  · have h := cond_t h hc
    refine Wp.srg [] [] ?_
    refine Runs.alln ?_
    refine Wp.fg ⟨[(1, .obj 1 0), (2, .t (.str ((ByteArray.mk #[111, 102, 102]))))], [(1, ((Node.enc p0).map .t))], []⟩ ?_
    refine Wp.ret ?_
    refine thenR ?_
    obtain rfl := Option.some.inj h
    exact RetK [.t (.str ((ByteArray.mk #[111, 102, 102])))] _ [] kr kr (.refl _) .nil
  have h := cond_f h hc
  refine Wp.skip (thenN ?_)
  refine Wp.srg [] [] ?_
  refine Runs.batch 2 kr ?_
  obtain ⟨r1, e_r1, h⟩ := bind_some h
  refine Runs.callK false 11 85 [] [.t (.int .i64 p0.fPhase)] _ _ _ rfl rfl kr kr kr kr kr (impl_PhName_ok u p0.fPhase r1 e_r1) kr ?_
  refine Runs.alln ?_
  refine Wp.fg ⟨[(1, .obj 1 0), (2, .t (.str ((ByteArray.mk #[])))), (3, .t (.str r1))], [(1, ((Node.enc p0).map .t))], []⟩ ?_
  refine Wp.seqJ (α := ByteArray) (fun a => ⟨[(2, .t (.str ((ByteArray.mk #[])))), (3, .t (.str a))], [], []⟩) (fun a => impl_NodeText_j1 u a = some r) ?_ ?_
  · rintro x11 h
    change impl_NodeText_j1 u x11 = some r at h
    unfold impl_NodeText_j1 at h
    refine Wp.srg [] [] ?_
    refine Runs.alln ?_
    refine Wp.fg ⟨[(2, .t (.str x11))], [], []⟩ ?_
    refine Wp.ret ?_
    obtain rfl := Option.some.inj h
    exact RetK [.t (.str x11)] _ [] kr kr (.refl _) .nil
  · refine Wp.seq ?_
    refine Wp.regionA (pOf []) (rhoOf [(1, .obj 1), (12, .obj 1), (13, .frz), (14, .obj 1), (15, .obj 1), (16, .frz), (17, .frz), (18, .obj 1), (19, .frz), (20, .frz), (21, .obj 1), (22, .frz), (23, .own 23)]) kr kr ?_
    refine Runs.batch 5 kr ?_
    obtain ⟨r2, e_r2, h⟩ := bind_some h
    refine Runs.callK false 17 86 [] [.t (.int .i64 p0.fBld.fHave)] _ _ _ rfl rfl kr kr kr kr kr (impl_CountSet_ok u p0.fBld.fHave r2 e_r2) kr ?_
    refine Runs.batch 2 kr ?_
    refine Runs.lenT (y := .t (.sl 5 (p0.fKids.map Kid.enc))) (e := 200) Kid.enc p0.fKids 5 rfl rfl rfl kr kr kr kr kr ?_
    refine Runs.batch 3 kr ?_
    refine Runs.lenT (y := .own 1507328) (e := 3) (eInt .i64) ([p0.fBoss, r2, (p0.fKids.length : Int), p0.fDrops]) 1 rfl rfl rfl kr kr kr kr kr ?_
    refine Runs.alln ?_
    refine Wp.fg ⟨[(2, .t (.str ((ByteArray.mk #[])))), (3, .t (.str r1)), (23, .own 1507328), (24, .t (.int .i64 ((([p0.fBoss, r2, (p0.fKids.length : Int), p0.fDrops]).length : Int)))), (25, .t (.int .i64 0))], [], [(1507328, .live 3 1 (([p0.fBoss, r2, (p0.fKids.length : Int), p0.fDrops]).map (eInt .i64)))]⟩ ?_
    refine Wp.block ?_
    refine Wp.loopF (α := ByteArray × Node × Int × Int) (fun a => ⟨[(2, .t (.str ((ByteArray.mk #[])))), (3, .t (.str a.1)), (23, .own 1507329), (24, .t (.int .i64 ((([a.2.1.fBoss, a.2.2.1, (a.2.1.fKids.length : Int), a.2.1.fDrops]).length : Int)))), (25, .t (.int .i64 a.2.2.2))], [], [(1507329, .live 3 1 (([a.2.1.fBoss, a.2.2.1, (a.2.1.fKids.length : Int), a.2.1.fDrops]).map (eInt .i64)))]⟩) (fun k_impl_NodeText_l2 a => impl_NodeText_l2 u k_impl_NodeText_l2 a.1 a.2.1 a.2.2.1 a.2.2.2 = some r) ?_ ?_ u (r1, p0, r2, 0) h (Le.of (mo := []) (mr := [(1507329, 1507328)]) kr kr kr kr)
    · intro a h; unfold impl_NodeText_l2 at h; cases h
    · rintro k_impl_NodeText_l2 ⟨x5, p0, r2, x6⟩ h
      change impl_NodeText_l2 u (k_impl_NodeText_l2 + 1) x5 p0 r2 x6 = some r at h
      rw [impl_NodeText_l2] at h
      refine Wp.srg [] [] ?_
      refine Runs.alln ?_
      refine Wp.fg ⟨[(2, .t (.str ((ByteArray.mk #[])))), (3, .t (.str x5)), (23, .own 1507329), (24, .t (.int .i64 ((([p0.fBoss, r2, (p0.fKids.length : Int), p0.fDrops]).length : Int)))), (25, .t (.int .i64 x6)), (26, .t (.bool (decide (x6 < ((([p0.fBoss, r2, (p0.fKids.length : Int), p0.fDrops]).length : Int))))))], [], [(1507329, .live 3 1 (([p0.fBoss, r2, (p0.fKids.length : Int), p0.fDrops]).map (eInt .i64)))]⟩ ?_
      refine Wp.seq ?_
      refine Wp.cond2 (b := decide (x6 < ((([p0.fBoss, r2, (p0.fKids.length : Int), p0.fDrops]).length : Int)))) kr (fun hc => ?_) (fun hc => ?_)
      · have h := cond_t h hc
        refine Wp.skip (thenN ?_)
        refine Wp.seq ?_
        refine Wp.block ?_
        refine Wp.srg [] [] ?_
        obtain ⟨y9, e_y9, h⟩ := bind_some h
        refine Runs.idxO (e := 3) (e' := 3) (kk := .i64) (sz := 1) (eInt .i64) ([p0.fBoss, r2, (p0.fKids.length : Int), p0.fDrops]) x6 1507329 rfl kr kr kr kr kr kr kr e_y9 ?_
        refine Runs.loadE (e' := 3) (sz := 1) (m := 1) (gg := false) (eInt .i64) ([p0.fBoss, r2, (p0.fKids.length : Int), p0.fDrops]) 1507329 (Int.toNat x6) 0 (.t (.int .i64 y9)) rfl kr kr kr kr kr kr (idx_some e_y9).2 kr ?_
        refine Runs.alln ?_
        refine Wp.fg ⟨[(2, .t (.str ((ByteArray.mk #[])))), (3, .t (.str x5)), (5, .t (.int .i64 y9)), (23, .own 1507329), (24, .t (.int .i64 ((([p0.fBoss, r2, (p0.fKids.length : Int), p0.fDrops]).length : Int)))), (25, .t (.int .i64 x6))], [], [(1507329, .live 3 1 (([p0.fBoss, r2, (p0.fKids.length : Int), p0.fDrops]).map (eInt .i64)))]⟩ ?_
        refine Wp.rg [] [] ?_
        refine Runs.batch 2 kr ?_
        obtain ⟨r10, e_r10, h⟩ := bind_some h
        refine Runs.callK false 31 64 [] [.t (.int .i64 y9)] _ _ _ rfl rfl kr kr kr kr kr (impl_NumText_ok u y9 r10 e_r10) kr ?_
        obtain ⟨_, e_11, h⟩ := bind_some h
        refine Runs.cat ((ByteArray.mk #[32])) r10 rfl kr kr kr kr (of_decide_eq_true (chk_some e_11)) ?_
        obtain ⟨_, e_12, h⟩ := bind_some h
        refine Runs.cat x5 (((ByteArray.mk #[32])) ++ r10) rfl kr kr kr kr (of_decide_eq_true (chk_some e_12)) ?_
        refine Runs.all kr ?_
        refine blkN ?_
        refine thenN ?_
        refine Wp.rg [] [] ?_
        refine Runs.alln ?_
        exact ⟨(x5 ++ (((ByteArray.mk #[32])) ++ r10), p0, r2, bAdd .i64 x6 1), h, Le.of (mo := []) (mr := []) kr kr kr kr⟩
      have h := cond_f h hc
      refine Wp.exit ?_
      refine thenE ?_
      refine thenE ?_
      refine blkE ?_
      refine thenN ?_
      exact ⟨x5, h, Le.of (mo := []) (mr := []) kr kr kr kr⟩
def laysJoin_ren : Go.Shelf.Ren := ⟨fun | 156 => 53 | 165 => 87 | 166 => 88 | 169 => 89 | 240 => 127 | 241 => 128 | 276 => 167 | 277 => 168 | n => n, fun | 31 => 93 | 9 => 9 | 3 => 3 | 4 => 4 | 0 => 0 | 20 => 20 | 72 => 139 | 76 => 143 | 70 => 137 | 37 => 22 | 75 => 142 | 127 => 176 | 164 => 210 | 5 => 5 | 80 => 145 | n => n, fun | n => n⟩
theorem laysJoin : Go.Proofs.Lays.n156 Tryz.prog laysJoin_ren := {
  mixed := by kernel_rfl,
  f156 := Tryz.func53.trans (congrArg some kr),
  f165 := Tryz.func87.trans (congrArg some kr),
  f166 := Tryz.func88.trans (congrArg some kr),
  f169 := Tryz.func89.trans (congrArg some kr),
  f240 := Tryz.func127.trans (congrArg some kr),
  f241 := Tryz.func128.trans (congrArg some kr),
  f276 := Tryz.func167.trans (congrArg some kr),
  f277 := Tryz.func168.trans (congrArg some kr),
  t0 := Tryz.underlying0,
  a0 := Tryz.isAgg0,
  z0 := Tryz.sizeOf0,
  v0 := Tryz.zeroValue0,
  t3 := Tryz.underlying3,
  a3 := Tryz.isAgg3,
  z3 := Tryz.sizeOf3,
  v3 := Tryz.zeroValue3,
  t4 := Tryz.underlying4,
  a4 := Tryz.isAgg4,
  z4 := Tryz.sizeOf4,
  v4 := Tryz.zeroValue4,
  t9 := Tryz.underlying9,
  a9 := Tryz.isAgg9,
  z9 := Tryz.sizeOf9,
  v9 := Tryz.zeroValue9,
  t20 := Tryz.underlying20,
  a20 := Tryz.isAgg20,
  z20 := Tryz.sizeOf20,
  v20 := Tryz.zeroValue20,
  t31 := Tryz.underlying93,
  a31 := Tryz.isAgg93,
  z31 := Tryz.sizeOf93,
  v31 := Tryz.zeroValue93,
  t37 := Tryz.underlying22,
  a37 := Tryz.isAgg22,
  z37 := Tryz.sizeOf22,
  v37 := Tryz.zeroValue22,
  t70 := Tryz.underlying137,
  a70 := Tryz.isAgg137,
  z70 := Tryz.sizeOf137,
  v70 := Tryz.zeroValue137,
  t72 := Tryz.underlying139,
  a72 := Tryz.isAgg139,
  z72 := Tryz.sizeOf139,
  v72 := Tryz.zeroValue139,
  t75 := Tryz.underlying142,
  a75 := Tryz.isAgg142,
  z75 := Tryz.sizeOf142,
  v75 := Tryz.zeroValue142,
  t76 := Tryz.underlying143,
  a76 := Tryz.isAgg143,
  z76 := Tryz.sizeOf143,
  v76 := Tryz.zeroValue143,
  t127 := Tryz.underlying176,
  a127 := Tryz.isAgg176,
  z127 := Tryz.sizeOf176,
  v127 := Tryz.zeroValue176,
  t164 := Tryz.underlying210,
  a164 := Tryz.isAgg210,
  z164 := Tryz.sizeOf210,
  v164 := Tryz.zeroValue210 }
theorem laysJoinX : Go.Proofs.Builder.Extra Tryz.prog laysJoin_ren := {
  sizeBuilder := by kernel_rfl,
  liesBuilder := by kernel_rfl,
  t5 := Tryz.underlying5,
  a5 := Tryz.isAgg5,
  z5 := Tryz.sizeOf5,
  v5 := Tryz.zeroValue5,
  infoByte := by kernel_rfl,
  cellsByte := by kernel_rfl,
  sizeByte := by kernel_rfl,
  neB5 := by decide }
theorem strings_Join_ok (u : Nat) (p0 : List ByteArray) (p1 : ByteArray) (r : ByteArray) (h : strings_Join u p0 p1 = some r) : CallOK Tryz.prog 53 [.one (.t (.sl 1 (p0.map eStr))), .one (.t (.str p1))] (.one (.t (.str r))) [] :=
  join_call ⟨_, Tryz.func53, by kernel_rfl, by kernel_rfl⟩ (fun a c sep w => Go.Proofs.Any.strings_Join_none laysJoin laysJoinX a c sep w) (fun bk o c xs sep w h1 h2 h3 h4 h5 => Go.Proofs.Any.strings_Join laysJoin laysJoinX bk o c xs sep w h1 h2 h3 h4 h5) h
theorem impl_WorldText_ok (u : Nat) (p0 : World) (r : ByteArray) (h : impl_WorldText u p0 = some r) : CallOK Tryz.prog 20 [.agg [.t (.int .i64 p0.fC.fSize), .t (.int .i64 p0.fC.fWindow), .t (.int .i64 p0.fC.fSuspect), .t (.int .i64 p0.fC.fForget), .t (.sl 1 (p0.fT.fUp.map (eInt .i64))), .t (.sl 1 (p0.fNew.map (eInt .u8))), .t (.sl 1 (p0.fOld.map Image.enc)), .t (.sl 12 (p0.fN.map Node.enc)), .t (.sl 6 (p0.fD.map Disk.enc)), .t (.sl 3 (p0.fNet.map Packet.enc)), .t (.sl 3 (p0.fLog.map Sent.enc)), .t (.int .i64 p0.fLost)]] (.one (.t (.str r))) [] := by
  unfold impl_WorldText at h
  refine CallOK.of_bodyK (fn := Tryz.f20) (m := false) [.agg ((World.enc p0).map .t)] kr rfl kr kr kr kr kr ?_
  refine Wp.srg [] [] ?_
  refine Runs.alln ?_
  refine Wp.fg ⟨[(1, .obj 1 0), (2, .t (.str ((ByteArray.mk #[]))))], [(1, ((World.enc p0).map .t))], []⟩ ?_
  refine Wp.srg [] [] ?_
  refine Runs.alln ?_
  refine Wp.fg ⟨[(1, .obj 1 0), (2, .t (.str ((ByteArray.mk #[])))), (3, .own 393216)], [(1, ((World.enc p0).map .t))], [(393216, .live 9 1 ((([] : List ByteArray)).map eStr))]⟩ ?_
  refine Wp.seqJ (α := (List ByteArray)) (fun a => ⟨[(2, .t (.str ((ByteArray.mk #[])))), (3, .own 196609)], [], [(196609, .live 9 1 (a.map eStr))]⟩) (fun a => impl_WorldText_j1 u a = some r) ?_ ?_
  · rintro x9 h
    change impl_WorldText_j1 u x9 = some r at h
    unfold impl_WorldText_j1 at h
    refine Wp.srg [] [] ?_
    refine Runs.batch 1 kr ?_
    obtain ⟨r10, e_r10, h⟩ := bind_some h
    refine Runs.callBK 21 53 [] [.own 196609, .t (.str ((ByteArray.mk #[59, 32])))] [.one (.t (.sl 1 (x9.map eStr))), .one (.t (.str ((ByteArray.mk #[59, 32]))))] (.one (.t (.str r10))) rfl rfl kr kr kr kr kr (strings_Join_ok u x9 ((ByteArray.mk #[59, 32])) r10 e_r10) (by simp [V.plain, V.plains, C.plain, T.sc]) kr ?_
    refine Runs.alln ?_
    refine Wp.fg ⟨[(2, .t (.str r10))], [], []⟩ ?_
    refine Wp.ret ?_
    obtain rfl := Option.some.inj h
    exact RetK [.t (.str r10)] _ [] kr kr (.refl _) .nil
  · refine Wp.srg [] [] ?_
    refine Runs.batch 2 kr ?_
    refine Runs.lenT (y := .t (.sl 12 (p0.fN.map Node.enc))) (e := 92) Node.enc p0.fN 12 rfl rfl rfl kr kr kr kr kr ?_
    refine Runs.alln ?_
    refine Wp.fg ⟨[(2, .t (.str ((ByteArray.mk #[])))), (3, .own 393216), (8, .t (.sl 12 (p0.fN.map Node.enc))), (9, .t (.int .i64 ((p0.fN.length : Int)))), (10, .t (.int .i64 0))], [], [(393216, .live 9 1 ((([] : List ByteArray)).map eStr))]⟩ ?_
    refine Wp.block ?_
    refine Wp.loopF (α := (List ByteArray) × World × Int) (fun a => ⟨[(2, .t (.str ((ByteArray.mk #[])))), (3, .own 196609), (8, .t (.sl 12 (a.2.1.fN.map Node.enc))), (9, .t (.int .i64 ((a.2.1.fN.length : Int)))), (10, .t (.int .i64 a.2.2))], [], [(196609, .live 9 1 (a.1.map eStr))]⟩) (fun k_impl_WorldText_l2 a => impl_WorldText_l2 u k_impl_WorldText_l2 a.1 a.2.1 a.2.2 = some r) ?_ ?_ u (([] : List ByteArray), p0, 0) h (Le.of (mo := []) (mr := [(196609, 393216)]) kr kr kr kr)
    · intro a h; unfold impl_WorldText_l2 at h; cases h
    · rintro k_impl_WorldText_l2 ⟨x3, p0, x4⟩ h
      change impl_WorldText_l2 u (k_impl_WorldText_l2 + 1) x3 p0 x4 = some r at h
      rw [impl_WorldText_l2] at h
      refine Wp.srg [] [] ?_
      refine Runs.alln ?_
      refine Wp.fg ⟨[(2, .t (.str ((ByteArray.mk #[])))), (3, .own 196609), (8, .t (.sl 12 (p0.fN.map Node.enc))), (9, .t (.int .i64 ((p0.fN.length : Int)))), (10, .t (.int .i64 x4)), (11, .t (.bool (decide (x4 < ((p0.fN.length : Int))))))], [], [(196609, .live 9 1 (x3.map eStr))]⟩ ?_
      refine Wp.seq ?_
      refine Wp.cond2 (b := decide (x4 < ((p0.fN.length : Int)))) kr (fun hc => ?_) (fun hc => ?_)
      · have h := cond_t h hc
        refine Wp.skip (thenN ?_)
        refine Wp.seq ?_
        refine Wp.block ?_
        refine Wp.srg [] [] ?_
        obtain ⟨y7, e_y7, h⟩ := bind_some h
        refine Runs.idxT (e := 92) (kk := .i64) (sz := 12) Node.enc p0.fN x4 rfl kr kr kr kr kr kr e_y7 ?_
        refine Runs.alln ?_
        refine Wp.fg ⟨[(2, .t (.str ((ByteArray.mk #[])))), (3, .own 196609), (5, .obj 5 0), (8, .t (.sl 12 (p0.fN.map Node.enc))), (9, .t (.int .i64 ((p0.fN.length : Int)))), (10, .t (.int .i64 x4))], [(5, ((Node.enc y7).map .t))], [(196609, .live 9 1 (x3.map eStr))]⟩ ?_
        refine Wp.rg [] [] ?_
        refine Runs.batch 2 kr ?_
        obtain ⟨r8, e_r8, h⟩ := bind_some h
        refine Runs.callK false 16 52 [] [.agg ((Node.enc y7).map .t)] _ _ _ rfl rfl kr kr kr kr kr (impl_NodeText_ok u y7 r8 e_r8) kr ?_
        refine Runs.batch 1 kr ?_
        obtain ⟨_, e_9, h⟩ := bind_some h
        refine Runs.appT (y := .own 1114112) eStr 18 1 9 1 16 196609 x3 ([r8]) rfl rfl rfl rfl kr kr kr kr kr kr (.inl rfl) kr (of_decide_eq_true (chk_some e_9)) kr kr ?_
        refine Runs.all kr ?_
        refine blkN ?_
        refine thenN ?_
        refine Wp.rg [] [] ?_
        refine Runs.alln ?_
        exact ⟨(x3 ++ ([r8]), p0, bAdd .i64 x4 1), h, Le.of (mo := []) (mr := [(196609, 1179648)]) kr kr kr kr⟩
      have h := cond_f h hc
      refine Wp.exit ?_
      refine thenE ?_
      refine thenE ?_
      refine blkE ?_
      refine thenN ?_
      exact ⟨x3, h, Le.of (mo := []) (mr := []) kr kr kr kr⟩
theorem laws_eqConf_ok (u : Nat) (p0 : Conf) (p1 : Conf) (r : Bool) (h : laws_eqConf u p0 p1 = some r) : CallOK Tryz.prog 45 [.agg [.t (.int .i64 p0.fSize), .t (.int .i64 p0.fWindow), .t (.int .i64 p0.fSuspect), .t (.int .i64 p0.fForget)], .agg [.t (.int .i64 p1.fSize), .t (.int .i64 p1.fWindow), .t (.int .i64 p1.fSuspect), .t (.int .i64 p1.fForget)]] (.one (.t (.bool r))) [] := by
  unfold laws_eqConf at h
  refine CallOK.of_bodyK (fn := Tryz.f45) (m := false) [.agg ((Conf.enc p0).map .t), .agg ((Conf.enc p1).map .t)] kr rfl kr kr kr kr kr ?_
  refine Wp.srg [] [] ?_
  refine Runs.alln ?_
  refine Wp.fg ⟨[(2, .obj 2 0), (3, .obj 3 0), (4, .t (.bool false))], [(2, ((Conf.enc p0).map .t)), (3, ((Conf.enc p1).map .t))], []⟩ ?_
  refine Wp.seq ?_
  refine Wp.srg [] [] ?_
  refine Runs.alln ?_
  refine Wp.fg ⟨[(2, .obj 2 0), (3, .obj 3 0), (4, .t (.bool false)), (9, .t (.bool (p0.fSize != p1.fSize)))], [(2, ((Conf.enc p0).map .t)), (3, ((Conf.enc p1).map .t))], []⟩ ?_
  refine Wp.cond2 (b := p0.fSize != p1.fSize) kr (fun hc => ?_) (fun hc => ?_)
  · have h := cond_t h hc
    refine Wp.srg [] [] ?_
    refine Runs.alln ?_
    refine Wp.fg ⟨[(2, .obj 2 0), (3, .obj 3 0), (4, .t (.bool false))], [(2, ((Conf.enc p0).map .t)), (3, ((Conf.enc p1).map .t))], []⟩ ?_
    refine Wp.ret ?_
    refine thenR ?_
    obtain rfl := Option.some.inj h
    exact RetK [.t (.bool false)] _ [] kr kr (.refl _) .nil
  have h := cond_f h hc
  refine Wp.skip (thenN ?_)
  refine Wp.seq ?_
  refine Wp.srg [] [] ?_
  refine Runs.alln ?_
  refine Wp.fg ⟨[(2, .obj 2 0), (3, .obj 3 0), (4, .t (.bool false)), (14, .t (.bool (p0.fWindow != p1.fWindow)))], [(2, ((Conf.enc p0).map .t)), (3, ((Conf.enc p1).map .t))], []⟩ ?_
  refine Wp.cond2 (b := p0.fWindow != p1.fWindow) kr (fun hc => ?_) (fun hc => ?_)
  · have h := cond_t h hc
    refine Wp.srg [] [] ?_
    refine Runs.alln ?_
    refine Wp.fg ⟨[(2, .obj 2 0), (3, .obj 3 0), (4, .t (.bool false))], [(2, ((Conf.enc p0).map .t)), (3, ((Conf.enc p1).map .t))], []⟩ ?_
    refine Wp.ret ?_
    refine thenR ?_
    obtain rfl := Option.some.inj h
    exact RetK [.t (.bool false)] _ [] kr kr (.refl _) .nil
  have h := cond_f h hc
  refine Wp.skip (thenN ?_)
  refine Wp.seq ?_
  refine Wp.srg [] [] ?_
  refine Runs.alln ?_
  refine Wp.fg ⟨[(2, .obj 2 0), (3, .obj 3 0), (4, .t (.bool false)), (19, .t (.bool (p0.fSuspect != p1.fSuspect)))], [(2, ((Conf.enc p0).map .t)), (3, ((Conf.enc p1).map .t))], []⟩ ?_
  refine Wp.cond2 (b := p0.fSuspect != p1.fSuspect) kr (fun hc => ?_) (fun hc => ?_)
  · have h := cond_t h hc
    refine Wp.srg [] [] ?_
    refine Runs.alln ?_
    refine Wp.fg ⟨[(2, .obj 2 0), (3, .obj 3 0), (4, .t (.bool false))], [(2, ((Conf.enc p0).map .t)), (3, ((Conf.enc p1).map .t))], []⟩ ?_
    refine Wp.ret ?_
    refine thenR ?_
    obtain rfl := Option.some.inj h
    exact RetK [.t (.bool false)] _ [] kr kr (.refl _) .nil
  have h := cond_f h hc
  refine Wp.skip (thenN ?_)
  refine Wp.seq ?_
  refine Wp.srg [] [] ?_
  refine Runs.alln ?_
  refine Wp.fg ⟨[(4, .t (.bool false)), (24, .t (.bool (p0.fForget != p1.fForget)))], [], []⟩ ?_
  refine Wp.cond2 (b := p0.fForget != p1.fForget) kr (fun hc => ?_) (fun hc => ?_)
  · have h := cond_t h hc
    refine Wp.srg [] [] ?_
    refine Runs.alln ?_
    refine Wp.fg ⟨[(4, .t (.bool false))], [], []⟩ ?_
    refine Wp.ret ?_
    refine thenR ?_
    obtain rfl := Option.some.inj h
    exact RetK [.t (.bool false)] _ [] kr kr (.refl _) .nil
  have h := cond_f h hc
  refine Wp.skip (thenN ?_)
  refine Wp.srg [] [] ?_
  refine Runs.alln ?_
  refine Wp.fg ⟨[(4, .t (.bool true))], [], []⟩ ?_
  refine Wp.ret ?_
  obtain rfl := Option.some.inj h
  exact RetK [.t (.bool true)] _ [] kr kr (.refl _) .nil
theorem laws_eqIntS_ok (u : Nat) (p0 : List Int) (p1 : List Int) (r : Bool) (h : laws_eqIntS u p0 p1 = some r) : CallOK Tryz.prog 78 [.one (.t (.sl 1 (p0.map (eInt .i64)))), .one (.t (.sl 1 (p1.map (eInt .i64))))] (.one (.t (.bool r))) [] := by
  unfold laws_eqIntS at h
  refine CallOK.of_bodyK (fn := Tryz.f78) (m := false) [.t (.sl 1 (p0.map (eInt .i64))), .t (.sl 1 (p1.map (eInt .i64)))] kr rfl kr kr kr kr kr ?_
  refine Wp.srg [] [] ?_
  refine Runs.alln ?_
  refine Wp.fg ⟨[(0, .t (.sl 1 (p0.map (eInt .i64)))), (1, .t (.sl 1 (p1.map (eInt .i64)))), (4, .t (.bool false))], [], []⟩ ?_
  refine Wp.seq ?_
  refine Wp.srg [] [] ?_
  refine Runs.batch 1 kr ?_
  refine Runs.lenT (y := .t (.sl 1 (p0.map (eInt .i64)))) (e := 3) (eInt .i64) p0 1 rfl rfl rfl kr kr kr kr kr ?_
  refine Runs.batch 1 kr ?_
  refine Runs.lenT (y := .t (.sl 1 (p1.map (eInt .i64)))) (e := 3) (eInt .i64) p1 1 rfl rfl rfl kr kr kr kr kr ?_
  refine Runs.alln ?_
  refine Wp.fg ⟨[(0, .t (.sl 1 (p0.map (eInt .i64)))), (1, .t (.sl 1 (p1.map (eInt .i64)))), (4, .t (.bool false)), (10, .t (.bool (((p0.length : Int)) != ((p1.length : Int)))))], [], []⟩ ?_
  refine Wp.cond2 (b := ((p0.length : Int)) != ((p1.length : Int))) kr (fun hc => ?_) (fun hc => ?_)
  · have h := cond_t h hc
    refine Wp.srg [] [] ?_
    refine Runs.alln ?_
    refine Wp.fg ⟨[(0, .t (.sl 1 (p0.map (eInt .i64)))), (1, .t (.sl 1 (p1.map (eInt .i64)))), (4, .t (.bool false))], [], []⟩ ?_
    refine Wp.ret ?_
    refine thenR ?_
    obtain rfl := Option.some.inj h
    exact RetK [.t (.bool false)] _ [] kr kr (.refl _) .nil
  have h := cond_f h hc
  refine Wp.skip (thenN ?_)
  refine Wp.seqJ (α := Unit) (fun a => ⟨[(4, .t (.bool false))], [], []⟩) (fun a => laws_eqIntS_j1 u = some r) ?_ ?_
  · rintro ⟨⟩ h
    change laws_eqIntS_j1 u = some r at h
    unfold laws_eqIntS_j1 at h
    refine Wp.srg [] [] ?_
    refine Runs.alln ?_
    refine Wp.fg ⟨[(4, .t (.bool true))], [], []⟩ ?_
    refine Wp.ret ?_
    obtain rfl := Option.some.inj h
    exact RetK [.t (.bool true)] _ [] kr kr (.refl _) .nil
  · refine Wp.srg [] [] ?_
    refine Runs.alln ?_
    refine Wp.fg ⟨[(0, .t (.sl 1 (p0.map (eInt .i64)))), (1, .t (.sl 1 (p1.map (eInt .i64)))), (4, .t (.bool false)), (5, .t (.int .i64 0))], [], []⟩ ?_
    refine Wp.block ?_
    refine Wp.loopF (α := (List Int) × (List Int) × Int) (fun a => ⟨[(0, .t (.sl 1 (a.1.map (eInt .i64)))), (1, .t (.sl 1 (a.2.1.map (eInt .i64)))), (4, .t (.bool false)), (5, .t (.int .i64 a.2.2))], [], []⟩) (fun k_laws_eqIntS_l2 a => laws_eqIntS_l2 u k_laws_eqIntS_l2 a.1 a.2.1 a.2.2 = some r) ?_ ?_ u (p0, p1, 0) h (Le.of (mo := []) (mr := []) kr kr kr kr)
    · intro a h; unfold laws_eqIntS_l2 at h; cases h
    · rintro k_laws_eqIntS_l2 ⟨p0, p1, x2⟩ h
      change laws_eqIntS_l2 u (k_laws_eqIntS_l2 + 1) p0 p1 x2 = some r at h
      rw [laws_eqIntS_l2] at h
      refine Wp.seq ?_
      refine Wp.srg [] [] ?_
      refine Runs.batch 2 kr ?_
      refine Runs.lenT (y := .t (.sl 1 (p0.map (eInt .i64)))) (e := 3) (eInt .i64) p0 1 rfl rfl rfl kr kr kr kr kr ?_
      refine Runs.alln ?_
      refine Wp.fg ⟨[(0, .t (.sl 1 (p0.map (eInt .i64)))), (1, .t (.sl 1 (p1.map (eInt .i64)))), (4, .t (.bool false)), (5, .t (.int .i64 x2)), (14, .t (.bool (decide (x2 < ((p0.length : Int))))))], [], []⟩ ?_
      refine Wp.cond2 (b := decide (x2 < ((p0.length : Int)))) kr (fun hc => ?_) (fun hc => ?_)
      · have h := cond_t h hc
        refine Wp.skip (thenN ?_)
        refine Wp.seq ?_
        refine Wp.block ?_
        refine Wp.seq ?_
        refine Wp.regionA (pOf []) (rhoOf [(0, .frz), (1, .frz), (5, .frz), (17, .frz), (18, .frz), (19, .frz), (20, .frz), (21, .frz), (22, .frz), (23, .frz), (24, .frz)]) kr kr ?_
        refine Runs.batch 2 kr ?_
        obtain ⟨y4, e_y4, h⟩ := bind_some h
        refine Runs.idxT (e := 3) (kk := .i64) (sz := 1) (eInt .i64) p0 x2 rfl kr kr kr kr kr kr e_y4 ?_
        refine Runs.batch 3 kr ?_
        obtain ⟨y5, e_y5, h⟩ := bind_some h
        refine Runs.idxT (e := 3) (kk := .i64) (sz := 1) (eInt .i64) p1 x2 rfl kr kr kr kr kr kr e_y5 ?_
        refine Runs.alln ?_
        refine Wp.fg ⟨[(0, .t (.sl 1 (p0.map (eInt .i64)))), (1, .t (.sl 1 (p1.map (eInt .i64)))), (4, .t (.bool false)), (5, .t (.int .i64 x2)), (25, .t (.bool (y4 != y5)))], [], []⟩ ?_
        refine Wp.cond2 (b := y4 != y5) kr (fun hc => ?_) (fun hc => ?_)
        · have h := cond_t h hc
          refine Wp.srg [] [] ?_
          refine Runs.alln ?_
          refine Wp.fg ⟨[(0, .t (.sl 1 (p0.map (eInt .i64)))), (1, .t (.sl 1 (p1.map (eInt .i64)))), (4, .t (.bool false)), (5, .t (.int .i64 x2))], [], []⟩ ?_
          refine Wp.ret ?_
          refine blkR ?_
          refine thenR ?_
          refine thenR ?_
          refine blkR ?_
          refine thenR ?_
          obtain rfl := Option.some.inj h
          exact RetK [.t (.bool false)] _ [] kr kr (.refl _) .nil
        have h := cond_f h hc
        refine Wp.skip ?_
        refine blkN ?_
        refine thenN ?_
        refine Wp.rg [] [] ?_
        refine Runs.alln ?_
        exact ⟨(p0, p1, bAdd .i64 x2 1), h, Le.of (mo := []) (mr := []) kr kr kr kr⟩
      have h := cond_f h hc
      refine Wp.exit ?_
      refine thenE ?_
      refine thenE ?_
      refine blkE ?_
      refine thenN ?_
      exact ⟨(), h, Le.of (mo := []) (mr := []) kr kr kr kr⟩
theorem laws_eqTree_ok (u : Nat) (p0 : Tree) (p1 : Tree) (r : Bool) (h : laws_eqTree u p0 p1 = some r) : CallOK Tryz.prog 46 [.agg [.t (.sl 1 (p0.fUp.map (eInt .i64)))], .agg [.t (.sl 1 (p1.fUp.map (eInt .i64)))]] (.one (.t (.bool r))) [] := by
  unfold laws_eqTree at h
  refine CallOK.of_bodyK (fn := Tryz.f46) (m := false) [.agg [.t (.sl 1 (p0.fUp.map (eInt .i64)))], .agg [.t (.sl 1 (p1.fUp.map (eInt .i64)))]] kr rfl kr kr kr kr kr ?_
  refine Wp.srg [] [] ?_
  refine Runs.alln ?_
  refine Wp.fg ⟨[(2, .obj 2 0), (3, .obj 3 0), (4, .t (.bool false))], [(2, [.t (.sl 1 (p0.fUp.map (eInt .i64)))]), (3, [.t (.sl 1 (p1.fUp.map (eInt .i64)))])], []⟩ ?_
  refine Wp.seq ?_
  refine Wp.srg [] [] ?_
  refine Runs.batch 4 kr ?_
  obtain ⟨r1, e_r1, h⟩ := bind_some h
  refine Runs.callK false 9 78 [] [.t (.sl 1 (p0.fUp.map (eInt .i64))), .t (.sl 1 (p1.fUp.map (eInt .i64)))] _ _ _ rfl rfl kr kr kr kr kr (laws_eqIntS_ok u p0.fUp p1.fUp r1 e_r1) kr ?_
  refine Runs.alln ?_
  refine Wp.fg ⟨[(4, .t (.bool false)), (10, .t (.bool (!r1)))], [], []⟩ ?_
  refine Wp.cond2 (b := !r1) kr (fun hc => ?_) (fun hc => ?_)
  · have h := cond_t h hc
    refine Wp.srg [] [] ?_
    refine Runs.alln ?_
    refine Wp.fg ⟨[(4, .t (.bool false))], [], []⟩ ?_
    refine Wp.ret ?_
    refine thenR ?_
    obtain rfl := Option.some.inj h
    exact RetK [.t (.bool false)] _ [] kr kr (.refl _) .nil
  have h := cond_f h hc
  refine Wp.skip (thenN ?_)
  refine Wp.srg [] [] ?_
  refine Runs.alln ?_
  refine Wp.fg ⟨[(4, .t (.bool true))], [], []⟩ ?_
  refine Wp.ret ?_
  obtain rfl := Option.some.inj h
  exact RetK [.t (.bool true)] _ [] kr kr (.refl _) .nil
theorem laws_eqByteS_ok (u : Nat) (p0 : List Int) (p1 : List Int) (r : Bool) (h : laws_eqByteS u p0 p1 = some r) : CallOK Tryz.prog 12 [.one (.t (.sl 1 (p0.map (eInt .u8)))), .one (.t (.sl 1 (p1.map (eInt .u8))))] (.one (.t (.bool r))) [] := by
  unfold laws_eqByteS at h
  refine CallOK.of_bodyK (fn := Tryz.f12) (m := false) [.t (.sl 1 (p0.map (eInt .u8))), .t (.sl 1 (p1.map (eInt .u8)))] kr rfl kr kr kr kr kr ?_
  refine Wp.srg [] [] ?_
  refine Runs.alln ?_
  refine Wp.fg ⟨[(0, .t (.sl 1 (p0.map (eInt .u8)))), (1, .t (.sl 1 (p1.map (eInt .u8)))), (4, .t (.bool false))], [], []⟩ ?_
  refine Wp.seq ?_
  refine Wp.srg [] [] ?_
  refine Runs.batch 1 kr ?_
  refine Runs.lenT (y := .t (.sl 1 (p0.map (eInt .u8)))) (e := 5) (eInt .u8) p0 1 rfl rfl rfl kr kr kr kr kr ?_
  refine Runs.batch 1 kr ?_
  refine Runs.lenT (y := .t (.sl 1 (p1.map (eInt .u8)))) (e := 5) (eInt .u8) p1 1 rfl rfl rfl kr kr kr kr kr ?_
  refine Runs.alln ?_
  refine Wp.fg ⟨[(0, .t (.sl 1 (p0.map (eInt .u8)))), (1, .t (.sl 1 (p1.map (eInt .u8)))), (4, .t (.bool false)), (10, .t (.bool (((p0.length : Int)) != ((p1.length : Int)))))], [], []⟩ ?_
  refine Wp.cond2 (b := ((p0.length : Int)) != ((p1.length : Int))) kr (fun hc => ?_) (fun hc => ?_)
  · have h := cond_t h hc
    refine Wp.srg [] [] ?_
    refine Runs.alln ?_
    refine Wp.fg ⟨[(0, .t (.sl 1 (p0.map (eInt .u8)))), (1, .t (.sl 1 (p1.map (eInt .u8)))), (4, .t (.bool false))], [], []⟩ ?_
    refine Wp.ret ?_
    refine thenR ?_
    obtain rfl := Option.some.inj h
    exact RetK [.t (.bool false)] _ [] kr kr (.refl _) .nil
  have h := cond_f h hc
  refine Wp.skip (thenN ?_)
  refine Wp.seqJ (α := Unit) (fun a => ⟨[(4, .t (.bool false))], [], []⟩) (fun a => laws_eqByteS_j1 u = some r) ?_ ?_
  · rintro ⟨⟩ h
    change laws_eqByteS_j1 u = some r at h
    unfold laws_eqByteS_j1 at h
    refine Wp.srg [] [] ?_
    refine Runs.alln ?_
    refine Wp.fg ⟨[(4, .t (.bool true))], [], []⟩ ?_
    refine Wp.ret ?_
    obtain rfl := Option.some.inj h
    exact RetK [.t (.bool true)] _ [] kr kr (.refl _) .nil
  · refine Wp.srg [] [] ?_
    refine Runs.alln ?_
    refine Wp.fg ⟨[(0, .t (.sl 1 (p0.map (eInt .u8)))), (1, .t (.sl 1 (p1.map (eInt .u8)))), (4, .t (.bool false)), (5, .t (.int .i64 0))], [], []⟩ ?_
    refine Wp.block ?_
    refine Wp.loopF (α := (List Int) × (List Int) × Int) (fun a => ⟨[(0, .t (.sl 1 (a.1.map (eInt .u8)))), (1, .t (.sl 1 (a.2.1.map (eInt .u8)))), (4, .t (.bool false)), (5, .t (.int .i64 a.2.2))], [], []⟩) (fun k_laws_eqByteS_l2 a => laws_eqByteS_l2 u k_laws_eqByteS_l2 a.1 a.2.1 a.2.2 = some r) ?_ ?_ u (p0, p1, 0) h (Le.of (mo := []) (mr := []) kr kr kr kr)
    · intro a h; unfold laws_eqByteS_l2 at h; cases h
    · rintro k_laws_eqByteS_l2 ⟨p0, p1, x2⟩ h
      change laws_eqByteS_l2 u (k_laws_eqByteS_l2 + 1) p0 p1 x2 = some r at h
      rw [laws_eqByteS_l2] at h
      refine Wp.seq ?_
      refine Wp.srg [] [] ?_
      refine Runs.batch 2 kr ?_
      refine Runs.lenT (y := .t (.sl 1 (p0.map (eInt .u8)))) (e := 5) (eInt .u8) p0 1 rfl rfl rfl kr kr kr kr kr ?_
      refine Runs.alln ?_
      refine Wp.fg ⟨[(0, .t (.sl 1 (p0.map (eInt .u8)))), (1, .t (.sl 1 (p1.map (eInt .u8)))), (4, .t (.bool false)), (5, .t (.int .i64 x2)), (14, .t (.bool (decide (x2 < ((p0.length : Int))))))], [], []⟩ ?_
      refine Wp.cond2 (b := decide (x2 < ((p0.length : Int)))) kr (fun hc => ?_) (fun hc => ?_)
      · have h := cond_t h hc
        refine Wp.skip (thenN ?_)
        refine Wp.seq ?_
        refine Wp.block ?_
        refine Wp.seq ?_
        refine Wp.regionA (pOf []) (rhoOf [(0, .frz), (1, .frz), (5, .frz), (17, .frz), (18, .frz), (19, .frz), (20, .frz), (21, .frz), (22, .frz), (23, .frz), (24, .frz)]) kr kr ?_
        refine Runs.batch 2 kr ?_
        obtain ⟨y4, e_y4, h⟩ := bind_some h
        refine Runs.idxT (e := 5) (kk := .i64) (sz := 1) (eInt .u8) p0 x2 rfl kr kr kr kr kr kr e_y4 ?_
        refine Runs.batch 3 kr ?_
        obtain ⟨y5, e_y5, h⟩ := bind_some h
        refine Runs.idxT (e := 5) (kk := .i64) (sz := 1) (eInt .u8) p1 x2 rfl kr kr kr kr kr kr e_y5 ?_
        refine Runs.alln ?_
        refine Wp.fg ⟨[(0, .t (.sl 1 (p0.map (eInt .u8)))), (1, .t (.sl 1 (p1.map (eInt .u8)))), (4, .t (.bool false)), (5, .t (.int .i64 x2)), (25, .t (.bool (y4 != y5)))], [], []⟩ ?_
        refine Wp.cond2 (b := y4 != y5) kr (fun hc => ?_) (fun hc => ?_)
        · have h := cond_t h hc
          refine Wp.srg [] [] ?_
          refine Runs.alln ?_
          refine Wp.fg ⟨[(0, .t (.sl 1 (p0.map (eInt .u8)))), (1, .t (.sl 1 (p1.map (eInt .u8)))), (4, .t (.bool false)), (5, .t (.int .i64 x2))], [], []⟩ ?_
          refine Wp.ret ?_
          refine blkR ?_
          refine thenR ?_
          refine thenR ?_
          refine blkR ?_
          refine thenR ?_
          obtain rfl := Option.some.inj h
          exact RetK [.t (.bool false)] _ [] kr kr (.refl _) .nil
        have h := cond_f h hc
        refine Wp.skip ?_
        refine blkN ?_
        refine thenN ?_
        refine Wp.rg [] [] ?_
        refine Runs.alln ?_
        exact ⟨(p0, p1, bAdd .i64 x2 1), h, Le.of (mo := []) (mr := []) kr kr kr kr⟩
      have h := cond_f h hc
      refine Wp.exit ?_
      refine thenE ?_
      refine thenE ?_
      refine blkE ?_
      refine thenN ?_
      exact ⟨(), h, Le.of (mo := []) (mr := []) kr kr kr kr⟩
theorem laws_eqImage_ok (u : Nat) (p0 : Image) (p1 : Image) (r : Bool) (h : laws_eqImage u p0 p1 = some r) : CallOK Tryz.prog 29 [.agg [.t (.sl 1 (p0.fB.map (eInt .u8)))], .agg [.t (.sl 1 (p1.fB.map (eInt .u8)))]] (.one (.t (.bool r))) [] := by
  unfold laws_eqImage at h
  refine CallOK.of_bodyK (fn := Tryz.f29) (m := false) [.agg [.t (.sl 1 (p0.fB.map (eInt .u8)))], .agg [.t (.sl 1 (p1.fB.map (eInt .u8)))]] kr rfl kr kr kr kr kr ?_
  refine Wp.srg [] [] ?_
  refine Runs.alln ?_
  refine Wp.fg ⟨[(2, .obj 2 0), (3, .obj 3 0), (4, .t (.bool false))], [(2, [.t (.sl 1 (p0.fB.map (eInt .u8)))]), (3, [.t (.sl 1 (p1.fB.map (eInt .u8)))])], []⟩ ?_
  refine Wp.seq ?_
  refine Wp.srg [] [] ?_
  refine Runs.batch 4 kr ?_
  obtain ⟨r1, e_r1, h⟩ := bind_some h
  refine Runs.callK false 9 12 [] [.t (.sl 1 (p0.fB.map (eInt .u8))), .t (.sl 1 (p1.fB.map (eInt .u8)))] _ _ _ rfl rfl kr kr kr kr kr (laws_eqByteS_ok u p0.fB p1.fB r1 e_r1) kr ?_
  refine Runs.alln ?_
  refine Wp.fg ⟨[(4, .t (.bool false)), (10, .t (.bool (!r1)))], [], []⟩ ?_
  refine Wp.cond2 (b := !r1) kr (fun hc => ?_) (fun hc => ?_)
  · have h := cond_t h hc
    refine Wp.srg [] [] ?_
    refine Runs.alln ?_
    refine Wp.fg ⟨[(4, .t (.bool false))], [], []⟩ ?_
    refine Wp.ret ?_
    refine thenR ?_
    obtain rfl := Option.some.inj h
    exact RetK [.t (.bool false)] _ [] kr kr (.refl _) .nil
  have h := cond_f h hc
  refine Wp.skip (thenN ?_)
  refine Wp.srg [] [] ?_
  refine Runs.alln ?_
  refine Wp.fg ⟨[(4, .t (.bool true))], [], []⟩ ?_
  refine Wp.ret ?_
  obtain rfl := Option.some.inj h
  exact RetK [.t (.bool true)] _ [] kr kr (.refl _) .nil
theorem laws_eqImageS_ok (u : Nat) (p0 : List Image) (p1 : List Image) (r : Bool) (h : laws_eqImageS u p0 p1 = some r) : CallOK Tryz.prog 13 [.one (.t (.sl 1 (p0.map Image.enc))), .one (.t (.sl 1 (p1.map Image.enc)))] (.one (.t (.bool r))) [] := by
  unfold laws_eqImageS at h
  refine CallOK.of_bodyK (fn := Tryz.f13) (m := false) [.t (.sl 1 (p0.map Image.enc)), .t (.sl 1 (p1.map Image.enc))] kr rfl kr kr kr kr kr ?_
  refine Wp.srg [] [] ?_
  refine Runs.alln ?_
  refine Wp.fg ⟨[(0, .t (.sl 1 (p0.map Image.enc))), (1, .t (.sl 1 (p1.map Image.enc))), (4, .t (.bool false))], [], []⟩ ?_
  refine Wp.seq ?_
  refine Wp.srg [] [] ?_
  refine Runs.batch 1 kr ?_
  refine Runs.lenT (y := .t (.sl 1 (p0.map Image.enc))) (e := 61) Image.enc p0 1 rfl rfl rfl kr kr kr kr kr ?_
  refine Runs.batch 1 kr ?_
  refine Runs.lenT (y := .t (.sl 1 (p1.map Image.enc))) (e := 61) Image.enc p1 1 rfl rfl rfl kr kr kr kr kr ?_
  refine Runs.alln ?_
  refine Wp.fg ⟨[(0, .t (.sl 1 (p0.map Image.enc))), (1, .t (.sl 1 (p1.map Image.enc))), (4, .t (.bool false)), (10, .t (.bool (((p0.length : Int)) != ((p1.length : Int)))))], [], []⟩ ?_
  refine Wp.cond2 (b := ((p0.length : Int)) != ((p1.length : Int))) kr (fun hc => ?_) (fun hc => ?_)
  · have h := cond_t h hc
    refine Wp.srg [] [] ?_
    refine Runs.alln ?_
    refine Wp.fg ⟨[(0, .t (.sl 1 (p0.map Image.enc))), (1, .t (.sl 1 (p1.map Image.enc))), (4, .t (.bool false))], [], []⟩ ?_
    refine Wp.ret ?_
    refine thenR ?_
    obtain rfl := Option.some.inj h
    exact RetK [.t (.bool false)] _ [] kr kr (.refl _) .nil
  have h := cond_f h hc
  refine Wp.skip (thenN ?_)
  refine Wp.seqJ (α := Unit) (fun a => ⟨[(4, .t (.bool false))], [], []⟩) (fun a => laws_eqImageS_j1 u = some r) ?_ ?_
  · rintro ⟨⟩ h
    change laws_eqImageS_j1 u = some r at h
    unfold laws_eqImageS_j1 at h
    refine Wp.srg [] [] ?_
    refine Runs.alln ?_
    refine Wp.fg ⟨[(4, .t (.bool true))], [], []⟩ ?_
    refine Wp.ret ?_
    obtain rfl := Option.some.inj h
    exact RetK [.t (.bool true)] _ [] kr kr (.refl _) .nil
  · refine Wp.srg [] [] ?_
    refine Runs.alln ?_
    refine Wp.fg ⟨[(0, .t (.sl 1 (p0.map Image.enc))), (1, .t (.sl 1 (p1.map Image.enc))), (4, .t (.bool false)), (5, .t (.int .i64 0))], [], []⟩ ?_
    refine Wp.block ?_
    refine Wp.loopF (α := (List Image) × (List Image) × Int) (fun a => ⟨[(0, .t (.sl 1 (a.1.map Image.enc))), (1, .t (.sl 1 (a.2.1.map Image.enc))), (4, .t (.bool false)), (5, .t (.int .i64 a.2.2))], [], []⟩) (fun k_laws_eqImageS_l2 a => laws_eqImageS_l2 u k_laws_eqImageS_l2 a.1 a.2.1 a.2.2 = some r) ?_ ?_ u (p0, p1, 0) h (Le.of (mo := []) (mr := []) kr kr kr kr)
    · intro a h; unfold laws_eqImageS_l2 at h; cases h
    · rintro k_laws_eqImageS_l2 ⟨p0, p1, x2⟩ h
      change laws_eqImageS_l2 u (k_laws_eqImageS_l2 + 1) p0 p1 x2 = some r at h
      rw [laws_eqImageS_l2] at h
      refine Wp.seq ?_
      refine Wp.srg [] [] ?_
      refine Runs.batch 2 kr ?_
      refine Runs.lenT (y := .t (.sl 1 (p0.map Image.enc))) (e := 61) Image.enc p0 1 rfl rfl rfl kr kr kr kr kr ?_
      refine Runs.alln ?_
      refine Wp.fg ⟨[(0, .t (.sl 1 (p0.map Image.enc))), (1, .t (.sl 1 (p1.map Image.enc))), (4, .t (.bool false)), (5, .t (.int .i64 x2)), (14, .t (.bool (decide (x2 < ((p0.length : Int))))))], [], []⟩ ?_
      refine Wp.cond2 (b := decide (x2 < ((p0.length : Int)))) kr (fun hc => ?_) (fun hc => ?_)
      · have h := cond_t h hc
        refine Wp.skip (thenN ?_)
        refine Wp.seq ?_
        refine Wp.block ?_
        refine Wp.seq ?_
        refine Wp.regionA (pOf []) (rhoOf [(0, .frz), (1, .frz), (5, .frz), (17, .frz), (18, .frz), (19, .frz), (20, .frz), (21, .frz), (22, .frz), (23, .frz), (24, .frz), (25, .frz)]) kr kr ?_
        refine Runs.batch 2 kr ?_
        obtain ⟨y4, e_y4, h⟩ := bind_some h
        refine Runs.idxT (e := 61) (kk := .i64) (sz := 1) Image.enc p0 x2 rfl kr kr kr kr kr kr e_y4 ?_
        refine Runs.batch 3 kr ?_
        obtain ⟨y5, e_y5, h⟩ := bind_some h
        refine Runs.idxT (e := 61) (kk := .i64) (sz := 1) Image.enc p1 x2 rfl kr kr kr kr kr kr e_y5 ?_
        refine Runs.batch 1 kr ?_
        obtain ⟨r6, e_r6, h⟩ := bind_some h
        refine Runs.callK false 25 29 [] [.agg [.t (.sl 1 (y4.fB.map (eInt .u8)))], .agg [.t (.sl 1 (y5.fB.map (eInt .u8)))]] _ _ _ rfl rfl kr kr kr kr kr (laws_eqImage_ok u y4 y5 r6 e_r6) kr ?_
        refine Runs.alln ?_
        refine Wp.fg ⟨[(0, .t (.sl 1 (p0.map Image.enc))), (1, .t (.sl 1 (p1.map Image.enc))), (4, .t (.bool false)), (5, .t (.int .i64 x2)), (26, .t (.bool (!r6)))], [], []⟩ ?_
        refine Wp.cond2 (b := !r6) kr (fun hc => ?_) (fun hc => ?_)
        · have h := cond_t h hc
          refine Wp.srg [] [] ?_
          refine Runs.alln ?_
          refine Wp.fg ⟨[(0, .t (.sl 1 (p0.map Image.enc))), (1, .t (.sl 1 (p1.map Image.enc))), (4, .t (.bool false)), (5, .t (.int .i64 x2))], [], []⟩ ?_
          refine Wp.ret ?_
          refine blkR ?_
          refine thenR ?_
          refine thenR ?_
          refine blkR ?_
          refine thenR ?_
          obtain rfl := Option.some.inj h
          exact RetK [.t (.bool false)] _ [] kr kr (.refl _) .nil
        have h := cond_f h hc
        refine Wp.skip ?_
        refine blkN ?_
        refine thenN ?_
        refine Wp.rg [] [] ?_
        refine Runs.alln ?_
        exact ⟨(p0, p1, bAdd .i64 x2 1), h, Le.of (mo := []) (mr := []) kr kr kr kr⟩
      have h := cond_f h hc
      refine Wp.exit ?_
      refine thenE ?_
      refine thenE ?_
      refine blkE ?_
      refine thenN ?_
      exact ⟨(), h, Le.of (mo := []) (mr := []) kr kr kr kr⟩
theorem laws_eqSum_ok (u : Nat) (p0 : Sum) (p1 : Sum) (r : Bool) (h : laws_eqSum u p0 p1 = some r) : CallOK Tryz.prog 194 [.agg [.t (.int .i64 p0.fW), .t (.int .i64 p0.fS)], .agg [.t (.int .i64 p1.fW), .t (.int .i64 p1.fS)]] (.one (.t (.bool r))) [] := by
  unfold laws_eqSum at h
  refine CallOK.of_bodyK (fn := Tryz.f194) (m := false) [.agg [.t (.int .i64 p0.fW), .t (.int .i64 p0.fS)], .agg [.t (.int .i64 p1.fW), .t (.int .i64 p1.fS)]] kr rfl kr kr kr kr kr ?_
  refine Wp.srg [] [] ?_
  refine Runs.alln ?_
  refine Wp.fg ⟨[(2, .obj 2 0), (3, .obj 3 0), (4, .t (.bool false))], [(2, [.t (.int .i64 p0.fW), .t (.int .i64 p0.fS)]), (3, [.t (.int .i64 p1.fW), .t (.int .i64 p1.fS)])], []⟩ ?_
  refine Wp.seq ?_
  refine Wp.srg [] [] ?_
  refine Runs.alln ?_
  refine Wp.fg ⟨[(2, .obj 2 0), (3, .obj 3 0), (4, .t (.bool false)), (9, .t (.bool (p0.fW != p1.fW)))], [(2, [.t (.int .i64 p0.fW), .t (.int .i64 p0.fS)]), (3, [.t (.int .i64 p1.fW), .t (.int .i64 p1.fS)])], []⟩ ?_
  refine Wp.cond2 (b := p0.fW != p1.fW) kr (fun hc => ?_) (fun hc => ?_)
  · have h := cond_t h hc
    refine Wp.srg [] [] ?_
    refine Runs.alln ?_
    refine Wp.fg ⟨[(2, .obj 2 0), (3, .obj 3 0), (4, .t (.bool false))], [(2, [.t (.int .i64 p0.fW), .t (.int .i64 p0.fS)]), (3, [.t (.int .i64 p1.fW), .t (.int .i64 p1.fS)])], []⟩ ?_
    refine Wp.ret ?_
    refine thenR ?_
    obtain rfl := Option.some.inj h
    exact RetK [.t (.bool false)] _ [] kr kr (.refl _) .nil
  have h := cond_f h hc
  refine Wp.skip (thenN ?_)
  refine Wp.seq ?_
  refine Wp.srg [] [] ?_
  refine Runs.alln ?_
  refine Wp.fg ⟨[(4, .t (.bool false)), (14, .t (.bool (p0.fS != p1.fS)))], [], []⟩ ?_
  refine Wp.cond2 (b := p0.fS != p1.fS) kr (fun hc => ?_) (fun hc => ?_)
  · have h := cond_t h hc
    refine Wp.srg [] [] ?_
    refine Runs.alln ?_
    refine Wp.fg ⟨[(4, .t (.bool false))], [], []⟩ ?_
    refine Wp.ret ?_
    refine thenR ?_
    obtain rfl := Option.some.inj h
    exact RetK [.t (.bool false)] _ [] kr kr (.refl _) .nil
  have h := cond_f h hc
  refine Wp.skip (thenN ?_)
  refine Wp.srg [] [] ?_
  refine Runs.alln ?_
  refine Wp.fg ⟨[(4, .t (.bool true))], [], []⟩ ?_
  refine Wp.ret ?_
  obtain rfl := Option.some.inj h
  exact RetK [.t (.bool true)] _ [] kr kr (.refl _) .nil
theorem laws_eqSumS_ok (u : Nat) (p0 : List Sum) (p1 : List Sum) (r : Bool) (h : laws_eqSumS u p0 p1 = some r) : CallOK Tryz.prog 163 [.one (.t (.sl 2 (p0.map Sum.enc))), .one (.t (.sl 2 (p1.map Sum.enc)))] (.one (.t (.bool r))) [] := by
  unfold laws_eqSumS at h
  refine CallOK.of_bodyK (fn := Tryz.f163) (m := false) [.t (.sl 2 (p0.map Sum.enc)), .t (.sl 2 (p1.map Sum.enc))] kr rfl kr kr kr kr kr ?_
  refine Wp.srg [] [] ?_
  refine Runs.alln ?_
  refine Wp.fg ⟨[(0, .t (.sl 2 (p0.map Sum.enc))), (1, .t (.sl 2 (p1.map Sum.enc))), (4, .t (.bool false))], [], []⟩ ?_
  refine Wp.seq ?_
  refine Wp.srg [] [] ?_
  refine Runs.batch 1 kr ?_
  refine Runs.lenT (y := .t (.sl 2 (p0.map Sum.enc))) (e := 189) Sum.enc p0 2 rfl rfl rfl kr kr kr kr kr ?_
  refine Runs.batch 1 kr ?_
  refine Runs.lenT (y := .t (.sl 2 (p1.map Sum.enc))) (e := 189) Sum.enc p1 2 rfl rfl rfl kr kr kr kr kr ?_
  refine Runs.alln ?_
  refine Wp.fg ⟨[(0, .t (.sl 2 (p0.map Sum.enc))), (1, .t (.sl 2 (p1.map Sum.enc))), (4, .t (.bool false)), (10, .t (.bool (((p0.length : Int)) != ((p1.length : Int)))))], [], []⟩ ?_
  refine Wp.cond2 (b := ((p0.length : Int)) != ((p1.length : Int))) kr (fun hc => ?_) (fun hc => ?_)
  · have h := cond_t h hc
    refine Wp.srg [] [] ?_
    refine Runs.alln ?_
    refine Wp.fg ⟨[(0, .t (.sl 2 (p0.map Sum.enc))), (1, .t (.sl 2 (p1.map Sum.enc))), (4, .t (.bool false))], [], []⟩ ?_
    refine Wp.ret ?_
    refine thenR ?_
    obtain rfl := Option.some.inj h
    exact RetK [.t (.bool false)] _ [] kr kr (.refl _) .nil
  have h := cond_f h hc
  refine Wp.skip (thenN ?_)
  refine Wp.seqJ (α := Unit) (fun a => ⟨[(4, .t (.bool false))], [], []⟩) (fun a => laws_eqSumS_j1 u = some r) ?_ ?_
  · rintro ⟨⟩ h
    change laws_eqSumS_j1 u = some r at h
    unfold laws_eqSumS_j1 at h
    refine Wp.srg [] [] ?_
    refine Runs.alln ?_
    refine Wp.fg ⟨[(4, .t (.bool true))], [], []⟩ ?_
    refine Wp.ret ?_
    obtain rfl := Option.some.inj h
    exact RetK [.t (.bool true)] _ [] kr kr (.refl _) .nil
  · refine Wp.srg [] [] ?_
    refine Runs.alln ?_
    refine Wp.fg ⟨[(0, .t (.sl 2 (p0.map Sum.enc))), (1, .t (.sl 2 (p1.map Sum.enc))), (4, .t (.bool false)), (5, .t (.int .i64 0))], [], []⟩ ?_
    refine Wp.block ?_
    refine Wp.loopF (α := (List Sum) × (List Sum) × Int) (fun a => ⟨[(0, .t (.sl 2 (a.1.map Sum.enc))), (1, .t (.sl 2 (a.2.1.map Sum.enc))), (4, .t (.bool false)), (5, .t (.int .i64 a.2.2))], [], []⟩) (fun k_laws_eqSumS_l2 a => laws_eqSumS_l2 u k_laws_eqSumS_l2 a.1 a.2.1 a.2.2 = some r) ?_ ?_ u (p0, p1, 0) h (Le.of (mo := []) (mr := []) kr kr kr kr)
    · intro a h; unfold laws_eqSumS_l2 at h; cases h
    · rintro k_laws_eqSumS_l2 ⟨p0, p1, x2⟩ h
      change laws_eqSumS_l2 u (k_laws_eqSumS_l2 + 1) p0 p1 x2 = some r at h
      rw [laws_eqSumS_l2] at h
      refine Wp.seq ?_
      refine Wp.srg [] [] ?_
      refine Runs.batch 2 kr ?_
      refine Runs.lenT (y := .t (.sl 2 (p0.map Sum.enc))) (e := 189) Sum.enc p0 2 rfl rfl rfl kr kr kr kr kr ?_
      refine Runs.alln ?_
      refine Wp.fg ⟨[(0, .t (.sl 2 (p0.map Sum.enc))), (1, .t (.sl 2 (p1.map Sum.enc))), (4, .t (.bool false)), (5, .t (.int .i64 x2)), (14, .t (.bool (decide (x2 < ((p0.length : Int))))))], [], []⟩ ?_
      refine Wp.cond2 (b := decide (x2 < ((p0.length : Int)))) kr (fun hc => ?_) (fun hc => ?_)
      · have h := cond_t h hc
        refine Wp.skip (thenN ?_)
        refine Wp.seq ?_
        refine Wp.block ?_
        refine Wp.seq ?_
        refine Wp.regionA (pOf []) (rhoOf [(0, .frz), (1, .frz), (5, .frz), (17, .frz), (18, .frz), (19, .frz), (20, .frz), (21, .frz), (22, .frz), (23, .frz), (24, .frz), (25, .frz)]) kr kr ?_
        refine Runs.batch 2 kr ?_
        obtain ⟨y4, e_y4, h⟩ := bind_some h
        refine Runs.idxT (e := 189) (kk := .i64) (sz := 2) Sum.enc p0 x2 rfl kr kr kr kr kr kr e_y4 ?_
        refine Runs.batch 3 kr ?_
        obtain ⟨y5, e_y5, h⟩ := bind_some h
        refine Runs.idxT (e := 189) (kk := .i64) (sz := 2) Sum.enc p1 x2 rfl kr kr kr kr kr kr e_y5 ?_
        refine Runs.batch 1 kr ?_
        obtain ⟨r6, e_r6, h⟩ := bind_some h
        refine Runs.callK false 25 194 [] [.agg [.t (.int .i64 y4.fW), .t (.int .i64 y4.fS)], .agg [.t (.int .i64 y5.fW), .t (.int .i64 y5.fS)]] _ _ _ rfl rfl kr kr kr kr kr (laws_eqSum_ok u y4 y5 r6 e_r6) kr ?_
        refine Runs.alln ?_
        refine Wp.fg ⟨[(0, .t (.sl 2 (p0.map Sum.enc))), (1, .t (.sl 2 (p1.map Sum.enc))), (4, .t (.bool false)), (5, .t (.int .i64 x2)), (26, .t (.bool (!r6)))], [], []⟩ ?_
        refine Wp.cond2 (b := !r6) kr (fun hc => ?_) (fun hc => ?_)
        · have h := cond_t h hc
          refine Wp.srg [] [] ?_
          refine Runs.alln ?_
          refine Wp.fg ⟨[(0, .t (.sl 2 (p0.map Sum.enc))), (1, .t (.sl 2 (p1.map Sum.enc))), (4, .t (.bool false)), (5, .t (.int .i64 x2))], [], []⟩ ?_
          refine Wp.ret ?_
          refine blkR ?_
          refine thenR ?_
          refine thenR ?_
          refine blkR ?_
          refine thenR ?_
          obtain rfl := Option.some.inj h
          exact RetK [.t (.bool false)] _ [] kr kr (.refl _) .nil
        have h := cond_f h hc
        refine Wp.skip ?_
        refine blkN ?_
        refine thenN ?_
        refine Wp.rg [] [] ?_
        refine Runs.alln ?_
        exact ⟨(p0, p1, bAdd .i64 x2 1), h, Le.of (mo := []) (mr := []) kr kr kr kr⟩
      have h := cond_f h hc
      refine Wp.exit ?_
      refine thenE ?_
      refine thenE ?_
      refine blkE ?_
      refine thenN ?_
      exact ⟨(), h, Le.of (mo := []) (mr := []) kr kr kr kr⟩
end Go.Tm
