/- The functions as they are translated do what the pure functions say (printed). -/
import Derived.Test.YtpjnojikkfoekaaCBestSizeD
import Derived.Test.YtpjnojikkfoekaaTm38
import Derived.Test.YtpjnojikkfoekaaProg
set_option maxRecDepth 100000
set_option linter.unusedVariables false
set_option linter.unusedSimpArgs false
namespace Go.Tm
open Go.Proofs
theorem laws_szByteS_ok (u : Nat) (p0 : List Int) (p1 : Int) (r : Int) (h : laws_szByteS u p0 p1 = some r) : CallOK Try.prog 54 [.one (.t (.sl 1 (p0.map (eInt .u8)))), .one (.t (.int .i64 p1))] (.one (.t (.int .i64 r))) [] := by
  unfold laws_szByteS at h
  refine CallOK.of_bodyK (fn := Try.f54) (m := false) [.t (.sl 1 (p0.map (eInt .u8))), .t (.int .i64 p1)] (by kernel_rfl) rfl (by kernel_rfl) (by kernel_rfl) (by kernel_rfl) (by kernel_rfl) (by kernel_rfl) ?_
  refine Wp.seq ?_
  refine Wp.regionS (pOf []) (rhoOf []) (by kernel_rfl) ?_
  refine Runs.all (by kernel_rfl) ?_
  refine thenN ?_
  refine Wp.le (Le.of (s := ⟨[(0, .t (.sl 1 (p0.map (eInt .u8)))), (1, .t (.int .i64 p1)), (4, .t (.int .i64 0))], [], []⟩) (mo := []) (mr := []) (by kernel_rfl) (by kernel_rfl) (by kernel_rfl) (by kernel_rfl)) ?_
  refine Wp.seq ?_
  refine Wp.regionS (pOf []) (rhoOf []) (by kernel_rfl) ?_
  refine Runs.batch 2 (by kernel_rfl) ?_
  refine Runs.lenT (y := .t (.sl 1 (p0.map (eInt .u8)))) (e := 5) (eInt .u8) p0 1 rfl rfl rfl (by kernel_rfl) (by kernel_rfl) (by kernel_rfl) (by kernel_rfl) (by kernel_rfl) ?_
  refine Runs.all (by kernel_rfl) ?_
  refine thenN ?_
  refine Wp.le (Le.of (s := ⟨[(1, .t (.int .i64 (bSub .i64 p1 ((p0.length : Int))))), (4, .t (.int .i64 0))], [], []⟩) (mo := []) (mr := []) (by kernel_rfl) (by kernel_rfl) (by kernel_rfl) (by kernel_rfl)) ?_
  refine Wp.seq ?_
  refine Wp.seq ?_
  refine Wp.regionS (pOf []) (rhoOf []) (by kernel_rfl) ?_
  refine Runs.all (by kernel_rfl) ?_
  refine thenN ?_
  refine Wp.le (Le.of (s := ⟨[(1, .t (.int .i64 (bSub .i64 p1 ((p0.length : Int))))), (4, .t (.int .i64 0)), (10, .t (.bool (decide ((bSub .i64 p1 ((p0.length : Int))) < 0))))], [], []⟩) (mo := []) (mr := []) (by kernel_rfl) (by kernel_rfl) (by kernel_rfl) (by kernel_rfl)) ?_
  refine Wp.cond2 (b := decide ((bSub .i64 p1 ((p0.length : Int))) < 0)) (by kernel_rfl) (fun hc => ?_) (fun hc => ?_)
  · have h := cond_t h hc
    refine Wp.seq ?_
    refine Wp.regionS (pOf []) (rhoOf []) (by kernel_rfl) ?_
    refine Runs.all (by kernel_rfl) ?_
    refine thenN ?_
    refine Wp.le (Le.of (s := ⟨[(1, .t (.int .i64 (bSub .i64 p1 ((p0.length : Int))))), (4, .t (.int .i64 (-1)))], [], []⟩) (mo := []) (mr := []) (by kernel_rfl) (by kernel_rfl) (by kernel_rfl) (by kernel_rfl)) ?_
    refine Wp.ret ?_
    refine thenR ?_
    have hr := Option.some.inj h
    subst hr
    exact RetK [.t (.int .i64 (-1))] (.one (.t (.int .i64 (-1)))) [] (by kernel_rfl) (by kernel_rfl) (.refl _) .nil
  · have h := cond_f h hc
    refine Wp.skip ?_
    refine thenN ?_
    refine Wp.seq ?_
    refine Wp.regionS (pOf []) (rhoOf []) (by kernel_rfl) ?_
    refine Runs.all (by kernel_rfl) ?_
    refine thenN ?_
    refine Wp.le (Le.of (s := ⟨[(4, .t (.int .i64 (bSub .i64 p1 ((p0.length : Int)))))], [], []⟩) (mo := []) (mr := []) (by kernel_rfl) (by kernel_rfl) (by kernel_rfl) (by kernel_rfl)) ?_
    refine Wp.ret ?_
    have hr := Option.some.inj h
    subst hr
    exact RetK [.t (.int .i64 (bSub .i64 p1 ((p0.length : Int))))] (.one (.t (.int .i64 (bSub .i64 p1 ((p0.length : Int)))))) [] (by kernel_rfl) (by kernel_rfl) (.refl _) .nil
theorem laws_szImage_ok (u : Nat) (p0 : Image) (p1 : Int) (r : Int) (h : laws_szImage u p0 p1 = some r) : CallOK Try.prog 42 [.agg [.t (.sl 1 (p0.fB.map (eInt .u8)))], .one (.t (.int .i64 p1))] (.one (.t (.int .i64 r))) [] := by
  unfold laws_szImage at h
  refine CallOK.of_bodyK (fn := Try.f42) (m := false) [.agg [.t (.sl 1 (p0.fB.map (eInt .u8)))], .t (.int .i64 p1)] (by kernel_rfl) rfl (by kernel_rfl) (by kernel_rfl) (by kernel_rfl) (by kernel_rfl) (by kernel_rfl) ?_
  refine Wp.seq ?_
  refine Wp.regionS (pOf []) (rhoOf []) (by kernel_rfl) ?_
  refine Runs.all (by kernel_rfl) ?_
  refine thenN ?_
  refine Wp.le (Le.of (s := ⟨[(1, .t (.int .i64 p1)), (2, .obj 2 0), (4, .t (.int .i64 0))], [(2, [.t (.sl 1 (p0.fB.map (eInt .u8)))])], []⟩) (mo := []) (mr := []) (by kernel_rfl) (by kernel_rfl) (by kernel_rfl) (by kernel_rfl)) ?_
  refine Wp.seq ?_
  refine Wp.regionS (pOf []) (rhoOf []) (by kernel_rfl) ?_
  refine Runs.batch 3 (by kernel_rfl) ?_
  obtain ⟨r1, e_r1, h⟩ := bind_some h
  refine Runs.callK false 8 54 [] [.t (.sl 1 (p0.fB.map (eInt .u8))), .t (.int .i64 p1)] [.one (.t (.sl 1 (p0.fB.map (eInt .u8)))), .one (.t (.int .i64 p1))] (.one (.t (.int .i64 r1))) [] rfl rfl (by kernel_rfl) (by kernel_rfl) (by kernel_rfl) (by kernel_rfl) (by kernel_rfl) (laws_szByteS_ok u p0.fB p1 r1 e_r1) (by kernel_rfl) ?_
  refine Runs.all (by kernel_rfl) ?_
  refine thenN ?_
  refine Wp.le (Le.of (s := ⟨[(1, .t (.int .i64 r1)), (4, .t (.int .i64 0))], [], []⟩) (mo := []) (mr := []) (by kernel_rfl) (by kernel_rfl) (by kernel_rfl) (by kernel_rfl)) ?_
  refine Wp.seq ?_
  refine Wp.seq ?_
  refine Wp.regionS (pOf []) (rhoOf []) (by kernel_rfl) ?_
  refine Runs.all (by kernel_rfl) ?_
  refine thenN ?_
  refine Wp.le (Le.of (s := ⟨[(1, .t (.int .i64 r1)), (4, .t (.int .i64 0)), (10, .t (.bool (decide (r1 < 0))))], [], []⟩) (mo := []) (mr := []) (by kernel_rfl) (by kernel_rfl) (by kernel_rfl) (by kernel_rfl)) ?_
  refine Wp.cond2 (b := decide (r1 < 0)) (by kernel_rfl) (fun hc => ?_) (fun hc => ?_)
  · have h := cond_t h hc
    refine Wp.seq ?_
    refine Wp.regionS (pOf []) (rhoOf []) (by kernel_rfl) ?_
    refine Runs.all (by kernel_rfl) ?_
    refine thenN ?_
    refine Wp.le (Le.of (s := ⟨[(1, .t (.int .i64 r1)), (4, .t (.int .i64 (-1)))], [], []⟩) (mo := []) (mr := []) (by kernel_rfl) (by kernel_rfl) (by kernel_rfl) (by kernel_rfl)) ?_
    refine Wp.ret ?_
    refine thenR ?_
    have hr := Option.some.inj h
    subst hr
    exact RetK [.t (.int .i64 (-1))] (.one (.t (.int .i64 (-1)))) [] (by kernel_rfl) (by kernel_rfl) (.refl _) .nil
  · have h := cond_f h hc
    refine Wp.skip ?_
    refine thenN ?_
    refine Wp.seq ?_
    refine Wp.regionS (pOf []) (rhoOf []) (by kernel_rfl) ?_
    refine Runs.all (by kernel_rfl) ?_
    refine thenN ?_
    refine Wp.le (Le.of (s := ⟨[(4, .t (.int .i64 r1))], [], []⟩) (mo := []) (mr := []) (by kernel_rfl) (by kernel_rfl) (by kernel_rfl) (by kernel_rfl)) ?_
    refine Wp.ret ?_
    have hr := Option.some.inj h
    subst hr
    exact RetK [.t (.int .i64 r1)] (.one (.t (.int .i64 r1))) [] (by kernel_rfl) (by kernel_rfl) (.refl _) .nil
theorem laws_szImageS_ok (u : Nat) (p0 : List Image) (p1 : Int) (r : Int) (h : laws_szImageS u p0 p1 = some r) : CallOK Try.prog 17 [.one (.t (.sl 1 (p0.map Image.enc))), .one (.t (.int .i64 p1))] (.one (.t (.int .i64 r))) [] := by
  unfold laws_szImageS at h
  refine CallOK.of_bodyK (fn := Try.f17) (m := false) [.t (.sl 1 (p0.map Image.enc)), .t (.int .i64 p1)] (by kernel_rfl) rfl (by kernel_rfl) (by kernel_rfl) (by kernel_rfl) (by kernel_rfl) (by kernel_rfl) ?_
  refine Wp.seq ?_
  refine Wp.regionS (pOf []) (rhoOf []) (by kernel_rfl) ?_
  refine Runs.all (by kernel_rfl) ?_
  refine thenN ?_
  refine Wp.le (Le.of (s := ⟨[(0, .t (.sl 1 (p0.map Image.enc))), (1, .t (.int .i64 p1)), (4, .t (.int .i64 0))], [], []⟩) (mo := []) (mr := []) (by kernel_rfl) (by kernel_rfl) (by kernel_rfl) (by kernel_rfl)) ?_
  refine Wp.seq ?_
  refine Wp.regionS (pOf []) (rhoOf []) (by kernel_rfl) ?_
  refine Runs.batch 2 (by kernel_rfl) ?_
  refine Runs.lenT (y := .t (.sl 1 (p0.map Image.enc))) (e := 70) Image.enc p0 1 rfl rfl rfl (by kernel_rfl) (by kernel_rfl) (by kernel_rfl) (by kernel_rfl) (by kernel_rfl) ?_
  refine Runs.all (by kernel_rfl) ?_
  refine thenN ?_
  refine Wp.le (Le.of (s := ⟨[(0, .t (.sl 1 (p0.map Image.enc))), (1, .t (.int .i64 (bSub .i64 p1 ((p0.length : Int))))), (4, .t (.int .i64 0))], [], []⟩) (mo := []) (mr := []) (by kernel_rfl) (by kernel_rfl) (by kernel_rfl) (by kernel_rfl)) ?_
  refine Wp.seq ?_
  refine Wp.seq ?_
  refine Wp.regionS (pOf []) (rhoOf []) (by kernel_rfl) ?_
  refine Runs.all (by kernel_rfl) ?_
  refine thenN ?_
  refine Wp.le (Le.of (s := ⟨[(0, .t (.sl 1 (p0.map Image.enc))), (1, .t (.int .i64 (bSub .i64 p1 ((p0.length : Int))))), (4, .t (.int .i64 0)), (11, .t (.bool (decide ((bSub .i64 p1 ((p0.length : Int))) < 0))))], [], []⟩) (mo := []) (mr := []) (by kernel_rfl) (by kernel_rfl) (by kernel_rfl) (by kernel_rfl)) ?_
  refine Wp.cond2 (b := decide ((bSub .i64 p1 ((p0.length : Int))) < 0)) (by kernel_rfl) (fun hc => ?_) (fun hc => ?_)
  · have h := cond_t h hc
    refine Wp.seq ?_
    refine Wp.regionS (pOf []) (rhoOf []) (by kernel_rfl) ?_
    refine Runs.all (by kernel_rfl) ?_
    refine thenN ?_
    refine Wp.le (Le.of (s := ⟨[(0, .t (.sl 1 (p0.map Image.enc))), (1, .t (.int .i64 (bSub .i64 p1 ((p0.length : Int))))), (4, .t (.int .i64 (-1)))], [], []⟩) (mo := []) (mr := []) (by kernel_rfl) (by kernel_rfl) (by kernel_rfl) (by kernel_rfl)) ?_
    refine Wp.ret ?_
    refine thenR ?_
    have hr := Option.some.inj h
    subst hr
    exact RetK [.t (.int .i64 (-1))] (.one (.t (.int .i64 (-1)))) [] (by kernel_rfl) (by kernel_rfl) (.refl _) .nil
  · have h := cond_f h hc
    refine Wp.skip ?_
    refine thenN ?_
    refine Wp.seqJ (α := Int) (fun a => ⟨[(1, .t (.int .i64 a)), (4, .t (.int .i64 0))], [], []⟩) (fun a => laws_szImageS_j1 u a = some r) ?_ ?_
    · rintro x9 h
      change laws_szImageS_j1 u x9 = some r at h
      unfold laws_szImageS_j1 at h
      refine Wp.seq ?_
      refine Wp.regionS (pOf []) (rhoOf []) (by kernel_rfl) ?_
      refine Runs.all (by kernel_rfl) ?_
      refine thenN ?_
      refine Wp.le (Le.of (s := ⟨[(4, .t (.int .i64 x9))], [], []⟩) (mo := []) (mr := []) (by kernel_rfl) (by kernel_rfl) (by kernel_rfl) (by kernel_rfl)) ?_
      refine Wp.ret ?_
      have hr := Option.some.inj h
      subst hr
      exact RetK [.t (.int .i64 x9)] (.one (.t (.int .i64 x9))) [] (by kernel_rfl) (by kernel_rfl) (.refl _) .nil
    · refine Wp.seq ?_
      refine Wp.regionS (pOf []) (rhoOf []) (by kernel_rfl) ?_
      refine Runs.all (by kernel_rfl) ?_
      refine thenN ?_
      refine Wp.le (Le.of (s := ⟨[(0, .t (.sl 1 (p0.map Image.enc))), (1, .t (.int .i64 (bSub .i64 p1 ((p0.length : Int))))), (4, .t (.int .i64 0)), (5, .t (.int .i64 0))], [], []⟩) (mo := []) (mr := []) (by kernel_rfl) (by kernel_rfl) (by kernel_rfl) (by kernel_rfl)) ?_
      refine Wp.block ?_
      refine Wp.loopF (α := (List Image) × Int × Int) (fun a => ⟨[(0, .t (.sl 1 (a.1.map Image.enc))), (1, .t (.int .i64 a.2.1)), (4, .t (.int .i64 0)), (5, .t (.int .i64 a.2.2))], [], []⟩) (fun k_laws_szImageS_l2 a => laws_szImageS_l2 u k_laws_szImageS_l2 a.1 a.2.1 a.2.2 = some r) ?_ ?_ u (p0, bSub .i64 p1 ((p0.length : Int)), 0) h (Le.of (mo := []) (mr := []) (by kernel_rfl) (by kernel_rfl) (by kernel_rfl) (by kernel_rfl))
      · intro a h; unfold laws_szImageS_l2 at h; cases h
      · rintro k_laws_szImageS_l2 ⟨p0, x3, x4⟩ h
        change laws_szImageS_l2 u (k_laws_szImageS_l2 + 1) p0 x3 x4 = some r at h
        rw [laws_szImageS_l2] at h
        refine Wp.seq ?_
        refine Wp.seq ?_
        refine Wp.regionS (pOf []) (rhoOf []) (by kernel_rfl) ?_
        refine Runs.batch 2 (by kernel_rfl) ?_
        refine Runs.lenT (y := .t (.sl 1 (p0.map Image.enc))) (e := 70) Image.enc p0 1 rfl rfl rfl (by kernel_rfl) (by kernel_rfl) (by kernel_rfl) (by kernel_rfl) (by kernel_rfl) ?_
        refine Runs.all (by kernel_rfl) ?_
        refine thenN ?_
        refine Wp.le (Le.of (s := ⟨[(0, .t (.sl 1 (p0.map Image.enc))), (1, .t (.int .i64 x3)), (4, .t (.int .i64 0)), (5, .t (.int .i64 x4)), (12, .t (.int .i64 x4)), (13, .t (.sl 1 (p0.map Image.enc))), (14, .t (.int .i64 ((p0.length : Int)))), (15, .t (.bool (decide (x4 < ((p0.length : Int))))))], [], []⟩) (mo := []) (mr := []) (by kernel_rfl) (by kernel_rfl) (by kernel_rfl) (by kernel_rfl)) ?_
        refine Wp.cond2 (b := decide (x4 < ((p0.length : Int)))) (by kernel_rfl) (fun hc => ?_) (fun hc => ?_)
        · have h := cond_t h hc
          refine Wp.skip ?_
          refine thenN ?_
          refine Wp.seq ?_
          refine Wp.block ?_
          refine Wp.seq ?_
          refine Wp.regionS (pOf []) (rhoOf []) (by kernel_rfl) ?_
          refine Runs.batch 2 (by kernel_rfl) ?_
          obtain ⟨y7, e_y7, h⟩ := bind_some h
          refine Runs.idxT (e := 70) (kk := .i64) (sz := 1) Image.enc p0 x4 rfl (by kernel_rfl) (by kernel_rfl) (by kernel_rfl) (by kernel_rfl) (by kernel_rfl) (by kernel_rfl) e_y7 ?_
          refine Runs.batch 2 (by kernel_rfl) ?_
          obtain ⟨r8, e_r8, h⟩ := bind_some h
          refine Runs.callK false 23 42 [] [.agg [.t (.sl 1 (y7.fB.map (eInt .u8)))], .t (.int .i64 x3)] [.agg [.t (.sl 1 (y7.fB.map (eInt .u8)))], .one (.t (.int .i64 x3))] (.one (.t (.int .i64 r8))) [] rfl rfl (by kernel_rfl) (by kernel_rfl) (by kernel_rfl) (by kernel_rfl) (by kernel_rfl) (laws_szImage_ok u y7 x3 r8 e_r8) (by kernel_rfl) ?_
          refine Runs.all (by kernel_rfl) ?_
          refine thenN ?_
          refine Wp.le (Le.of (s := ⟨[(0, .t (.sl 1 (p0.map Image.enc))), (1, .t (.int .i64 r8)), (4, .t (.int .i64 0)), (5, .t (.int .i64 x4)), (12, .t (.int .i64 x4)), (13, .t (.sl 1 (p0.map Image.enc))), (14, .t (.int .i64 ((p0.length : Int)))), (15, .t (.bool (decide (x4 < ((p0.length : Int)))))), (18, .t (.sl 1 (p0.map Image.enc))), (19, .t (.int .i64 x4)), (20, .fadr [.sl 1 (y7.fB.map (eInt .u8))]), (21, .agg [.t (.sl 1 (y7.fB.map (eInt .u8)))]), (22, .t (.int .i64 x3)), (23, .t (.int .i64 r8))], [], []⟩) (mo := []) (mr := []) (by kernel_rfl) (by kernel_rfl) (by kernel_rfl) (by kernel_rfl)) ?_
          refine Wp.seq ?_
          refine Wp.regionS (pOf []) (rhoOf []) (by kernel_rfl) ?_
          refine Runs.all (by kernel_rfl) ?_
          refine thenN ?_
          refine Wp.le (Le.of (s := ⟨[(0, .t (.sl 1 (p0.map Image.enc))), (1, .t (.int .i64 r8)), (4, .t (.int .i64 0)), (5, .t (.int .i64 x4)), (12, .t (.int .i64 x4)), (13, .t (.sl 1 (p0.map Image.enc))), (14, .t (.int .i64 ((p0.length : Int)))), (15, .t (.bool (decide (x4 < ((p0.length : Int)))))), (18, .t (.sl 1 (p0.map Image.enc))), (19, .t (.int .i64 x4)), (20, .fadr [.sl 1 (y7.fB.map (eInt .u8))]), (21, .agg [.t (.sl 1 (y7.fB.map (eInt .u8)))]), (22, .t (.int .i64 x3)), (23, .t (.int .i64 r8)), (24, .t (.int .i64 r8)), (25, .t (.bool (decide (r8 < 0))))], [], []⟩) (mo := []) (mr := []) (by kernel_rfl) (by kernel_rfl) (by kernel_rfl) (by kernel_rfl)) ?_
          refine Wp.cond2 (b := decide (r8 < 0)) (by kernel_rfl) (fun hc => ?_) (fun hc => ?_)
          · have h := cond_t h hc
            refine Wp.seq ?_
            refine Wp.regionS (pOf []) (rhoOf []) (by kernel_rfl) ?_
            refine Runs.all (by kernel_rfl) ?_
            refine thenN ?_
            refine Wp.le (Le.of (s := ⟨[(0, .t (.sl 1 (p0.map Image.enc))), (1, .t (.int .i64 r8)), (4, .t (.int .i64 (-1))), (5, .t (.int .i64 x4)), (12, .t (.int .i64 x4)), (13, .t (.sl 1 (p0.map Image.enc))), (14, .t (.int .i64 ((p0.length : Int)))), (15, .t (.bool (decide (x4 < ((p0.length : Int)))))), (18, .t (.sl 1 (p0.map Image.enc))), (19, .t (.int .i64 x4)), (20, .fadr [.sl 1 (y7.fB.map (eInt .u8))]), (21, .agg [.t (.sl 1 (y7.fB.map (eInt .u8)))]), (22, .t (.int .i64 x3)), (23, .t (.int .i64 r8)), (24, .t (.int .i64 r8)), (25, .t (.bool (decide (r8 < 0))))], [], []⟩) (mo := []) (mr := []) (by kernel_rfl) (by kernel_rfl) (by kernel_rfl) (by kernel_rfl)) ?_
            refine Wp.ret ?_
            refine blkR ?_
            refine thenR ?_
            refine thenR ?_
            refine blkR ?_
            refine thenR ?_
            have hr := Option.some.inj h
            subst hr
            exact RetK [.t (.int .i64 (-1))] (.one (.t (.int .i64 (-1)))) [] (by kernel_rfl) (by kernel_rfl) (.refl _) .nil
          · have h := cond_f h hc
            refine Wp.skip ?_
            refine blkN ?_
            refine thenN ?_
            refine Wp.regionS (pOf []) (rhoOf []) (by kernel_rfl) ?_
            refine Runs.all (by kernel_rfl) ?_
            refine thenN ?_
            exact ⟨(p0, r8, bAdd .i64 x4 1), h, Le.of (mo := []) (mr := []) (by kernel_rfl) (by kernel_rfl) (by kernel_rfl) (by kernel_rfl)⟩
        · have h := cond_f h hc
          refine Wp.exit ?_
          refine thenE ?_
          refine thenE ?_
          refine blkE ?_
          refine thenN ?_
          exact ⟨x3, h, Le.of (mo := []) (mr := []) (by kernel_rfl) (by kernel_rfl) (by kernel_rfl) (by kernel_rfl)⟩
theorem laws_toByteS_ok (u : Nat) (p0 : List Int) (r : (List Int)) (h : laws_toByteS u p0 = some r) : CallOK Try.prog 14 [.one (.t (.sl 1 (p0.map (eInt .u8))))] (.one (.ow 5 1 (r.map (eInt .u8)))) [] := by
  unfold laws_toByteS at h
  refine CallOK.of_bodyK (fn := Try.f14) (m := true) [.t (.sl 1 (p0.map (eInt .u8)))] (by kernel_rfl) rfl (by kernel_rfl) (by kernel_rfl) (by kernel_rfl) (by kernel_rfl) (by kernel_rfl) ?_
  refine Wp.seq ?_
  refine Wp.regionS (pOf []) (rhoOf []) (by kernel_rfl) ?_
  refine Runs.all (by kernel_rfl) ?_
  refine thenN ?_
  refine Wp.le (Le.of (s := ⟨[(0, .t (.sl 1 (p0.map (eInt .u8)))), (2, .nil)], [], []⟩) (mo := []) (mr := []) (by kernel_rfl) (by kernel_rfl) (by kernel_rfl) (by kernel_rfl)) ?_
  refine Wp.seq ?_
  refine Wp.regionS (pOf []) (rhoOf []) (by kernel_rfl) ?_
  refine Runs.batch 1 (by kernel_rfl) ?_
  refine Runs.lenT (y := .t (.sl 1 (p0.map (eInt .u8)))) (e := 5) (eInt .u8) p0 1 rfl rfl rfl (by kernel_rfl) (by kernel_rfl) (by kernel_rfl) (by kernel_rfl) (by kernel_rfl) ?_
  obtain ⟨_, e_1, h⟩ := bind_some h
  obtain ⟨_, e_2, h⟩ := bind_some h
  refine Runs.mkS (eInt .u8) (0 : Int) 7 5 1 1 ((p0.length : Int)) ((p0.length : Int)) rfl rfl (by kernel_rfl) (by kernel_rfl) (by kernel_rfl) (by kernel_rfl) (by kernel_rfl) (by kernel_rfl) (chk_some e_1) (of_decide_eq_true (chk_some e_2)) (by kernel_rfl) ?_
  refine Runs.all (by kernel_rfl) ?_
  refine thenN ?_
  refine Wp.le (Le.of (s := ⟨[(0, .t (.sl 1 (p0.map (eInt .u8)))), (2, .nil), (3, .own 458752)], [], [(458752, .live 5 1 ((List.replicate (Int.toNat ((p0.length : Int))) (0 : Int)).map (eInt .u8)))]⟩) (mo := []) (mr := []) (by kernel_rfl) (by kernel_rfl) (by kernel_rfl) (by kernel_rfl)) ?_
  refine Wp.seqJ (α := (List Int)) (fun a => ⟨[(2, .nil), (3, .own 196609)], [], [(196609, .live 5 1 (a.map (eInt .u8)))]⟩) (fun a => laws_toByteS_j1 u a = some r) ?_ ?_
  · rintro x11 h
    change laws_toByteS_j1 u x11 = some r at h
    unfold laws_toByteS_j1 at h
    refine Wp.seq ?_
    refine Wp.regionS (pOf []) (rhoOf []) (by kernel_rfl) ?_
    refine Runs.all (by kernel_rfl) ?_
    refine thenN ?_
    refine Wp.le (Le.of (s := ⟨[(2, .own 196609)], [], [(196609, .live 5 1 (x11.map (eInt .u8)))]⟩) (mo := []) (mr := []) (by kernel_rfl) (by kernel_rfl) (by kernel_rfl) (by kernel_rfl)) ?_
    refine Wp.ret ?_
    have hr := Option.some.inj h
    subst hr
    exact RetK [.own 196609] (.one (.ow 5 1 (x11.map (eInt .u8)))) [] (by kernel_rfl) (by kernel_rfl) (.refl _) .nil
  · refine Wp.seq ?_
    refine Wp.regionS (pOf []) (rhoOf []) (by kernel_rfl) ?_
    refine Runs.all (by kernel_rfl) ?_
    refine thenN ?_
    refine Wp.le (Le.of (s := ⟨[(0, .t (.sl 1 (p0.map (eInt .u8)))), (2, .nil), (3, .own 458752), (4, .t (.int .i64 0))], [], [(458752, .live 5 1 ((List.replicate (Int.toNat ((p0.length : Int))) (0 : Int)).map (eInt .u8)))]⟩) (mo := []) (mr := []) (by kernel_rfl) (by kernel_rfl) (by kernel_rfl) (by kernel_rfl)) ?_
    refine Wp.block ?_
    refine Wp.loopF (α := (List Int) × (List Int) × Int) (fun a => ⟨[(0, .t (.sl 1 (a.1.map (eInt .u8)))), (2, .nil), (3, .own 196609), (4, .t (.int .i64 a.2.2))], [], [(196609, .live 5 1 (a.2.1.map (eInt .u8)))]⟩) (fun k_laws_toByteS_l2 a => laws_toByteS_l2 u k_laws_toByteS_l2 a.1 a.2.1 a.2.2 = some r) ?_ ?_ u (p0, List.replicate (Int.toNat ((p0.length : Int))) (0 : Int), 0) h (Le.of (mo := []) (mr := [(196609, 458752)]) (by kernel_rfl) (by kernel_rfl) (by kernel_rfl) (by kernel_rfl))
    · intro a h; unfold laws_toByteS_l2 at h; cases h
    · rintro k_laws_toByteS_l2 ⟨p0, x5, x6⟩ h
      change laws_toByteS_l2 u (k_laws_toByteS_l2 + 1) p0 x5 x6 = some r at h
      rw [laws_toByteS_l2] at h
      refine Wp.seq ?_
      refine Wp.seq ?_
      refine Wp.regionS (pOf []) (rhoOf []) (by kernel_rfl) ?_
      refine Runs.batch 2 (by kernel_rfl) ?_
      refine Runs.lenT (y := .t (.sl 1 (p0.map (eInt .u8)))) (e := 5) (eInt .u8) p0 1 rfl rfl rfl (by kernel_rfl) (by kernel_rfl) (by kernel_rfl) (by kernel_rfl) (by kernel_rfl) ?_
      refine Runs.all (by kernel_rfl) ?_
      refine thenN ?_
      refine Wp.le (Le.of (s := ⟨[(0, .t (.sl 1 (p0.map (eInt .u8)))), (2, .nil), (3, .own 196609), (4, .t (.int .i64 x6)), (8, .t (.int .i64 x6)), (9, .t (.sl 1 (p0.map (eInt .u8)))), (10, .t (.int .i64 ((p0.length : Int)))), (11, .t (.bool (decide (x6 < ((p0.length : Int))))))], [], [(196609, .live 5 1 (x5.map (eInt .u8)))]⟩) (mo := []) (mr := []) (by kernel_rfl) (by kernel_rfl) (by kernel_rfl) (by kernel_rfl)) ?_
      refine Wp.cond2 (b := decide (x6 < ((p0.length : Int)))) (by kernel_rfl) (fun hc => ?_) (fun hc => ?_)
      · have h := cond_t h hc
        refine Wp.skip ?_
        refine thenN ?_
        refine Wp.seq ?_
        refine Wp.block ?_
        refine Wp.regionS (pOf []) (rhoOf []) (by kernel_rfl) ?_
        refine Runs.batch 4 (by kernel_rfl) ?_
        obtain ⟨y9, e_y9, h⟩ := bind_some h
        refine Runs.idxT (e := 5) (kk := .i64) (sz := 1) (eInt .u8) p0 x6 rfl (by kernel_rfl) (by kernel_rfl) (by kernel_rfl) (by kernel_rfl) (by kernel_rfl) (by kernel_rfl) e_y9 ?_
        refine Runs.batch 1 (by kernel_rfl) ?_
        obtain ⟨y10, e_y10, h⟩ := bind_some h
        refine Runs.idxO (e := 5) (e' := 5) (kk := .i64) (sz := 1) (eInt .u8) x5 x6 196609 rfl (by kernel_rfl) (by kernel_rfl) (by kernel_rfl) (by kernel_rfl) (by kernel_rfl) (by kernel_rfl) (by kernel_rfl) e_y10 ?_
        refine Runs.storeT (e := 5) (sz := 1) (m := 1) (eInt .u8) x5 196609 (Int.toNat x6) 0 y9 (.t (.int .u8 y9)) [.int .u8 y9] rfl (by kernel_rfl) (by kernel_rfl) (by kernel_rfl) (by kernel_rfl) (by kernel_rfl) (by kernel_rfl) (by kernel_rfl) (by kernel_rfl) (idx_some e_y10).2 (by kernel_rfl) (by kernel_rfl) ?_
        refine Runs.done ?_
        refine blkN ?_
        refine thenN ?_
        refine Wp.regionS (pOf []) (rhoOf []) (by kernel_rfl) ?_
        refine Runs.all (by kernel_rfl) ?_
        refine thenN ?_
        exact ⟨(p0, x5.set (Int.toNat x6) y9, bAdd .i64 x6 1), h, Le.of (mo := []) (mr := []) (by kernel_rfl) (by kernel_rfl) (by kernel_rfl) (by kernel_rfl)⟩
      · have h := cond_f h hc
        refine Wp.exit ?_
        refine thenE ?_
        refine thenE ?_
        refine blkE ?_
        refine thenN ?_
        exact ⟨x5, h, Le.of (mo := []) (mr := []) (by kernel_rfl) (by kernel_rfl) (by kernel_rfl) (by kernel_rfl)⟩
theorem laws_toImage_ok (u : Nat) (p0 : Image) (r : Image) (h : laws_toImage u p0 = some r) : CallOK Try.prog 47 [.agg [.t (.sl 1 (p0.fB.map (eInt .u8)))]] (.agg [.ow 5 1 (r.fB.map (eInt .u8))]) [] := by
  unfold laws_toImage at h
  refine CallOK.of_bodyK (fn := Try.f47) (m := true) [.agg [.t (.sl 1 (p0.fB.map (eInt .u8)))]] (by kernel_rfl) rfl (by kernel_rfl) (by kernel_rfl) (by kernel_rfl) (by kernel_rfl) (by kernel_rfl) ?_
  refine Wp.seq ?_
  refine Wp.regionS (pOf []) (rhoOf []) (by kernel_rfl) ?_
  refine Runs.all (by kernel_rfl) ?_
  refine thenN ?_
  refine Wp.le (Le.of (s := ⟨[(1, .obj 1 0), (2, .obj 2 0)], [(1, [.t (.sl 1 (p0.fB.map (eInt .u8)))]), (2, [.nil])], []⟩) (mo := []) (mr := []) (by kernel_rfl) (by kernel_rfl) (by kernel_rfl) (by kernel_rfl)) ?_
  refine Wp.seq ?_
  refine Wp.regionS (pOf []) (rhoOf []) (by kernel_rfl) ?_
  refine Runs.all (by kernel_rfl) ?_
  refine thenN ?_
  refine Wp.le (Le.of (s := ⟨[(1, .obj 1 0), (2, .obj 2 0), (3, .obj 3 0)], [(1, [.t (.sl 1 (p0.fB.map (eInt .u8)))]), (2, [.nil]), (3, [.nil])], []⟩) (mo := []) (mr := []) (by kernel_rfl) (by kernel_rfl) (by kernel_rfl) (by kernel_rfl)) ?_
  refine Wp.seq ?_
  refine Wp.regionS (pOf []) (rhoOf []) (by kernel_rfl) ?_
  refine Runs.batch 2 (by kernel_rfl) ?_
  obtain ⟨r1, e_r1, h⟩ := bind_some h
  refine Runs.callK false 6 14 [] [.t (.sl 1 (p0.fB.map (eInt .u8)))] [.one (.t (.sl 1 (p0.fB.map (eInt .u8))))] (.one (.ow 5 1 (r1.map (eInt .u8)))) [] rfl rfl (by kernel_rfl) (by kernel_rfl) (by kernel_rfl) (by kernel_rfl) (by kernel_rfl) (laws_toByteS_ok u p0.fB r1 e_r1) (by kernel_rfl) ?_
  refine Runs.all (by kernel_rfl) ?_
  refine thenN ?_
  refine Wp.le (Le.of (s := ⟨[(2, .obj 2 0), (3, .obj 3 0)], [(2, [.nil]), (3, [.own 393216])], [(393216, .live 5 1 (r1.map (eInt .u8)))]⟩) (mo := []) (mr := []) (by kernel_rfl) (by kernel_rfl) (by kernel_rfl) (by kernel_rfl)) ?_
  refine Wp.seq ?_
  refine Wp.regionS (pOf []) (rhoOf []) (by kernel_rfl) ?_
  refine Runs.all (by kernel_rfl) ?_
  refine thenN ?_
  refine Wp.le (Le.of (s := ⟨[(2, .obj 2 0)], [(2, [.own 393216])], [(393216, .live 5 1 (r1.map (eInt .u8)))]⟩) (mo := []) (mr := []) (by kernel_rfl) (by kernel_rfl) (by kernel_rfl) (by kernel_rfl)) ?_
  refine Wp.ret ?_
  have hr := Option.some.inj h
  subst hr
  exact RetK [.agg [.own 393216]] (.agg [.ow 5 1 (r1.map (eInt .u8))]) [] (by kernel_rfl) (by kernel_rfl) (.refl _) .nil
theorem laws_toImageS_ok (u : Nat) (p0 : List Image) (r : (List Image)) (h : laws_toImageS u p0 = some r) : CallOK Try.prog 19 [.one (.t (.sl 1 (p0.map Image.enc)))] (.one (.ow 67 1 (r.map Image.enc))) [] := by
  unfold laws_toImageS at h
  refine CallOK.of_bodyK (fn := Try.f19) (m := true) [.t (.sl 1 (p0.map Image.enc))] (by kernel_rfl) rfl (by kernel_rfl) (by kernel_rfl) (by kernel_rfl) (by kernel_rfl) (by kernel_rfl) ?_
  refine Wp.seq ?_
  refine Wp.regionS (pOf []) (rhoOf []) (by kernel_rfl) ?_
  refine Runs.all (by kernel_rfl) ?_
  refine thenN ?_
  refine Wp.le (Le.of (s := ⟨[(0, .t (.sl 1 (p0.map Image.enc))), (2, .nil)], [], []⟩) (mo := []) (mr := []) (by kernel_rfl) (by kernel_rfl) (by kernel_rfl) (by kernel_rfl)) ?_
  refine Wp.seq ?_
  refine Wp.regionS (pOf []) (rhoOf []) (by kernel_rfl) ?_
  refine Runs.batch 1 (by kernel_rfl) ?_
  refine Runs.lenT (y := .t (.sl 1 (p0.map Image.enc))) (e := 70) Image.enc p0 1 rfl rfl rfl (by kernel_rfl) (by kernel_rfl) (by kernel_rfl) (by kernel_rfl) (by kernel_rfl) ?_
  obtain ⟨_, e_1, h⟩ := bind_some h
  obtain ⟨_, e_2, h⟩ := bind_some h
  refine Runs.mkS Image.enc ((Image.mk ([])) : Image) 7 67 1 24 ((p0.length : Int)) ((p0.length : Int)) rfl rfl (by kernel_rfl) (by kernel_rfl) (by kernel_rfl) (by kernel_rfl) (by kernel_rfl) (by kernel_rfl) (chk_some e_1) (of_decide_eq_true (chk_some e_2)) (by kernel_rfl) ?_
  refine Runs.all (by kernel_rfl) ?_
  refine thenN ?_
  refine Wp.le (Le.of (s := ⟨[(0, .t (.sl 1 (p0.map Image.enc))), (2, .nil), (3, .own 458752)], [], [(458752, .live 67 1 ((List.replicate (Int.toNat ((p0.length : Int))) ((Image.mk ([])) : Image)).map Image.enc))]⟩) (mo := []) (mr := []) (by kernel_rfl) (by kernel_rfl) (by kernel_rfl) (by kernel_rfl)) ?_
  refine Wp.seqJ (α := (List Image)) (fun a => ⟨[(2, .nil), (3, .own 196609)], [], [(196609, .live 67 1 (a.map Image.enc))]⟩) (fun a => laws_toImageS_j1 u a = some r) ?_ ?_
  · rintro x12 h
    change laws_toImageS_j1 u x12 = some r at h
    unfold laws_toImageS_j1 at h
    refine Wp.seq ?_
    refine Wp.regionS (pOf []) (rhoOf []) (by kernel_rfl) ?_
    refine Runs.all (by kernel_rfl) ?_
    refine thenN ?_
    refine Wp.le (Le.of (s := ⟨[(2, .own 196609)], [], [(196609, .live 67 1 (x12.map Image.enc))]⟩) (mo := []) (mr := []) (by kernel_rfl) (by kernel_rfl) (by kernel_rfl) (by kernel_rfl)) ?_
    refine Wp.ret ?_
    have hr := Option.some.inj h
    subst hr
    exact RetK [.own 196609] (.one (.ow 67 1 (x12.map Image.enc))) [] (by kernel_rfl) (by kernel_rfl) (.refl _) .nil
  · refine Wp.seq ?_
    refine Wp.regionS (pOf []) (rhoOf []) (by kernel_rfl) ?_
    refine Runs.all (by kernel_rfl) ?_
    refine thenN ?_
    refine Wp.le (Le.of (s := ⟨[(0, .t (.sl 1 (p0.map Image.enc))), (2, .nil), (3, .own 458752), (4, .t (.int .i64 0))], [], [(458752, .live 67 1 ((List.replicate (Int.toNat ((p0.length : Int))) ((Image.mk ([])) : Image)).map Image.enc))]⟩) (mo := []) (mr := []) (by kernel_rfl) (by kernel_rfl) (by kernel_rfl) (by kernel_rfl)) ?_
    refine Wp.block ?_
    refine Wp.loopF (α := (List Image) × (List Image) × Int) (fun a => ⟨[(0, .t (.sl 1 (a.1.map Image.enc))), (2, .nil), (3, .own 196609), (4, .t (.int .i64 a.2.2))], [], [(196609, .live 67 1 (a.2.1.map Image.enc))]⟩) (fun k_laws_toImageS_l2 a => laws_toImageS_l2 u k_laws_toImageS_l2 a.1 a.2.1 a.2.2 = some r) ?_ ?_ u (p0, List.replicate (Int.toNat ((p0.length : Int))) ((Image.mk ([])) : Image), 0) h (Le.of (mo := []) (mr := [(196609, 458752)]) (by kernel_rfl) (by kernel_rfl) (by kernel_rfl) (by kernel_rfl))
    · intro a h; unfold laws_toImageS_l2 at h; cases h
    · rintro k_laws_toImageS_l2 ⟨p0, x5, x6⟩ h
      change laws_toImageS_l2 u (k_laws_toImageS_l2 + 1) p0 x5 x6 = some r at h
      rw [laws_toImageS_l2] at h
      refine Wp.seq ?_
      refine Wp.seq ?_
      refine Wp.regionS (pOf []) (rhoOf []) (by kernel_rfl) ?_
      refine Runs.batch 2 (by kernel_rfl) ?_
      refine Runs.lenT (y := .t (.sl 1 (p0.map Image.enc))) (e := 70) Image.enc p0 1 rfl rfl rfl (by kernel_rfl) (by kernel_rfl) (by kernel_rfl) (by kernel_rfl) (by kernel_rfl) ?_
      refine Runs.all (by kernel_rfl) ?_
      refine thenN ?_
      refine Wp.le (Le.of (s := ⟨[(0, .t (.sl 1 (p0.map Image.enc))), (2, .nil), (3, .own 196609), (4, .t (.int .i64 x6)), (8, .t (.int .i64 x6)), (9, .t (.sl 1 (p0.map Image.enc))), (10, .t (.int .i64 ((p0.length : Int)))), (11, .t (.bool (decide (x6 < ((p0.length : Int))))))], [], [(196609, .live 67 1 (x5.map Image.enc))]⟩) (mo := []) (mr := []) (by kernel_rfl) (by kernel_rfl) (by kernel_rfl) (by kernel_rfl)) ?_
      refine Wp.cond2 (b := decide (x6 < ((p0.length : Int)))) (by kernel_rfl) (fun hc => ?_) (fun hc => ?_)
      · have h := cond_t h hc
        refine Wp.skip ?_
        refine thenN ?_
        refine Wp.seq ?_
        refine Wp.block ?_
        refine Wp.regionS (pOf []) (rhoOf []) (by kernel_rfl) ?_
        refine Runs.batch 4 (by kernel_rfl) ?_
        obtain ⟨y9, e_y9, h⟩ := bind_some h
        refine Runs.idxT (e := 70) (kk := .i64) (sz := 1) Image.enc p0 x6 rfl (by kernel_rfl) (by kernel_rfl) (by kernel_rfl) (by kernel_rfl) (by kernel_rfl) (by kernel_rfl) e_y9 ?_
        refine Runs.batch 1 (by kernel_rfl) ?_
        obtain ⟨r10, e_r10, h⟩ := bind_some h
        refine Runs.callK false 20 47 [] [.agg [.t (.sl 1 (y9.fB.map (eInt .u8)))]] [.agg [.t (.sl 1 (y9.fB.map (eInt .u8)))]] (.agg [.ow 5 1 (r10.fB.map (eInt .u8))]) [] rfl rfl (by kernel_rfl) (by kernel_rfl) (by kernel_rfl) (by kernel_rfl) (by kernel_rfl) (laws_toImage_ok u y9 r10 e_r10) (by kernel_rfl) ?_
        obtain ⟨y11, e_y11, h⟩ := bind_some h
        refine Runs.idxO (e := 67) (e' := 67) (kk := .i64) (sz := 1) Image.enc x5 x6 196609 rfl (by kernel_rfl) (by kernel_rfl) (by kernel_rfl) (by kernel_rfl) (by kernel_rfl) (by kernel_rfl) (by kernel_rfl) e_y11 ?_
        refine Runs.storeU (e := 67) (sz := 1) (m := 1) Image.enc x5 196609 (Int.toNat x6) 0 r10 (.agg [.own 1310720]) [.sl 1 (r10.fB.map (eInt .u8))] rfl (by kernel_rfl) (by kernel_rfl) (by kernel_rfl) (by kernel_rfl) (by kernel_rfl) (by kernel_rfl) (by kernel_rfl) (by kernel_rfl) (idx_some e_y11).2 (by kernel_rfl) (by kernel_rfl) ?_
        refine Runs.done ?_
        refine blkN ?_
        refine thenN ?_
        refine Wp.regionS (pOf []) (rhoOf []) (by kernel_rfl) ?_
        refine Runs.all (by kernel_rfl) ?_
        refine thenN ?_
        exact ⟨(p0, x5.set (Int.toNat x6) r10, bAdd .i64 x6 1), h, Le.of (mo := []) (mr := []) (by kernel_rfl) (by kernel_rfl) (by kernel_rfl) (by kernel_rfl)⟩
      · have h := cond_f h hc
        refine Wp.exit ?_
        refine thenE ?_
        refine thenE ?_
        refine blkE ?_
        refine thenN ?_
        exact ⟨x5, h, Le.of (mo := []) (mr := []) (by kernel_rfl) (by kernel_rfl) (by kernel_rfl) (by kernel_rfl)⟩
theorem spec_l1In_ok (u : Nat) (p0 : Int) (p1 : Int) (p2 : Int) (r : Bool) (h : spec_l1In u p0 p1 p2 = some r) : CallOK Try.prog 79 [.one (.t (.int .i64 p0)), .one (.t (.int .i64 p1)), .one (.t (.int .i64 p2))] (.one (.t (.bool r))) [] := by
  unfold spec_l1In at h
  refine CallOK.of_bodyK (fn := Try.f79) (m := false) [.t (.int .i64 p0), .t (.int .i64 p1), .t (.int .i64 p2)] (by kernel_rfl) rfl (by kernel_rfl) (by kernel_rfl) (by kernel_rfl) (by kernel_rfl) (by kernel_rfl) ?_
  refine Wp.seq ?_
  refine Wp.regionS (pOf []) (rhoOf []) (by kernel_rfl) ?_
  refine Runs.all (by kernel_rfl) ?_
  refine thenN ?_
  refine Wp.le (Le.of (s := ⟨[(0, .t (.int .i64 p0)), (1, .t (.int .i64 p1)), (2, .t (.int .i64 p2)), (6, .t (.bool false))], [], []⟩) (mo := []) (mr := []) (by kernel_rfl) (by kernel_rfl) (by kernel_rfl) (by kernel_rfl)) ?_
  refine Wp.seq ?_
  refine Wp.regionS (pOf []) (rhoOf []) (by kernel_rfl) ?_
  refine Runs.batch 4 (by kernel_rfl) ?_
  rcases tf (decide (p0 ≥ p1)) with hc | hc
  · have h := cond_t h hc
    refine Runs.known 10 (v := true) (by kernel_rfl) hc ?_
    refine Runs.all (by kernel_rfl) ?_
    refine thenN ?_
    refine Wp.le (Le.of (s := ⟨[(6, .t (.bool (decide (p0 ≤ p2))))], [], []⟩) (mo := []) (mr := []) (by kernel_rfl) (by kernel_rfl) (by kernel_rfl) (by kernel_rfl)) ?_
    refine Wp.ret ?_
    have hr := Option.some.inj h
    subst hr
    exact RetK [.t (.bool (decide (p0 ≤ p2)))] (.one (.t (.bool (decide (p0 ≤ p2))))) [] (by kernel_rfl) (by kernel_rfl) (.refl _) .nil
  · have h := cond_f h hc
    refine Runs.known 10 (v := false) (by kernel_rfl) hc ?_
    refine Runs.all (by kernel_rfl) ?_
    refine thenN ?_
    refine Wp.le (Le.of (s := ⟨[(6, .t (.bool false))], [], []⟩) (mo := []) (mr := []) (by kernel_rfl) (by kernel_rfl) (by kernel_rfl) (by kernel_rfl)) ?_
    refine Wp.ret ?_
    have hr := Option.some.inj h
    subst hr
    exact RetK [.t (.bool false)] (.one (.t (.bool false))) [] (by kernel_rfl) (by kernel_rfl) (.refl _) .nil
theorem spec_SizeOk_ok (u : Nat) (p0 : Int) (p1 : Int) (r : Bool) (h : spec_SizeOk u p0 p1 = some r) : CallOK Try.prog 43 [.one (.t (.int .i64 p0)), .one (.t (.int .i64 p1))] (.one (.t (.bool r))) [] := by
  unfold spec_SizeOk at h
  refine CallOK.of_bodyK (fn := Try.f43) (m := false) [.t (.int .i64 p0), .t (.int .i64 p1)] (by kernel_rfl) rfl (by kernel_rfl) (by kernel_rfl) (by kernel_rfl) (by kernel_rfl) (by kernel_rfl) ?_
  refine Wp.seq ?_
  refine Wp.regionS (pOf []) (rhoOf []) (by kernel_rfl) ?_
  refine Runs.all (by kernel_rfl) ?_
  refine thenN ?_
  refine Wp.le (Le.of (s := ⟨[(0, .t (.int .i64 p0)), (1, .t (.int .i64 p1)), (4, .t (.bool false))], [], []⟩) (mo := []) (mr := []) (by kernel_rfl) (by kernel_rfl) (by kernel_rfl) (by kernel_rfl)) ?_
  refine Wp.seq ?_
  refine Wp.regionS (pOf []) (rhoOf []) (by kernel_rfl) ?_
  refine Runs.batch 1 (by kernel_rfl) ?_
  obtain ⟨r1, e_r1, h⟩ := bind_some h
  refine Runs.callK false 6 79 [] [.t (.int .i64 p0), .t (.int .i64 2), .t (.int .i64 6)] [.one (.t (.int .i64 p0)), .one (.t (.int .i64 2)), .one (.t (.int .i64 6))] (.one (.t (.bool r1))) [] rfl rfl (by kernel_rfl) (by kernel_rfl) (by kernel_rfl) (by kernel_rfl) (by kernel_rfl) (spec_l1In_ok u p0 2 6 r1 e_r1) (by kernel_rfl) ?_
  refine Runs.batch 1 (by kernel_rfl) ?_
  rcases tf (r1) with hc | hc
  · have h := cond_t h hc
    refine Runs.known 7 (v := true) (by kernel_rfl) hc ?_
    refine Runs.batch 3 (by kernel_rfl) ?_
    obtain ⟨r2, e_r2, h⟩ := bind_some h
    refine Runs.callK false 11 79 [] [.t (.int .i64 p1), .t (.int .i64 0), .t (.int .i64 (bMul .i64 p0 40))] [.one (.t (.int .i64 p1)), .one (.t (.int .i64 0)), .one (.t (.int .i64 (bMul .i64 p0 40)))] (.one (.t (.bool r2))) [] rfl rfl (by kernel_rfl) (by kernel_rfl) (by kernel_rfl) (by kernel_rfl) (by kernel_rfl) (spec_l1In_ok u p1 0 (bMul .i64 p0 40) r2 e_r2) (by kernel_rfl) ?_
    refine Runs.all (by kernel_rfl) ?_
    refine thenN ?_
    refine Wp.le (Le.of (s := ⟨[(4, .t (.bool r2))], [], []⟩) (mo := []) (mr := []) (by kernel_rfl) (by kernel_rfl) (by kernel_rfl) (by kernel_rfl)) ?_
    refine Wp.ret ?_
    have hr := Option.some.inj h
    subst hr
    exact RetK [.t (.bool r2)] (.one (.t (.bool r2))) [] (by kernel_rfl) (by kernel_rfl) (.refl _) .nil
  · have h := cond_f h hc
    refine Runs.known 7 (v := false) (by kernel_rfl) hc ?_
    refine Runs.all (by kernel_rfl) ?_
    refine thenN ?_
    refine Wp.le (Le.of (s := ⟨[(4, .t (.bool false))], [], []⟩) (mo := []) (mr := []) (by kernel_rfl) (by kernel_rfl) (by kernel_rfl) (by kernel_rfl)) ?_
    refine Wp.ret ?_
    have hr := Option.some.inj h
    subst hr
    exact RetK [.t (.bool false)] (.one (.t (.bool false))) [] (by kernel_rfl) (by kernel_rfl) (.refl _) .nil
theorem spec_CeilDiv_ok (u : Nat) (p0 : Int) (p1 : Int) (r : Int) (h : spec_CeilDiv u p0 p1 = some r) : CallOK Try.prog 71 [.one (.t (.int .i64 p0)), .one (.t (.int .i64 p1))] (.one (.t (.int .i64 r))) [] := by
  unfold spec_CeilDiv at h
  refine CallOK.of_bodyK (fn := Try.f71) (m := false) [.t (.int .i64 p0), .t (.int .i64 p1)] (by kernel_rfl) rfl (by kernel_rfl) (by kernel_rfl) (by kernel_rfl) (by kernel_rfl) (by kernel_rfl) ?_
  refine Wp.seq ?_
  refine Wp.regionS (pOf []) (rhoOf []) (by kernel_rfl) ?_
  refine Runs.all (by kernel_rfl) ?_
  refine thenN ?_
  refine Wp.le (Le.of (s := ⟨[(0, .t (.int .i64 p0)), (1, .t (.int .i64 p1)), (4, .t (.int .i64 0))], [], []⟩) (mo := []) (mr := []) (by kernel_rfl) (by kernel_rfl) (by kernel_rfl) (by kernel_rfl)) ?_
  refine Wp.seq ?_
  refine Wp.seqJ (α := Int × Int × Bool) (fun a => ⟨[(0, .t (.int .i64 a.1)), (1, .t (.int .i64 a.2.1)), (4, .t (.int .i64 0)), (12, .t (.bool a.2.2))], [], []⟩) (fun a => spec_CeilDiv_j1 u a.1 a.2.1 a.2.2 = some r) ?_ ?_
  · rintro ⟨p0, p1, x3⟩ h
    change spec_CeilDiv_j1 u p0 p1 x3 = some r at h
    unfold spec_CeilDiv_j1 at h
    refine Wp.cond2 (b := x3) (by kernel_rfl) (fun hc => ?_) (fun hc => ?_)
    · have h := cond_t h hc
      refine Wp.seq ?_
      refine Wp.regionS (pOf []) (rhoOf []) (by kernel_rfl) ?_
      refine Runs.all (by kernel_rfl) ?_
      refine thenN ?_
      refine Wp.le (Le.of (s := ⟨[(0, .t (.int .i64 p0)), (1, .t (.int .i64 p1)), (4, .t (.int .i64 0))], [], []⟩) (mo := []) (mr := []) (by kernel_rfl) (by kernel_rfl) (by kernel_rfl) (by kernel_rfl)) ?_
      refine Wp.ret ?_
      refine thenR ?_
      have hr := Option.some.inj h
      subst hr
      exact RetK [.t (.int .i64 0)] (.one (.t (.int .i64 0))) [] (by kernel_rfl) (by kernel_rfl) (.refl _) .nil
    · have h := cond_f h hc
      refine Wp.skip ?_
      refine thenN ?_
      refine Wp.seq ?_
      refine Wp.regionS (pOf []) (rhoOf []) (by kernel_rfl) ?_
      refine Runs.batch 5 (by kernel_rfl) ?_
      obtain ⟨_, e_4, h⟩ := bind_some h
      refine Runs.num .quo (.int .i64 (bSub .i64 (bAdd .i64 p0 p1) 1)) (.int .i64 p1) (.int .i64 (bQuo .i64 (bSub .i64 (bAdd .i64 p0 p1) 1) p1)) rfl (by kernel_rfl) (by kernel_rfl) (by kernel_rfl) (by kernel_rfl) (bin_quo _ _ _ _ (by simpa using chk_some e_4)) ?_
      refine Runs.all (by kernel_rfl) ?_
      refine thenN ?_
      refine Wp.le (Le.of (s := ⟨[(4, .t (.int .i64 (bQuo .i64 (bSub .i64 (bAdd .i64 p0 p1) 1) p1)))], [], []⟩) (mo := []) (mr := []) (by kernel_rfl) (by kernel_rfl) (by kernel_rfl) (by kernel_rfl)) ?_
      refine Wp.ret ?_
      have hr := Option.some.inj h
      subst hr
      exact RetK [.t (.int .i64 (bQuo .i64 (bSub .i64 (bAdd .i64 p0 p1) 1) p1))] (.one (.t (.int .i64 (bQuo .i64 (bSub .i64 (bAdd .i64 p0 p1) 1) p1)))) [] (by kernel_rfl) (by kernel_rfl) (.refl _) .nil
  · refine Wp.regionS (pOf []) (rhoOf []) (by kernel_rfl) ?_
    refine Runs.batch 1 (by kernel_rfl) ?_
    obtain ⟨r1, e_r1, h⟩ := bind_some h
    refine Runs.callK false 6 79 [] [.t (.int .i64 p0), .t (.int .i64 0), .t (.int .i64 1000000000000)] [.one (.t (.int .i64 p0)), .one (.t (.int .i64 0)), .one (.t (.int .i64 1000000000000))] (.one (.t (.bool r1))) [] rfl rfl (by kernel_rfl) (by kernel_rfl) (by kernel_rfl) (by kernel_rfl) (by kernel_rfl) (spec_l1In_ok u p0 0 1000000000000 r1 e_r1) (by kernel_rfl) ?_
    refine Runs.batch 2 (by kernel_rfl) ?_
    rcases tf (!r1) with hc | hc
    · have h := cond_t h hc
      refine Runs.known 8 (v := true) (by kernel_rfl) hc ?_
      refine Runs.all (by kernel_rfl) ?_
      refine thenN ?_
      exact ⟨(p0, p1, true), h, Le.of (mo := []) (mr := []) (by kernel_rfl) (by kernel_rfl) (by kernel_rfl) (by kernel_rfl)⟩
    · have h := cond_f h hc
      refine Runs.known 8 (v := false) (by kernel_rfl) hc ?_
      refine Runs.batch 1 (by kernel_rfl) ?_
      obtain ⟨r2, e_r2, h⟩ := bind_some h
      refine Runs.callK false 10 79 [] [.t (.int .i64 p1), .t (.int .i64 1), .t (.int .i64 1000000000000)] [.one (.t (.int .i64 p1)), .one (.t (.int .i64 1)), .one (.t (.int .i64 1000000000000))] (.one (.t (.bool r2))) [] rfl rfl (by kernel_rfl) (by kernel_rfl) (by kernel_rfl) (by kernel_rfl) (by kernel_rfl) (spec_l1In_ok u p1 1 1000000000000 r2 e_r2) (by kernel_rfl) ?_
      refine Runs.all (by kernel_rfl) ?_
      refine thenN ?_
      exact ⟨(p0, p1, !r2), h, Le.of (mo := []) (mr := []) (by kernel_rfl) (by kernel_rfl) (by kernel_rfl) (by kernel_rfl)⟩
theorem spec_Blocks_ok (u : Nat) (p0 : Int) (p1 : Int) (r : Int) (h : spec_Blocks u p0 p1 = some r) : CallOK Try.prog 72 [.one (.t (.int .i64 p0)), .one (.t (.int .i64 p1))] (.one (.t (.int .i64 r))) [] := by
  unfold spec_Blocks at h
  refine CallOK.of_bodyK (fn := Try.f72) (m := false) [.t (.int .i64 p0), .t (.int .i64 p1)] (by kernel_rfl) rfl (by kernel_rfl) (by kernel_rfl) (by kernel_rfl) (by kernel_rfl) (by kernel_rfl) ?_
  refine Wp.seq ?_
  refine Wp.regionS (pOf []) (rhoOf []) (by kernel_rfl) ?_
  refine Runs.all (by kernel_rfl) ?_
  refine thenN ?_
  refine Wp.le (Le.of (s := ⟨[(0, .t (.int .i64 p0)), (1, .t (.int .i64 p1)), (4, .t (.int .i64 0))], [], []⟩) (mo := []) (mr := []) (by kernel_rfl) (by kernel_rfl) (by kernel_rfl) (by kernel_rfl)) ?_
  refine Wp.seq ?_
  refine Wp.seq ?_
  refine Wp.regionS (pOf []) (rhoOf []) (by kernel_rfl) ?_
  refine Runs.batch 2 (by kernel_rfl) ?_
  obtain ⟨r1, e_r1, h⟩ := bind_some h
  refine Runs.callK false 7 43 [] [.t (.int .i64 p0), .t (.int .i64 p1)] [.one (.t (.int .i64 p0)), .one (.t (.int .i64 p1))] (.one (.t (.bool r1))) [] rfl rfl (by kernel_rfl) (by kernel_rfl) (by kernel_rfl) (by kernel_rfl) (by kernel_rfl) (spec_SizeOk_ok u p0 p1 r1 e_r1) (by kernel_rfl) ?_
  refine Runs.all (by kernel_rfl) ?_
  refine thenN ?_
  refine Wp.le (Le.of (s := ⟨[(0, .t (.int .i64 p0)), (1, .t (.int .i64 p1)), (4, .t (.int .i64 0)), (8, .t (.bool (!r1)))], [], []⟩) (mo := []) (mr := []) (by kernel_rfl) (by kernel_rfl) (by kernel_rfl) (by kernel_rfl)) ?_
  refine Wp.cond2 (b := !r1) (by kernel_rfl) (fun hc => ?_) (fun hc => ?_)
  · have h := cond_t h hc
    refine Wp.seq ?_
    refine Wp.regionS (pOf []) (rhoOf []) (by kernel_rfl) ?_
    refine Runs.all (by kernel_rfl) ?_
    refine thenN ?_
    refine Wp.le (Le.of (s := ⟨[(0, .t (.int .i64 p0)), (1, .t (.int .i64 p1)), (4, .t (.int .i64 0))], [], []⟩) (mo := []) (mr := []) (by kernel_rfl) (by kernel_rfl) (by kernel_rfl) (by kernel_rfl)) ?_
    refine Wp.ret ?_
    refine thenR ?_
    have hr := Option.some.inj h
    subst hr
    exact RetK [.t (.int .i64 0)] (.one (.t (.int .i64 0))) [] (by kernel_rfl) (by kernel_rfl) (.refl _) .nil
  · have h := cond_f h hc
    refine Wp.skip ?_
    refine thenN ?_
    refine Wp.seq ?_
    refine Wp.regionS (pOf []) (rhoOf []) (by kernel_rfl) ?_
    refine Runs.batch 2 (by kernel_rfl) ?_
    obtain ⟨r2, e_r2, h⟩ := bind_some h
    refine Runs.callK false 11 71 [] [.t (.int .i64 p1), .t (.int .i64 p0)] [.one (.t (.int .i64 p1)), .one (.t (.int .i64 p0))] (.one (.t (.int .i64 r2))) [] rfl rfl (by kernel_rfl) (by kernel_rfl) (by kernel_rfl) (by kernel_rfl) (by kernel_rfl) (spec_CeilDiv_ok u p1 p0 r2 e_r2) (by kernel_rfl) ?_
    refine Runs.all (by kernel_rfl) ?_
    refine thenN ?_
    refine Wp.le (Le.of (s := ⟨[(4, .t (.int .i64 r2))], [], []⟩) (mo := []) (mr := []) (by kernel_rfl) (by kernel_rfl) (by kernel_rfl) (by kernel_rfl)) ?_
    refine Wp.ret ?_
    have hr := Option.some.inj h
    subst hr
    exact RetK [.t (.int .i64 r2)] (.one (.t (.int .i64 r2))) [] (by kernel_rfl) (by kernel_rfl) (.refl _) .nil
theorem spec_Least_ok (u : Nat) (p0 : Int) (p1 : Int) (r : Int) (h : spec_Least u p0 p1 = some r) : CallOK Try.prog 139 [.one (.t (.int .i64 p0)), .one (.t (.int .i64 p1))] (.one (.t (.int .i64 r))) [] := by
  unfold spec_Least at h
  refine CallOK.of_bodyK (fn := Try.f139) (m := false) [.t (.int .i64 p0), .t (.int .i64 p1)] (by kernel_rfl) rfl (by kernel_rfl) (by kernel_rfl) (by kernel_rfl) (by kernel_rfl) (by kernel_rfl) ?_
  refine Wp.seq ?_
  refine Wp.regionS (pOf []) (rhoOf []) (by kernel_rfl) ?_
  refine Runs.all (by kernel_rfl) ?_
  refine thenN ?_
  refine Wp.le (Le.of (s := ⟨[(0, .t (.int .i64 p0)), (1, .t (.int .i64 p1)), (4, .t (.int .i64 0))], [], []⟩) (mo := []) (mr := []) (by kernel_rfl) (by kernel_rfl) (by kernel_rfl) (by kernel_rfl)) ?_
  refine Wp.seq ?_
  refine Wp.seq ?_
  refine Wp.regionS (pOf []) (rhoOf []) (by kernel_rfl) ?_
  refine Runs.all (by kernel_rfl) ?_
  refine thenN ?_
  refine Wp.le (Le.of (s := ⟨[(0, .t (.int .i64 p0)), (1, .t (.int .i64 p1)), (4, .t (.int .i64 0)), (7, .t (.bool (decide (p1 < p0))))], [], []⟩) (mo := []) (mr := []) (by kernel_rfl) (by kernel_rfl) (by kernel_rfl) (by kernel_rfl)) ?_
  refine Wp.cond2 (b := decide (p1 < p0)) (by kernel_rfl) (fun hc => ?_) (fun hc => ?_)
  · have h := cond_t h hc
    refine Wp.seq ?_
    refine Wp.regionS (pOf []) (rhoOf []) (by kernel_rfl) ?_
    refine Runs.all (by kernel_rfl) ?_
    refine thenN ?_
    refine Wp.le (Le.of (s := ⟨[(0, .t (.int .i64 p0)), (4, .t (.int .i64 p1))], [], []⟩) (mo := []) (mr := []) (by kernel_rfl) (by kernel_rfl) (by kernel_rfl) (by kernel_rfl)) ?_
    refine Wp.ret ?_
    refine thenR ?_
    have hr := Option.some.inj h
    subst hr
    exact RetK [.t (.int .i64 p1)] (.one (.t (.int .i64 p1))) [] (by kernel_rfl) (by kernel_rfl) (.refl _) .nil
  · have h := cond_f h hc
    refine Wp.skip ?_
    refine thenN ?_
    refine Wp.seq ?_
    refine Wp.regionS (pOf []) (rhoOf []) (by kernel_rfl) ?_
    refine Runs.all (by kernel_rfl) ?_
    refine thenN ?_
    refine Wp.le (Le.of (s := ⟨[(4, .t (.int .i64 p0))], [], []⟩) (mo := []) (mr := []) (by kernel_rfl) (by kernel_rfl) (by kernel_rfl) (by kernel_rfl)) ?_
    refine Wp.ret ?_
    have hr := Option.some.inj h
    subst hr
    exact RetK [.t (.int .i64 p0)] (.one (.t (.int .i64 p0))) [] (by kernel_rfl) (by kernel_rfl) (.refl _) .nil
theorem spec_SpanOf_ok (u : Nat) (p0 : Int) (p1 : Int) (p2 : Int) (r : Int × Int) (h : spec_SpanOf u p0 p1 p2 = some r) : CallOK Try.prog 101 [.one (.t (.int .i64 p0)), .one (.t (.int .i64 p1)), .one (.t (.int .i64 p2))] (.tup [.one (.t (.int .i64 r.1)), .one (.t (.int .i64 r.2))]) [] := by
  unfold spec_SpanOf at h
  refine CallOK.of_bodyK (fn := Try.f101) (m := false) [.t (.int .i64 p0), .t (.int .i64 p1), .t (.int .i64 p2)] (by kernel_rfl) rfl (by kernel_rfl) (by kernel_rfl) (by kernel_rfl) (by kernel_rfl) (by kernel_rfl) ?_
  refine Wp.seq ?_
  refine Wp.regionS (pOf []) (rhoOf []) (by kernel_rfl) ?_
  refine Runs.all (by kernel_rfl) ?_
  refine thenN ?_
  refine Wp.le (Le.of (s := ⟨[(0, .t (.int .i64 p0)), (1, .t (.int .i64 p1)), (2, .t (.int .i64 p2)), (6, .t (.int .i64 0)), (7, .t (.int .i64 0))], [], []⟩) (mo := []) (mr := []) (by kernel_rfl) (by kernel_rfl) (by kernel_rfl) (by kernel_rfl)) ?_
  refine Wp.seq ?_
  refine Wp.seq ?_
  refine Wp.regionS (pOf []) (rhoOf []) (by kernel_rfl) ?_
  refine Runs.batch 3 (by kernel_rfl) ?_
  obtain ⟨r1, e_r1, h⟩ := bind_some h
  refine Runs.callK false 11 72 [] [.t (.int .i64 p0), .t (.int .i64 p1)] [.one (.t (.int .i64 p0)), .one (.t (.int .i64 p1))] (.one (.t (.int .i64 r1))) [] rfl rfl (by kernel_rfl) (by kernel_rfl) (by kernel_rfl) (by kernel_rfl) (by kernel_rfl) (spec_Blocks_ok u p0 p1 r1 e_r1) (by kernel_rfl) ?_
  refine Runs.batch 1 (by kernel_rfl) ?_
  obtain ⟨r2, e_r2, h⟩ := bind_some h
  refine Runs.callK false 13 79 [] [.t (.int .i64 p2), .t (.int .i64 0), .t (.int .i64 (bSub .i64 r1 1))] [.one (.t (.int .i64 p2)), .one (.t (.int .i64 0)), .one (.t (.int .i64 (bSub .i64 r1 1)))] (.one (.t (.bool r2))) [] rfl rfl (by kernel_rfl) (by kernel_rfl) (by kernel_rfl) (by kernel_rfl) (by kernel_rfl) (spec_l1In_ok u p2 0 (bSub .i64 r1 1) r2 e_r2) (by kernel_rfl) ?_
  refine Runs.all (by kernel_rfl) ?_
  refine thenN ?_
  refine Wp.le (Le.of (s := ⟨[(0, .t (.int .i64 p0)), (1, .t (.int .i64 p1)), (2, .t (.int .i64 p2)), (6, .t (.int .i64 0)), (7, .t (.int .i64 0)), (14, .t (.bool (!r2)))], [], []⟩) (mo := []) (mr := []) (by kernel_rfl) (by kernel_rfl) (by kernel_rfl) (by kernel_rfl)) ?_
  refine Wp.cond2 (b := !r2) (by kernel_rfl) (fun hc => ?_) (fun hc => ?_)
  · have h := cond_t h hc
    refine Wp.seq ?_
    refine Wp.regionS (pOf []) (rhoOf []) (by kernel_rfl) ?_
    refine Runs.all (by kernel_rfl) ?_
    refine thenN ?_
    refine Wp.le (Le.of (s := ⟨[(0, .t (.int .i64 p0)), (1, .t (.int .i64 p1)), (2, .t (.int .i64 p2)), (6, .t (.int .i64 0)), (7, .t (.int .i64 0))], [], []⟩) (mo := []) (mr := []) (by kernel_rfl) (by kernel_rfl) (by kernel_rfl) (by kernel_rfl)) ?_
    refine Wp.ret ?_
    refine thenR ?_
    have hr := Option.some.inj h
    subst hr
    exact RetK [.t (.int .i64 0), .t (.int .i64 0)] (.tup [.one (.t (.int .i64 0)), .one (.t (.int .i64 0))]) [] (by kernel_rfl) (by kernel_rfl) (.refl _) .nil
  · have h := cond_f h hc
    refine Wp.skip ?_
    refine thenN ?_
    refine Wp.seq ?_
    refine Wp.regionS (pOf []) (rhoOf []) (by kernel_rfl) ?_
    refine Runs.batch 9 (by kernel_rfl) ?_
    obtain ⟨r3, e_r3, h⟩ := bind_some h
    refine Runs.callK false 24 139 [] [.t (.int .i64 p0), .t (.int .i64 (bSub .i64 p1 (bMul .i64 p2 p0)))] [.one (.t (.int .i64 p0)), .one (.t (.int .i64 (bSub .i64 p1 (bMul .i64 p2 p0))))] (.one (.t (.int .i64 r3))) [] rfl rfl (by kernel_rfl) (by kernel_rfl) (by kernel_rfl) (by kernel_rfl) (by kernel_rfl) (spec_Least_ok u p0 (bSub .i64 p1 (bMul .i64 p2 p0)) r3 e_r3) (by kernel_rfl) ?_
    refine Runs.all (by kernel_rfl) ?_
    refine thenN ?_
    refine Wp.le (Le.of (s := ⟨[(6, .t (.int .i64 (bMul .i64 p2 p0))), (7, .t (.int .i64 r3))], [], []⟩) (mo := []) (mr := []) (by kernel_rfl) (by kernel_rfl) (by kernel_rfl) (by kernel_rfl)) ?_
    refine Wp.ret ?_
    have hr := Option.some.inj h
    subst hr
    exact RetK [.t (.int .i64 (bMul .i64 p2 p0)), .t (.int .i64 r3)] (.tup [.one (.t (.int .i64 (bMul .i64 p2 p0))), .one (.t (.int .i64 r3))]) [] (by kernel_rfl) (by kernel_rfl) (.refl _) .nil
theorem spec_BlockAt_ok (u : Nat) (p0 : List Int) (p1 : Int) (p2 : Int) (r : (List Int) × Bool) (h : spec_BlockAt u p0 p1 p2 = some r) : CallOK Try.prog 131 [.one (.t (.sl 1 (p0.map (eInt .u8)))), .one (.t (.int .i64 p1)), .one (.t (.int .i64 p2))] (.tup [.one (.ow 5 1 (r.1.map (eInt .u8))), .one (.t (.bool r.2))]) [] := by
  unfold spec_BlockAt at h
  refine CallOK.of_bodyK (fn := Try.f131) (m := true) [.t (.sl 1 (p0.map (eInt .u8))), .t (.int .i64 p1), .t (.int .i64 p2)] (by kernel_rfl) rfl (by kernel_rfl) (by kernel_rfl) (by kernel_rfl) (by kernel_rfl) (by kernel_rfl) ?_
  refine Wp.seq ?_
  refine Wp.regionS (pOf []) (rhoOf []) (by kernel_rfl) ?_
  refine Runs.all (by kernel_rfl) ?_
  refine thenN ?_
  refine Wp.le (Le.of (s := ⟨[(0, .t (.sl 1 (p0.map (eInt .u8)))), (1, .t (.int .i64 p1)), (2, .t (.int .i64 p2)), (6, .nil), (7, .t (.bool false))], [], []⟩) (mo := []) (mr := []) (by kernel_rfl) (by kernel_rfl) (by kernel_rfl) (by kernel_rfl)) ?_
  refine Wp.seq ?_
  refine Wp.regionS (pOf []) (rhoOf []) (by kernel_rfl) ?_
  refine Runs.batch 2 (by kernel_rfl) ?_
  refine Runs.lenT (y := .t (.sl 1 (p0.map (eInt .u8)))) (e := 5) (eInt .u8) p0 1 rfl rfl rfl (by kernel_rfl) (by kernel_rfl) (by kernel_rfl) (by kernel_rfl) (by kernel_rfl) ?_
  refine Runs.batch 1 (by kernel_rfl) ?_
  obtain ⟨r1, e_r1, h⟩ := bind_some h
  refine Runs.callK false 15 101 [] [.t (.int .i64 p1), .t (.int .i64 ((p0.length : Int))), .t (.int .i64 p2)] [.one (.t (.int .i64 p1)), .one (.t (.int .i64 ((p0.length : Int)))), .one (.t (.int .i64 p2))] (.tup [.one (.t (.int .i64 r1.1)), .one (.t (.int .i64 r1.2))]) [] rfl rfl (by kernel_rfl) (by kernel_rfl) (by kernel_rfl) (by kernel_rfl) (by kernel_rfl) (spec_SpanOf_ok u p1 ((p0.length : Int)) p2 r1 e_r1) (by kernel_rfl) ?_
  refine Runs.all (by kernel_rfl) ?_
  refine thenN ?_
  refine Wp.le (Le.of (s := ⟨[(0, .t (.sl 1 (p0.map (eInt .u8)))), (6, .nil), (7, .t (.bool false)), (8, .t (.int .i64 r1.1)), (9, .t (.int .i64 r1.2))], [], []⟩) (mo := []) (mr := []) (by kernel_rfl) (by kernel_rfl) (by kernel_rfl) (by kernel_rfl)) ?_
  refine Wp.seq ?_
  refine Wp.seq ?_
  refine Wp.regionS (pOf []) (rhoOf []) (by kernel_rfl) ?_
  refine Runs.all (by kernel_rfl) ?_
  refine thenN ?_
  refine Wp.le (Le.of (s := ⟨[(0, .t (.sl 1 (p0.map (eInt .u8)))), (6, .nil), (7, .t (.bool false)), (8, .t (.int .i64 r1.1)), (9, .t (.int .i64 r1.2)), (19, .t (.bool (r1.2 == 0)))], [], []⟩) (mo := []) (mr := []) (by kernel_rfl) (by kernel_rfl) (by kernel_rfl) (by kernel_rfl)) ?_
  refine Wp.cond2 (b := r1.2 == 0) (by kernel_rfl) (fun hc => ?_) (fun hc => ?_)
  · have h := cond_t h hc
    refine Wp.seq ?_
    refine Wp.regionS (pOf []) (rhoOf []) (by kernel_rfl) ?_
    refine Runs.all (by kernel_rfl) ?_
    refine thenN ?_
    refine Wp.le (Le.of (s := ⟨[(0, .t (.sl 1 (p0.map (eInt .u8)))), (6, .own 1310720), (7, .t (.bool false)), (8, .t (.int .i64 r1.1)), (9, .t (.int .i64 r1.2))], [], [(1310720, .live 5 1 ((([] : List Int)).map (eInt .u8)))]⟩) (mo := []) (mr := []) (by kernel_rfl) (by kernel_rfl) (by kernel_rfl) (by kernel_rfl)) ?_
    refine Wp.ret ?_
    refine thenR ?_
    have hr := Option.some.inj h
    subst hr
    exact RetK [.own 1310720, .t (.bool false)] (.tup [.one (.ow 5 1 ((([] : List Int)).map (eInt .u8))), .one (.t (.bool false))]) [] (by kernel_rfl) (by kernel_rfl) (.refl _) .nil
  · have h := cond_f h hc
    refine Wp.skip ?_
    refine thenN ?_
    refine Wp.seq ?_
    refine Wp.regionS (pOf []) (rhoOf []) (by kernel_rfl) ?_
    refine Runs.batch 6 (by kernel_rfl) ?_
    obtain ⟨_, e_2, h⟩ := bind_some h
    refine Runs.subsl (e := 5) (ax := .t (.sl 1 (p0.map (eInt .u8)))) (alo := (some (.t (.int .i64 r1.1)))) (ahi := (some (.t (.int .i64 (bAdd .i64 r1.1 r1.2))))) (eInt .u8) p0 1 r1.1 (bAdd .i64 r1.1 r1.2) rfl (by kernel_rfl) (by kernel_rfl) (by kernel_rfl) (by kernel_rfl) (by kernel_rfl) (by kernel_rfl) (by kernel_rfl) (by kernel_rfl) (by kernel_rfl) (by kernel_rfl) (chk_some e_2) ?_
    obtain ⟨_, e_3, h⟩ := bind_some h
    refine Runs.appT (y := .t (.sl 1 (((p0.take (Int.toNat (bAdd .i64 r1.1 r1.2))).drop (Int.toNat r1.1)).map (eInt .u8)))) (eInt .u8) 28 1 5 1 1 1376256 (([] : List Int)) ((p0.take (Int.toNat (bAdd .i64 r1.1 r1.2))).drop (Int.toNat r1.1)) rfl rfl rfl rfl (by kernel_rfl) (by kernel_rfl) (by kernel_rfl) (by kernel_rfl) (by kernel_rfl) (by kernel_rfl) (.inl rfl) (by kernel_rfl) (of_decide_eq_true (chk_some e_3)) (by kernel_rfl) (by kernel_rfl) ?_
    refine Runs.all (by kernel_rfl) ?_
    refine thenN ?_
    refine Wp.le (Le.of (s := ⟨[(6, .own 1835008), (7, .t (.bool true))], [], [(1835008, .live 5 1 (((([] : List Int)) ++ ((p0.take (Int.toNat (bAdd .i64 r1.1 r1.2))).drop (Int.toNat r1.1))).map (eInt .u8)))]⟩) (mo := []) (mr := []) (by kernel_rfl) (by kernel_rfl) (by kernel_rfl) (by kernel_rfl)) ?_
    refine Wp.ret ?_
    have hr := Option.some.inj h
    subst hr
    exact RetK [.own 1835008, .t (.bool true)] (.tup [.one (.ow 5 1 (((([] : List Int)) ++ ((p0.take (Int.toNat (bAdd .i64 r1.1 r1.2))).drop (Int.toNat r1.1))).map (eInt .u8))), .one (.t (.bool true))]) [] (by kernel_rfl) (by kernel_rfl) (.refl _) .nil
theorem spec_WeakOf_ok (u : Nat) (p0 : List Int) (r : Int) (h : spec_WeakOf u p0 = some r) : CallOK Try.prog 169 [.one (.t (.sl 1 (p0.map (eInt .u8))))] (.one (.t (.int .i64 r))) [] := by
  unfold spec_WeakOf at h
  refine CallOK.of_bodyK (fn := Try.f169) (m := false) [.t (.sl 1 (p0.map (eInt .u8)))] (by kernel_rfl) rfl (by kernel_rfl) (by kernel_rfl) (by kernel_rfl) (by kernel_rfl) (by kernel_rfl) ?_
  refine Wp.seq ?_
  refine Wp.regionS (pOf []) (rhoOf []) (by kernel_rfl) ?_
  refine Runs.all (by kernel_rfl) ?_
  refine thenN ?_
  refine Wp.le (Le.of (s := ⟨[(0, .t (.sl 1 (p0.map (eInt .u8)))), (2, .t (.int .i64 0))], [], []⟩) (mo := []) (mr := []) (by kernel_rfl) (by kernel_rfl) (by kernel_rfl) (by kernel_rfl)) ?_
  refine Wp.seq ?_
  refine Wp.regionS (pOf []) (rhoOf []) (by kernel_rfl) ?_
  refine Runs.all (by kernel_rfl) ?_
  refine thenN ?_
  refine Wp.le (Le.of (s := ⟨[(0, .t (.sl 1 (p0.map (eInt .u8)))), (2, .t (.int .i64 0)), (3, .t (.int .i64 0))], [], []⟩) (mo := []) (mr := []) (by kernel_rfl) (by kernel_rfl) (by kernel_rfl) (by kernel_rfl)) ?_
  refine Wp.seq ?_
  refine Wp.regionS (pOf []) (rhoOf []) (by kernel_rfl) ?_
  refine Runs.all (by kernel_rfl) ?_
  refine thenN ?_
  refine Wp.le (Le.of (s := ⟨[(0, .t (.sl 1 (p0.map (eInt .u8)))), (2, .t (.int .i64 0)), (3, .t (.int .i64 0)), (4, .t (.int .i64 0))], [], []⟩) (mo := []) (mr := []) (by kernel_rfl) (by kernel_rfl) (by kernel_rfl) (by kernel_rfl)) ?_
  refine Wp.seqJ (α := Int × Int) (fun a => ⟨[(2, .t (.int .i64 0)), (3, .t (.int .i64 a.1)), (4, .t (.int .i64 a.2))], [], []⟩) (fun a => spec_WeakOf_j1 u a.1 a.2 = some r) ?_ ?_
  · rintro ⟨x11, x12⟩ h
    change spec_WeakOf_j1 u x11 x12 = some r at h
    unfold spec_WeakOf_j1 at h
    refine Wp.seq ?_
    refine Wp.regionS (pOf []) (rhoOf []) (by kernel_rfl) ?_
    refine Runs.all (by kernel_rfl) ?_
    refine thenN ?_
    refine Wp.le (Le.of (s := ⟨[(2, .t (.int .i64 (bAdd .i64 x11 (bMul .i64 251 x12))))], [], []⟩) (mo := []) (mr := []) (by kernel_rfl) (by kernel_rfl) (by kernel_rfl) (by kernel_rfl)) ?_
    refine Wp.ret ?_
    have hr := Option.some.inj h
    subst hr
    exact RetK [.t (.int .i64 (bAdd .i64 x11 (bMul .i64 251 x12)))] (.one (.t (.int .i64 (bAdd .i64 x11 (bMul .i64 251 x12))))) [] (by kernel_rfl) (by kernel_rfl) (.refl _) .nil
  · refine Wp.seq ?_
    refine Wp.regionS (pOf []) (rhoOf []) (by kernel_rfl) ?_
    refine Runs.all (by kernel_rfl) ?_
    refine thenN ?_
    refine Wp.le (Le.of (s := ⟨[(0, .t (.sl 1 (p0.map (eInt .u8)))), (2, .t (.int .i64 0)), (3, .t (.int .i64 0)), (4, .t (.int .i64 0)), (5, .t (.int .i64 0))], [], []⟩) (mo := []) (mr := []) (by kernel_rfl) (by kernel_rfl) (by kernel_rfl) (by kernel_rfl)) ?_
    refine Wp.block ?_
    refine Wp.loopF (α := (List Int) × Int × Int × Int) (fun a => ⟨[(0, .t (.sl 1 (a.1.map (eInt .u8)))), (2, .t (.int .i64 0)), (3, .t (.int .i64 a.2.1)), (4, .t (.int .i64 a.2.2.1)), (5, .t (.int .i64 a.2.2.2))], [], []⟩) (fun k_spec_WeakOf_l2 a => spec_WeakOf_l2 u k_spec_WeakOf_l2 a.1 a.2.1 a.2.2.1 a.2.2.2 = some r) ?_ ?_ u (p0, 0, 0, 0) h (Le.of (mo := []) (mr := []) (by kernel_rfl) (by kernel_rfl) (by kernel_rfl) (by kernel_rfl))
    · intro a h; unfold spec_WeakOf_l2 at h; cases h
    · rintro k_spec_WeakOf_l2 ⟨p0, x4, x5, x6⟩ h
      change spec_WeakOf_l2 u (k_spec_WeakOf_l2 + 1) p0 x4 x5 x6 = some r at h
      rw [spec_WeakOf_l2] at h
      refine Wp.seq ?_
      refine Wp.seq ?_
      refine Wp.regionS (pOf []) (rhoOf []) (by kernel_rfl) ?_
      refine Runs.batch 2 (by kernel_rfl) ?_
      refine Runs.lenT (y := .t (.sl 1 (p0.map (eInt .u8)))) (e := 5) (eInt .u8) p0 1 rfl rfl rfl (by kernel_rfl) (by kernel_rfl) (by kernel_rfl) (by kernel_rfl) (by kernel_rfl) ?_
      refine Runs.all (by kernel_rfl) ?_
      refine thenN ?_
      refine Wp.le (Le.of (s := ⟨[(0, .t (.sl 1 (p0.map (eInt .u8)))), (2, .t (.int .i64 0)), (3, .t (.int .i64 x4)), (4, .t (.int .i64 x5)), (5, .t (.int .i64 x6)), (6, .t (.int .i64 x6)), (7, .t (.sl 1 (p0.map (eInt .u8)))), (8, .t (.int .i64 ((p0.length : Int)))), (9, .t (.bool (decide (x6 < ((p0.length : Int))))))], [], []⟩) (mo := []) (mr := []) (by kernel_rfl) (by kernel_rfl) (by kernel_rfl) (by kernel_rfl)) ?_
      refine Wp.cond2 (b := decide (x6 < ((p0.length : Int)))) (by kernel_rfl) (fun hc => ?_) (fun hc => ?_)
      · have h := cond_t h hc
        refine Wp.skip ?_
        refine thenN ?_
        refine Wp.seq ?_
        refine Wp.block ?_
        refine Wp.seq ?_
        refine Wp.regionS (pOf []) (rhoOf []) (by kernel_rfl) ?_
        refine Runs.batch 3 (by kernel_rfl) ?_
        obtain ⟨y10, e_y10, h⟩ := bind_some h
        refine Runs.idxT (e := 5) (kk := .i64) (sz := 1) (eInt .u8) p0 x6 rfl (by kernel_rfl) (by kernel_rfl) (by kernel_rfl) (by kernel_rfl) (by kernel_rfl) (by kernel_rfl) e_y10 ?_
        refine Runs.all (by kernel_rfl) ?_
        refine thenN ?_
        refine Wp.le (Le.of (s := ⟨[(0, .t (.sl 1 (p0.map (eInt .u8)))), (2, .t (.int .i64 0)), (3, .t (.int .i64 (bRem .i64 (bAdd .i64 x4 (IntKind.wrap .i64 y10)) 251))), (4, .t (.int .i64 x5)), (5, .t (.int .i64 x6)), (6, .t (.int .i64 x6)), (7, .t (.sl 1 (p0.map (eInt .u8)))), (8, .t (.int .i64 ((p0.length : Int)))), (9, .t (.bool (decide (x6 < ((p0.length : Int)))))), (12, .t (.int .i64 x4)), (13, .t (.sl 1 (p0.map (eInt .u8)))), (14, .t (.int .i64 x6)), (15, .fadr [.int .u8 y10]), (16, .t (.int .u8 y10)), (17, .t (.int .i64 (IntKind.wrap .i64 y10))), (18, .t (.int .i64 (bAdd .i64 x4 (IntKind.wrap .i64 y10)))), (19, .t (.int .i64 (bRem .i64 (bAdd .i64 x4 (IntKind.wrap .i64 y10)) 251)))], [], []⟩) (mo := []) (mr := []) (by kernel_rfl) (by kernel_rfl) (by kernel_rfl) (by kernel_rfl)) ?_
        refine Wp.regionS (pOf []) (rhoOf []) (by kernel_rfl) ?_
        refine Runs.all (by kernel_rfl) ?_
        refine blkN ?_
        refine thenN ?_
        refine Wp.regionS (pOf []) (rhoOf []) (by kernel_rfl) ?_
        refine Runs.all (by kernel_rfl) ?_
        refine thenN ?_
        exact ⟨(p0, bRem .i64 (bAdd .i64 x4 (IntKind.wrap .i64 y10)) 251, bRem .i64 (bAdd .i64 x5 (bRem .i64 (bAdd .i64 x4 (IntKind.wrap .i64 y10)) 251)) 251, bAdd .i64 x6 1), h, Le.of (mo := []) (mr := []) (by kernel_rfl) (by kernel_rfl) (by kernel_rfl) (by kernel_rfl)⟩
      · have h := cond_f h hc
        refine Wp.exit ?_
        refine thenE ?_
        refine thenE ?_
        refine blkE ?_
        refine thenN ?_
        exact ⟨(x4, x5), h, Le.of (mo := []) (mr := []) (by kernel_rfl) (by kernel_rfl) (by kernel_rfl) (by kernel_rfl)⟩
theorem spec_SumOf_ok (u : Nat) (p0 : List Int) (r : Sum) (h : spec_SumOf u p0 = some r) : CallOK Try.prog 132 [.one (.t (.sl 1 (p0.map (eInt .u8))))] (.agg [.t (.int .i64 r.fW), .t (.int .i64 r.fS)]) [] := by
  unfold spec_SumOf at h
  refine CallOK.of_bodyK (fn := Try.f132) (m := false) [.t (.sl 1 (p0.map (eInt .u8)))] (by kernel_rfl) rfl (by kernel_rfl) (by kernel_rfl) (by kernel_rfl) (by kernel_rfl) (by kernel_rfl) ?_
  refine Wp.seq ?_
  refine Wp.regionS (pOf []) (rhoOf []) (by kernel_rfl) ?_
  refine Runs.all (by kernel_rfl) ?_
  refine thenN ?_
  refine Wp.le (Le.of (s := ⟨[(0, .t (.sl 1 (p0.map (eInt .u8)))), (2, .obj 2 0)], [(2, [.t (.int .i64 0), .t (.int .i64 0)])], []⟩) (mo := []) (mr := []) (by kernel_rfl) (by kernel_rfl) (by kernel_rfl) (by kernel_rfl)) ?_
  refine Wp.seq ?_
  refine Wp.seq ?_
  refine Wp.regionS (pOf []) (rhoOf []) (by kernel_rfl) ?_
  refine Runs.batch 1 (by kernel_rfl) ?_
  refine Runs.lenT (y := .t (.sl 1 (p0.map (eInt .u8)))) (e := 5) (eInt .u8) p0 1 rfl rfl rfl (by kernel_rfl) (by kernel_rfl) (by kernel_rfl) (by kernel_rfl) (by kernel_rfl) ?_
  refine Runs.all (by kernel_rfl) ?_
  refine thenN ?_
  refine Wp.le (Le.of (s := ⟨[(0, .t (.sl 1 (p0.map (eInt .u8)))), (2, .obj 2 0), (7, .t (.bool (decide (((p0.length : Int)) > 6))))], [(2, [.t (.int .i64 0), .t (.int .i64 0)])], []⟩) (mo := []) (mr := []) (by kernel_rfl) (by kernel_rfl) (by kernel_rfl) (by kernel_rfl)) ?_
  refine Wp.cond2 (b := decide (((p0.length : Int)) > 6)) (by kernel_rfl) (fun hc => ?_) (fun hc => ?_)
  · have h := cond_t h hc
    refine Wp.seq ?_
    refine Wp.regionS (pOf []) (rhoOf []) (by kernel_rfl) ?_
    refine Runs.all (by kernel_rfl) ?_
    refine thenN ?_
    refine Wp.le (Le.of (s := ⟨[(0, .t (.sl 1 (p0.map (eInt .u8)))), (2, .obj 2 0)], [(2, [.t (.int .i64 0), .t (.int .i64 0)])], []⟩) (mo := []) (mr := []) (by kernel_rfl) (by kernel_rfl) (by kernel_rfl) (by kernel_rfl)) ?_
    refine Wp.ret ?_
    refine thenR ?_
    have hr := Option.some.inj h
    subst hr
    exact RetK [.agg [.t (.int .i64 0), .t (.int .i64 0)]] (.agg [.t (.int .i64 0), .t (.int .i64 0)]) [] (by kernel_rfl) (by kernel_rfl) (.refl _) .nil
  · have h := cond_f h hc
    refine Wp.skip ?_
    refine thenN ?_
    refine Wp.seq ?_
    refine Wp.regionS (pOf []) (rhoOf []) (by kernel_rfl) ?_
    refine Runs.all (by kernel_rfl) ?_
    refine thenN ?_
    refine Wp.le (Le.of (s := ⟨[(0, .t (.sl 1 (p0.map (eInt .u8)))), (2, .obj 2 0), (3, .t (.int .i64 1))], [(2, [.t (.int .i64 0), .t (.int .i64 0)])], []⟩) (mo := []) (mr := []) (by kernel_rfl) (by kernel_rfl) (by kernel_rfl) (by kernel_rfl)) ?_
    refine Wp.seqJ (α := (List Int) × Int) (fun a => ⟨[(0, .t (.sl 1 (a.1.map (eInt .u8)))), (2, .obj 2 0), (3, .t (.int .i64 a.2))], [(2, [.t (.int .i64 0), .t (.int .i64 0)])], []⟩) (fun a => spec_SumOf_j1 u a.1 a.2 = some r) ?_ ?_
    · rintro ⟨p0, x8⟩ h
      change spec_SumOf_j1 u p0 x8 = some r at h
      unfold spec_SumOf_j1 at h
      refine Wp.seq ?_
      refine Wp.regionS (pOf []) (rhoOf []) (by kernel_rfl) ?_
      refine Runs.batch 1 (by kernel_rfl) ?_
      obtain ⟨r9, e_r9, h⟩ := bind_some h
      refine Runs.callK false 24 169 [] [.t (.sl 1 (p0.map (eInt .u8)))] [.one (.t (.sl 1 (p0.map (eInt .u8))))] (.one (.t (.int .i64 r9))) [] rfl rfl (by kernel_rfl) (by kernel_rfl) (by kernel_rfl) (by kernel_rfl) (by kernel_rfl) (spec_WeakOf_ok u p0 r9 e_r9) (by kernel_rfl) ?_
      refine Runs.all (by kernel_rfl) ?_
      refine thenN ?_
      refine Wp.le (Le.of (s := ⟨[(2, .obj 2 0)], [(2, [.t (.int .i64 r9), .t (.int .i64 x8)])], []⟩) (mo := []) (mr := []) (by kernel_rfl) (by kernel_rfl) (by kernel_rfl) (by kernel_rfl)) ?_
      refine Wp.ret ?_
      have hr := Option.some.inj h
      subst hr
      exact RetK [.agg [.t (.int .i64 r9), .t (.int .i64 x8)]] (.agg [.t (.int .i64 r9), .t (.int .i64 x8)]) [] (by kernel_rfl) (by kernel_rfl) (.refl _) .nil
    · refine Wp.seq ?_
      refine Wp.regionS (pOf []) (rhoOf []) (by kernel_rfl) ?_
      refine Runs.all (by kernel_rfl) ?_
      refine thenN ?_
      refine Wp.le (Le.of (s := ⟨[(0, .t (.sl 1 (p0.map (eInt .u8)))), (2, .obj 2 0), (3, .t (.int .i64 1)), (4, .t (.int .i64 0))], [(2, [.t (.int .i64 0), .t (.int .i64 0)])], []⟩) (mo := []) (mr := []) (by kernel_rfl) (by kernel_rfl) (by kernel_rfl) (by kernel_rfl)) ?_
      refine Wp.block ?_
      refine Wp.loopF (α := (List Int) × Int × Int) (fun a => ⟨[(0, .t (.sl 1 (a.1.map (eInt .u8)))), (2, .obj 2 0), (3, .t (.int .i64 a.2.1)), (4, .t (.int .i64 a.2.2))], [(2, [.t (.int .i64 0), .t (.int .i64 0)])], []⟩) (fun k_spec_SumOf_l2 a => spec_SumOf_l2 u k_spec_SumOf_l2 a.1 a.2.1 a.2.2 = some r) ?_ ?_ u (p0, 1, 0) h (Le.of (mo := []) (mr := []) (by kernel_rfl) (by kernel_rfl) (by kernel_rfl) (by kernel_rfl))
      · intro a h; unfold spec_SumOf_l2 at h; cases h
      · rintro k_spec_SumOf_l2 ⟨p0, x3, x4⟩ h
        change spec_SumOf_l2 u (k_spec_SumOf_l2 + 1) p0 x3 x4 = some r at h
        rw [spec_SumOf_l2] at h
        refine Wp.seq ?_
        refine Wp.seq ?_
        refine Wp.regionS (pOf []) (rhoOf []) (by kernel_rfl) ?_
        refine Runs.batch 2 (by kernel_rfl) ?_
        refine Runs.lenT (y := .t (.sl 1 (p0.map (eInt .u8)))) (e := 5) (eInt .u8) p0 1 rfl rfl rfl (by kernel_rfl) (by kernel_rfl) (by kernel_rfl) (by kernel_rfl) (by kernel_rfl) ?_
        refine Runs.all (by kernel_rfl) ?_
        refine thenN ?_
        refine Wp.le (Le.of (s := ⟨[(0, .t (.sl 1 (p0.map (eInt .u8)))), (2, .obj 2 0), (3, .t (.int .i64 x3)), (4, .t (.int .i64 x4)), (9, .t (.int .i64 x4)), (10, .t (.sl 1 (p0.map (eInt .u8)))), (11, .t (.int .i64 ((p0.length : Int)))), (12, .t (.bool (decide (x4 < ((p0.length : Int))))))], [(2, [.t (.int .i64 0), .t (.int .i64 0)])], []⟩) (mo := []) (mr := []) (by kernel_rfl) (by kernel_rfl) (by kernel_rfl) (by kernel_rfl)) ?_
        refine Wp.cond2 (b := decide (x4 < ((p0.length : Int)))) (by kernel_rfl) (fun hc => ?_) (fun hc => ?_)
        · have h := cond_t h hc
          refine Wp.skip ?_
          refine thenN ?_
          refine Wp.seq ?_
          refine Wp.block ?_
          refine Wp.regionS (pOf []) (rhoOf []) (by kernel_rfl) ?_
          refine Runs.batch 4 (by kernel_rfl) ?_
          obtain ⟨y7, e_y7, h⟩ := bind_some h
          refine Runs.idxT (e := 5) (kk := .i64) (sz := 1) (eInt .u8) p0 x4 rfl (by kernel_rfl) (by kernel_rfl) (by kernel_rfl) (by kernel_rfl) (by kernel_rfl) (by kernel_rfl) e_y7 ?_
          refine Runs.all (by kernel_rfl) ?_
          refine blkN ?_
          refine thenN ?_
          refine Wp.regionS (pOf []) (rhoOf []) (by kernel_rfl) ?_
          refine Runs.all (by kernel_rfl) ?_
          refine thenN ?_
          exact ⟨(p0, bAdd .i64 (bMul .i64 256 x3) (IntKind.wrap .i64 y7), bAdd .i64 x4 1), h, Le.of (mo := []) (mr := []) (by kernel_rfl) (by kernel_rfl) (by kernel_rfl) (by kernel_rfl)⟩
        · have h := cond_f h hc
          refine Wp.exit ?_
          refine thenE ?_
          refine thenE ?_
          refine blkE ?_
          refine thenN ?_
          exact ⟨(p0, x3), h, Le.of (mo := []) (mr := []) (by kernel_rfl) (by kernel_rfl) (by kernel_rfl) (by kernel_rfl)⟩
theorem spec_SumsOf_ok (u : Nat) (p0 : List Int) (p1 : Int) (r : (List Sum)) (h : spec_SumsOf u p0 p1 = some r) : CallOK Try.prog 97 [.one (.t (.sl 1 (p0.map (eInt .u8)))), .one (.t (.int .i64 p1))] (.one (.ow 166 2 (r.map Sum.enc))) [] := by
  unfold spec_SumsOf at h
  refine CallOK.of_bodyK (fn := Try.f97) (m := true) [.t (.sl 1 (p0.map (eInt .u8))), .t (.int .i64 p1)] (by kernel_rfl) rfl (by kernel_rfl) (by kernel_rfl) (by kernel_rfl) (by kernel_rfl) (by kernel_rfl) ?_
  refine Wp.seq ?_
  refine Wp.regionS (pOf []) (rhoOf []) (by kernel_rfl) ?_
  refine Runs.all (by kernel_rfl) ?_
  refine thenN ?_
  refine Wp.le (Le.of (s := ⟨[(0, .t (.sl 1 (p0.map (eInt .u8)))), (1, .t (.int .i64 p1)), (4, .nil)], [], []⟩) (mo := []) (mr := []) (by kernel_rfl) (by kernel_rfl) (by kernel_rfl) (by kernel_rfl)) ?_
  refine Wp.seq ?_
  refine Wp.regionS (pOf []) (rhoOf []) (by kernel_rfl) ?_
  refine Runs.all (by kernel_rfl) ?_
  refine thenN ?_
  refine Wp.le (Le.of (s := ⟨[(0, .t (.sl 1 (p0.map (eInt .u8)))), (1, .t (.int .i64 p1)), (4, .nil), (5, .own 589824)], [], [(589824, .live 166 2 ((([] : List Sum)).map Sum.enc))]⟩) (mo := []) (mr := []) (by kernel_rfl) (by kernel_rfl) (by kernel_rfl) (by kernel_rfl)) ?_
  refine Wp.seqJ (α := (List Sum)) (fun a => ⟨[(4, .nil), (5, .own 327681)], [], [(327681, .live 166 2 (a.map Sum.enc))]⟩) (fun a => spec_SumsOf_j1 u a = some r) ?_ ?_
  · rintro x10 h
    change spec_SumsOf_j1 u x10 = some r at h
    unfold spec_SumsOf_j1 at h
    refine Wp.seq ?_
    refine Wp.regionS (pOf []) (rhoOf []) (by kernel_rfl) ?_
    refine Runs.all (by kernel_rfl) ?_
    refine thenN ?_
    refine Wp.le (Le.of (s := ⟨[(4, .own 327681)], [], [(327681, .live 166 2 (x10.map Sum.enc))]⟩) (mo := []) (mr := []) (by kernel_rfl) (by kernel_rfl) (by kernel_rfl) (by kernel_rfl)) ?_
    refine Wp.ret ?_
    have hr := Option.some.inj h
    subst hr
    exact RetK [.own 327681] (.one (.ow 166 2 (x10.map Sum.enc))) [] (by kernel_rfl) (by kernel_rfl) (.refl _) .nil
  · refine Wp.seq ?_
    refine Wp.regionS (pOf []) (rhoOf []) (by kernel_rfl) ?_
    refine Runs.all (by kernel_rfl) ?_
    refine thenN ?_
    refine Wp.le (Le.of (s := ⟨[(0, .t (.sl 1 (p0.map (eInt .u8)))), (1, .t (.int .i64 p1)), (4, .nil), (5, .own 589824), (6, .t (.int .i64 0))], [], [(589824, .live 166 2 ((([] : List Sum)).map Sum.enc))]⟩) (mo := []) (mr := []) (by kernel_rfl) (by kernel_rfl) (by kernel_rfl) (by kernel_rfl)) ?_
    refine Wp.block ?_
    refine Wp.loopF (α := (List Int) × Int × (List Sum) × Int) (fun a => ⟨[(0, .t (.sl 1 (a.1.map (eInt .u8)))), (1, .t (.int .i64 a.2.1)), (4, .nil), (5, .own 327681), (6, .t (.int .i64 a.2.2.2))], [], [(327681, .live 166 2 (a.2.2.1.map Sum.enc))]⟩) (fun k_spec_SumsOf_l2 a => spec_SumsOf_l2 u k_spec_SumsOf_l2 a.1 a.2.1 a.2.2.1 a.2.2.2 = some r) ?_ ?_ u (p0, p1, ([] : List Sum), 0) h (Le.of (mo := []) (mr := [(327681, 589824)]) (by kernel_rfl) (by kernel_rfl) (by kernel_rfl) (by kernel_rfl))
    · intro a h; unfold spec_SumsOf_l2 at h; cases h
    · rintro k_spec_SumsOf_l2 ⟨p0, p1, x3, x4⟩ h
      change spec_SumsOf_l2 u (k_spec_SumsOf_l2 + 1) p0 p1 x3 x4 = some r at h
      rw [spec_SumsOf_l2] at h
      refine Wp.seq ?_
      refine Wp.seq ?_
      refine Wp.regionS (pOf []) (rhoOf []) (by kernel_rfl) ?_
      refine Runs.batch 3 (by kernel_rfl) ?_
      refine Runs.lenT (y := .t (.sl 1 (p0.map (eInt .u8)))) (e := 5) (eInt .u8) p0 1 rfl rfl rfl (by kernel_rfl) (by kernel_rfl) (by kernel_rfl) (by kernel_rfl) (by kernel_rfl) ?_
      obtain ⟨r7, e_r7, h⟩ := bind_some h
      refine Runs.callK false 14 72 [] [.t (.int .i64 p1), .t (.int .i64 ((p0.length : Int)))] [.one (.t (.int .i64 p1)), .one (.t (.int .i64 ((p0.length : Int))))] (.one (.t (.int .i64 r7))) [] rfl rfl (by kernel_rfl) (by kernel_rfl) (by kernel_rfl) (by kernel_rfl) (by kernel_rfl) (spec_Blocks_ok u p1 ((p0.length : Int)) r7 e_r7) (by kernel_rfl) ?_
      refine Runs.all (by kernel_rfl) ?_
      refine thenN ?_
      refine Wp.le (Le.of (s := ⟨[(0, .t (.sl 1 (p0.map (eInt .u8)))), (1, .t (.int .i64 p1)), (4, .nil), (5, .own 327681), (6, .t (.int .i64 x4)), (10, .t (.int .i64 x4)), (11, .t (.int .i64 p1)), (12, .t (.sl 1 (p0.map (eInt .u8)))), (13, .t (.int .i64 ((p0.length : Int)))), (14, .t (.int .i64 r7)), (15, .t (.bool (decide (x4 < r7))))], [], [(327681, .live 166 2 (x3.map Sum.enc))]⟩) (mo := []) (mr := []) (by kernel_rfl) (by kernel_rfl) (by kernel_rfl) (by kernel_rfl)) ?_
      refine Wp.cond2 (b := decide (x4 < r7)) (by kernel_rfl) (fun hc => ?_) (fun hc => ?_)
      · have h := cond_t h hc
        refine Wp.skip ?_
        refine thenN ?_
        refine Wp.seq ?_
        refine Wp.block ?_
        refine Wp.seq ?_
        refine Wp.regionS (pOf []) (rhoOf []) (by kernel_rfl) ?_
        refine Runs.batch 3 (by kernel_rfl) ?_
        obtain ⟨r8, e_r8, h⟩ := bind_some h
        refine Runs.callK false 22 131 [] [.t (.sl 1 (p0.map (eInt .u8))), .t (.int .i64 p1), .t (.int .i64 x4)] [.one (.t (.sl 1 (p0.map (eInt .u8)))), .one (.t (.int .i64 p1)), .one (.t (.int .i64 x4))] (.tup [.one (.ow 5 1 (r8.1.map (eInt .u8))), .one (.t (.bool r8.2))]) [] rfl rfl (by kernel_rfl) (by kernel_rfl) (by kernel_rfl) (by kernel_rfl) (by kernel_rfl) (spec_BlockAt_ok u p0 p1 x4 r8 e_r8) (by kernel_rfl) ?_
        refine Runs.all (by kernel_rfl) ?_
        refine thenN ?_
        refine Wp.le (Le.of (s := ⟨[(0, .t (.sl 1 (p0.map (eInt .u8)))), (1, .t (.int .i64 p1)), (4, .nil), (5, .own 327681), (6, .t (.int .i64 x4)), (7, .own 1441792), (10, .t (.int .i64 x4)), (11, .t (.int .i64 p1)), (12, .t (.sl 1 (p0.map (eInt .u8)))), (13, .t (.int .i64 ((p0.length : Int)))), (14, .t (.int .i64 r7)), (15, .t (.bool (decide (x4 < r7)))), (18, .tup [.own 1441792, .t (.bool r8.2)]), (19, .t (.sl 1 (p0.map (eInt .u8)))), (20, .t (.int .i64 p1)), (21, .t (.int .i64 x4)), (22, .tup [.own 1441792, .t (.bool r8.2)]), (23, .own 1441792), (24, .t (.bool r8.2))], [], [(327681, .live 166 2 (x3.map Sum.enc)), (1441792, .live 5 1 (r8.1.map (eInt .u8)))]⟩) (mo := []) (mr := []) (by kernel_rfl) (by kernel_rfl) (by kernel_rfl) (by kernel_rfl)) ?_
        refine Wp.regionS (pOf []) (rhoOf []) (by kernel_rfl) ?_
        refine Runs.batch 2 (by kernel_rfl) ?_
        obtain ⟨r9, e_r9, h⟩ := bind_some h
        refine Runs.callBK 27 132 [] [.own 1441792] [.one (.t (.sl 1 (r8.1.map (eInt .u8))))] (.agg [.t (.int .i64 r9.fW), .t (.int .i64 r9.fS)]) rfl rfl (by kernel_rfl) (by kernel_rfl) (by kernel_rfl) (by kernel_rfl) (by kernel_rfl) (spec_SumOf_ok u r8.1 r9 e_r9) (by simp [V.plain, V.plains, C.plain, T.sc]) (by kernel_rfl) ?_
        refine Runs.batch 1 (by kernel_rfl) ?_
        obtain ⟨_, e_10, h⟩ := bind_some h
        refine Runs.appT (y := .own 1835008) Sum.enc 29 2 166 2 16 327681 x3 ([r9]) rfl rfl rfl rfl (by kernel_rfl) (by kernel_rfl) (by kernel_rfl) (by kernel_rfl) (by kernel_rfl) (by kernel_rfl) (.inl rfl) (by kernel_rfl) (of_decide_eq_true (chk_some e_10)) (by kernel_rfl) (by kernel_rfl) ?_
        refine Runs.all (by kernel_rfl) ?_
        refine blkN ?_
        refine thenN ?_
        refine Wp.regionS (pOf []) (rhoOf []) (by kernel_rfl) ?_
        refine Runs.all (by kernel_rfl) ?_
        refine thenN ?_
        exact ⟨(p0, p1, x3 ++ ([r9]), bAdd .i64 x4 1), h, Le.of (mo := []) (mr := [(327681, 1900544)]) (by kernel_rfl) (by kernel_rfl) (by kernel_rfl) (by kernel_rfl)⟩
      · have h := cond_f h hc
        refine Wp.exit ?_
        refine thenE ?_
        refine thenE ?_
        refine blkE ?_
        refine thenN ?_
        exact ⟨x3, h, Le.of (mo := []) (mr := []) (by kernel_rfl) (by kernel_rfl) (by kernel_rfl) (by kernel_rfl)⟩
theorem spec_ManOf_ok (u : Nat) (p0 : Int) (p1 : List Int) (p2 : Int) (r : Manifest) (h : spec_ManOf u p0 p1 p2 = some r) : CallOK Try.prog 44 [.one (.t (.int .i64 p0)), .one (.t (.sl 1 (p1.map (eInt .u8)))), .one (.t (.int .i64 p2))] (.agg [.t (.int .i64 r.fGen), .t (.int .i64 r.fSize), .t (.int .i64 r.fLen), .ow 166 2 (r.fSums.map Sum.enc)]) [] := by
  unfold spec_ManOf at h
  refine CallOK.of_bodyK (fn := Try.f44) (m := true) [.t (.int .i64 p0), .t (.sl 1 (p1.map (eInt .u8))), .t (.int .i64 p2)] (by kernel_rfl) rfl (by kernel_rfl) (by kernel_rfl) (by kernel_rfl) (by kernel_rfl) (by kernel_rfl) ?_
  refine Wp.seq ?_
  refine Wp.regionS (pOf []) (rhoOf []) (by kernel_rfl) ?_
  refine Runs.all (by kernel_rfl) ?_
  refine thenN ?_
  refine Wp.le (Le.of (s := ⟨[(0, .t (.int .i64 p0)), (1, .t (.sl 1 (p1.map (eInt .u8)))), (2, .t (.int .i64 p2)), (6, .obj 6 0)], [(6, [.t (.int .i64 0), .t (.int .i64 0), .t (.int .i64 0), .nil])], []⟩) (mo := []) (mr := []) (by kernel_rfl) (by kernel_rfl) (by kernel_rfl) (by kernel_rfl)) ?_
  refine Wp.seq ?_
  refine Wp.seqJ (α := Int × (List Int) × Int × Bool) (fun a => ⟨[(0, .t (.int .i64 a.1)), (1, .t (.sl 1 (a.2.1.map (eInt .u8)))), (2, .t (.int .i64 a.2.2.1)), (6, .obj 6 0), (16, .t (.bool a.2.2.2))], [(6, [.t (.int .i64 0), .t (.int .i64 0), .t (.int .i64 0), .nil])], []⟩) (fun a => spec_ManOf_j1 u a.1 a.2.1 a.2.2.1 a.2.2.2 = some r) ?_ ?_
  · rintro ⟨p0, p1, p2, x3⟩ h
    change spec_ManOf_j1 u p0 p1 p2 x3 = some r at h
    unfold spec_ManOf_j1 at h
    refine Wp.cond2 (b := x3) (by kernel_rfl) (fun hc => ?_) (fun hc => ?_)
    · have h := cond_t h hc
      refine Wp.seq ?_
      refine Wp.regionS (pOf []) (rhoOf []) (by kernel_rfl) ?_
      refine Runs.all (by kernel_rfl) ?_
      refine thenN ?_
      refine Wp.le (Le.of (s := ⟨[(0, .t (.int .i64 p0)), (1, .t (.sl 1 (p1.map (eInt .u8)))), (2, .t (.int .i64 p2)), (6, .obj 6 0)], [(6, [.t (.int .i64 0), .t (.int .i64 0), .t (.int .i64 0), .nil])], []⟩) (mo := []) (mr := []) (by kernel_rfl) (by kernel_rfl) (by kernel_rfl) (by kernel_rfl)) ?_
      refine Wp.ret ?_
      refine thenR ?_
      have hr := Option.some.inj h
      subst hr
      exact RetK [.agg [.t (.int .i64 0), .t (.int .i64 0), .t (.int .i64 0), .nil]] (.agg [.t (.int .i64 0), .t (.int .i64 0), .t (.int .i64 0), .nil]) [] (by kernel_rfl) (by kernel_rfl) (.agg (.cons (.refl _) (.cons (.refl _) (.cons (.refl _) (.cons (.nilO _ _) .nil))))) .nil
    · have h := cond_f h hc
      refine Wp.skip ?_
      refine thenN ?_
      refine Wp.seq ?_
      refine Wp.regionS (pOf []) (rhoOf []) (by kernel_rfl) ?_
      refine Runs.batch 3 (by kernel_rfl) ?_
      refine Runs.lenT (y := .t (.sl 1 (p1.map (eInt .u8)))) (e := 5) (eInt .u8) p1 1 rfl rfl rfl (by kernel_rfl) (by kernel_rfl) (by kernel_rfl) (by kernel_rfl) (by kernel_rfl) ?_
      refine Runs.batch 2 (by kernel_rfl) ?_
      obtain ⟨r4, e_r4, h⟩ := bind_some h
      refine Runs.callK false 24 97 [] [.t (.sl 1 (p1.map (eInt .u8))), .t (.int .i64 p2)] [.one (.t (.sl 1 (p1.map (eInt .u8)))), .one (.t (.int .i64 p2))] (.one (.ow 166 2 (r4.map Sum.enc))) [] rfl rfl (by kernel_rfl) (by kernel_rfl) (by kernel_rfl) (by kernel_rfl) (by kernel_rfl) (spec_SumsOf_ok u p1 p2 r4 e_r4) (by kernel_rfl) ?_
      refine Runs.all (by kernel_rfl) ?_
      refine thenN ?_
      refine Wp.le (Le.of (s := ⟨[(6, .obj 6 0)], [(6, [.t (.int .i64 p0), .t (.int .i64 p2), .t (.int .i64 ((p1.length : Int))), .own 1572864])], [(1572864, .live 166 2 (r4.map Sum.enc))]⟩) (mo := []) (mr := []) (by kernel_rfl) (by kernel_rfl) (by kernel_rfl) (by kernel_rfl)) ?_
      refine Wp.ret ?_
      have hr := Option.some.inj h
      subst hr
      exact RetK [.agg [.t (.int .i64 p0), .t (.int .i64 p2), .t (.int .i64 ((p1.length : Int))), .own 1572864]] (.agg [.t (.int .i64 p0), .t (.int .i64 p2), .t (.int .i64 ((p1.length : Int))), .ow 166 2 (r4.map Sum.enc)]) [] (by kernel_rfl) (by kernel_rfl) (.refl _) .nil
  · refine Wp.regionS (pOf []) (rhoOf []) (by kernel_rfl) ?_
    refine Runs.batch 1 (by kernel_rfl) ?_
    obtain ⟨r1, e_r1, h⟩ := bind_some h
    refine Runs.callK false 8 79 [] [.t (.int .i64 p0), .t (.int .i64 1), .t (.int .i64 1000000)] [.one (.t (.int .i64 p0)), .one (.t (.int .i64 1)), .one (.t (.int .i64 1000000))] (.one (.t (.bool r1))) [] rfl rfl (by kernel_rfl) (by kernel_rfl) (by kernel_rfl) (by kernel_rfl) (by kernel_rfl) (spec_l1In_ok u p0 1 1000000 r1 e_r1) (by kernel_rfl) ?_
    refine Runs.batch 2 (by kernel_rfl) ?_
    rcases tf (!r1) with hc | hc
    · have h := cond_t h hc
      refine Runs.known 10 (v := true) (by kernel_rfl) hc ?_
      refine Runs.all (by kernel_rfl) ?_
      refine thenN ?_
      exact ⟨(p0, p1, p2, true), h, Le.of (mo := []) (mr := []) (by kernel_rfl) (by kernel_rfl) (by kernel_rfl) (by kernel_rfl)⟩
    · have h := cond_f h hc
      refine Runs.known 10 (v := false) (by kernel_rfl) hc ?_
      refine Runs.batch 2 (by kernel_rfl) ?_
      refine Runs.lenT (y := .t (.sl 1 (p1.map (eInt .u8)))) (e := 5) (eInt .u8) p1 1 rfl rfl rfl (by kernel_rfl) (by kernel_rfl) (by kernel_rfl) (by kernel_rfl) (by kernel_rfl) ?_
      obtain ⟨r2, e_r2, h⟩ := bind_some h
      refine Runs.callK false 14 43 [] [.t (.int .i64 p2), .t (.int .i64 ((p1.length : Int)))] [.one (.t (.int .i64 p2)), .one (.t (.int .i64 ((p1.length : Int))))] (.one (.t (.bool r2))) [] rfl rfl (by kernel_rfl) (by kernel_rfl) (by kernel_rfl) (by kernel_rfl) (by kernel_rfl) (spec_SizeOk_ok u p2 ((p1.length : Int)) r2 e_r2) (by kernel_rfl) ?_
      refine Runs.all (by kernel_rfl) ?_
      refine thenN ?_
      exact ⟨(p0, p1, p2, !r2), h, Le.of (mo := []) (mr := []) (by kernel_rfl) (by kernel_rfl) (by kernel_rfl) (by kernel_rfl)⟩
theorem spec_BytesOf_ok (u : Nat) (p0 : Int) (r : (List Int) × Bool) (h : spec_BytesOf u p0 = some r) : CallOK Try.prog 170 [.one (.t (.int .i64 p0))] (.tup [.one (.ow 5 1 (r.1.map (eInt .u8))), .one (.t (.bool r.2))]) [] := by
  unfold spec_BytesOf at h
  refine CallOK.of_bodyK (fn := Try.f170) (m := true) [.t (.int .i64 p0)] (by kernel_rfl) rfl (by kernel_rfl) (by kernel_rfl) (by kernel_rfl) (by kernel_rfl) (by kernel_rfl) ?_
  refine Wp.seq ?_
  refine Wp.regionS (pOf []) (rhoOf []) (by kernel_rfl) ?_
  refine Runs.all (by kernel_rfl) ?_
  refine thenN ?_
  refine Wp.le (Le.of (s := ⟨[(0, .t (.int .i64 p0)), (2, .nil), (3, .t (.bool false))], [], []⟩) (mo := []) (mr := []) (by kernel_rfl) (by kernel_rfl) (by kernel_rfl) (by kernel_rfl)) ?_
  refine Wp.seq ?_
  refine Wp.seq ?_
  refine Wp.regionS (pOf []) (rhoOf []) (by kernel_rfl) ?_
  refine Runs.batch 1 (by kernel_rfl) ?_
  obtain ⟨r1, e_r1, h⟩ := bind_some h
  refine Runs.callK false 6 79 [] [.t (.int .i64 p0), .t (.int .i64 1), .t (.int .i64 562949953421311)] [.one (.t (.int .i64 p0)), .one (.t (.int .i64 1)), .one (.t (.int .i64 562949953421311))] (.one (.t (.bool r1))) [] rfl rfl (by kernel_rfl) (by kernel_rfl) (by kernel_rfl) (by kernel_rfl) (by kernel_rfl) (spec_l1In_ok u p0 1 562949953421311 r1 e_r1) (by kernel_rfl) ?_
  refine Runs.all (by kernel_rfl) ?_
  refine thenN ?_
  refine Wp.le (Le.of (s := ⟨[(0, .t (.int .i64 p0)), (2, .nil), (3, .t (.bool false)), (7, .t (.bool (!r1)))], [], []⟩) (mo := []) (mr := []) (by kernel_rfl) (by kernel_rfl) (by kernel_rfl) (by kernel_rfl)) ?_
  refine Wp.cond2 (b := !r1) (by kernel_rfl) (fun hc => ?_) (fun hc => ?_)
  · have h := cond_t h hc
    refine Wp.seq ?_
    refine Wp.regionS (pOf []) (rhoOf []) (by kernel_rfl) ?_
    refine Runs.all (by kernel_rfl) ?_
    refine thenN ?_
    refine Wp.le (Le.of (s := ⟨[(0, .t (.int .i64 p0)), (2, .own 524288), (3, .t (.bool false))], [], [(524288, .live 5 1 ((([] : List Int)).map (eInt .u8)))]⟩) (mo := []) (mr := []) (by kernel_rfl) (by kernel_rfl) (by kernel_rfl) (by kernel_rfl)) ?_
    refine Wp.ret ?_
    refine thenR ?_
    have hr := Option.some.inj h
    subst hr
    exact RetK [.own 524288, .t (.bool false)] (.tup [.one (.ow 5 1 ((([] : List Int)).map (eInt .u8))), .one (.t (.bool false))]) [] (by kernel_rfl) (by kernel_rfl) (.refl _) .nil
  · have h := cond_f h hc
    refine Wp.skip ?_
    refine thenN ?_
    refine Wp.seq ?_
    refine Wp.regionS (pOf []) (rhoOf []) (by kernel_rfl) ?_
    refine Runs.all (by kernel_rfl) ?_
    refine thenN ?_
    refine Wp.le (Le.of (s := ⟨[(0, .t (.int .i64 p0)), (2, .nil), (3, .t (.bool false)), (4, .own 589824)], [], [(589824, .live 5 1 ((([] : List Int)).map (eInt .u8)))]⟩) (mo := []) (mr := []) (by kernel_rfl) (by kernel_rfl) (by kernel_rfl) (by kernel_rfl)) ?_
    refine Wp.seqJ (α := (List Int)) (fun a => ⟨[(2, .nil), (3, .t (.bool false)), (4, .own 262145)], [], [(262145, .live 5 1 (a.map (eInt .u8)))]⟩) (fun a => spec_BytesOf_j1 u a = some r) ?_ ?_
    · rintro x8 h
      change spec_BytesOf_j1 u x8 = some r at h
      unfold spec_BytesOf_j1 at h
      refine Wp.seq ?_
      refine Wp.regionS (pOf []) (rhoOf []) (by kernel_rfl) ?_
      refine Runs.all (by kernel_rfl) ?_
      refine thenN ?_
      refine Wp.le (Le.of (s := ⟨[(2, .own 262145), (3, .t (.bool true))], [], [(262145, .live 5 1 (x8.map (eInt .u8)))]⟩) (mo := []) (mr := []) (by kernel_rfl) (by kernel_rfl) (by kernel_rfl) (by kernel_rfl)) ?_
      refine Wp.ret ?_
      have hr := Option.some.inj h
      subst hr
      exact RetK [.own 262145, .t (.bool true)] (.tup [.one (.ow 5 1 (x8.map (eInt .u8))), .one (.t (.bool true))]) [] (by kernel_rfl) (by kernel_rfl) (.refl _) .nil
    · refine Wp.block ?_
      refine Wp.loopF (α := Int × (List Int)) (fun a => ⟨[(0, .t (.int .i64 a.1)), (2, .nil), (3, .t (.bool false)), (4, .own 262145)], [], [(262145, .live 5 1 (a.2.map (eInt .u8)))]⟩) (fun k_spec_BytesOf_l2 a => spec_BytesOf_l2 u k_spec_BytesOf_l2 a.1 a.2 = some r) ?_ ?_ u (p0, ([] : List Int)) h (Le.of (mo := []) (mr := [(262145, 589824)]) (by kernel_rfl) (by kernel_rfl) (by kernel_rfl) (by kernel_rfl))
      · intro a h; unfold spec_BytesOf_l2 at h; cases h
      · rintro k_spec_BytesOf_l2 ⟨x4, x5⟩ h
        change spec_BytesOf_l2 u (k_spec_BytesOf_l2 + 1) x4 x5 = some r at h
        rw [spec_BytesOf_l2] at h
        refine Wp.seq ?_
        refine Wp.seq ?_
        refine Wp.regionS (pOf []) (rhoOf []) (by kernel_rfl) ?_
        refine Runs.all (by kernel_rfl) ?_
        refine thenN ?_
        refine Wp.le (Le.of (s := ⟨[(0, .t (.int .i64 x4)), (2, .nil), (3, .t (.bool false)), (4, .own 262145), (10, .t (.int .i64 x4)), (11, .t (.bool (decide (x4 > 1))))], [], [(262145, .live 5 1 (x5.map (eInt .u8)))]⟩) (mo := []) (mr := []) (by kernel_rfl) (by kernel_rfl) (by kernel_rfl) (by kernel_rfl)) ?_
        refine Wp.cond2 (b := decide (x4 > 1)) (by kernel_rfl) (fun hc => ?_) (fun hc => ?_)
        · have h := cond_t h hc
          refine Wp.skip ?_
          refine thenN ?_
          refine Wp.block ?_
          refine Wp.seq ?_
          refine Wp.seq ?_
          refine Wp.regionS (pOf []) (rhoOf []) (by kernel_rfl) ?_
          refine Runs.all (by kernel_rfl) ?_
          refine thenN ?_
          refine Wp.le (Le.of (s := ⟨[(0, .t (.int .i64 x4)), (2, .nil), (3, .t (.bool false)), (4, .own 262145), (10, .t (.int .i64 x4)), (11, .t (.bool (decide (x4 > 1)))), (12, .t (.int .i64 x4)), (13, .t (.bool (decide (x4 < 256))))], [], [(262145, .live 5 1 (x5.map (eInt .u8)))]⟩) (mo := []) (mr := []) (by kernel_rfl) (by kernel_rfl) (by kernel_rfl) (by kernel_rfl)) ?_
          refine Wp.cond2 (b := decide (x4 < 256)) (by kernel_rfl) (fun hc => ?_) (fun hc => ?_)
          · have h := cond_t h hc
            refine Wp.seq ?_
            refine Wp.regionS (pOf []) (rhoOf []) (by kernel_rfl) ?_
            refine Runs.all (by kernel_rfl) ?_
            refine thenN ?_
            refine Wp.le (Le.of (s := ⟨[(0, .t (.int .i64 x4)), (2, .own 917504), (3, .t (.bool false)), (4, .own 262145), (10, .t (.int .i64 x4)), (11, .t (.bool (decide (x4 > 1)))), (12, .t (.int .i64 x4)), (13, .t (.bool (decide (x4 < 256)))), (14, .own 917504)], [], [(262145, .live 5 1 (x5.map (eInt .u8))), (917504, .live 5 1 ((([] : List Int)).map (eInt .u8)))]⟩) (mo := []) (mr := []) (by kernel_rfl) (by kernel_rfl) (by kernel_rfl) (by kernel_rfl)) ?_
            refine Wp.ret ?_
            refine thenR ?_
            refine blkR ?_
            refine thenR ?_
            refine blkR ?_
            refine thenR ?_
            have hr := Option.some.inj h
            subst hr
            exact RetK [.own 917504, .t (.bool false)] (.tup [.one (.ow 5 1 ((([] : List Int)).map (eInt .u8))), .one (.t (.bool false))]) [] (by kernel_rfl) (by kernel_rfl) (.refl _) .nil
          · have h := cond_f h hc
            refine Wp.skip ?_
            refine thenN ?_
            refine Wp.seq ?_
            refine Wp.regionS (pOf []) (rhoOf []) (by kernel_rfl) ?_
            refine Runs.batch 5 (by kernel_rfl) ?_
            obtain ⟨_, e_8, h⟩ := bind_some h
            refine Runs.appT (y := .own 262145) (eInt .u8) 20 1 5 1 1 1179648 ([IntKind.wrap .u8 (bAnd .i64 x4 255)]) x5 rfl rfl rfl rfl (by kernel_rfl) (by kernel_rfl) (by kernel_rfl) (by kernel_rfl) (by kernel_rfl) (by kernel_rfl) (.inl rfl) (by kernel_rfl) (of_decide_eq_true (chk_some e_8)) (by kernel_rfl) (by kernel_rfl) ?_
            refine Runs.all (by kernel_rfl) ?_
            refine thenN ?_
            refine Wp.le (Le.of (s := ⟨[(0, .t (.int .i64 x4)), (2, .nil), (3, .t (.bool false)), (4, .own 1310720), (10, .t (.int .i64 x4)), (11, .t (.bool (decide (x4 > 1)))), (12, .t (.int .i64 x4)), (13, .t (.bool (decide (x4 < 256)))), (15, .t (.int .i64 x4)), (16, .t (.int .i64 (bAnd .i64 x4 255))), (17, .t (.int .u8 (IntKind.wrap .u8 (bAnd .i64 x4 255)))), (18, .own 1179648), (19, .own 262145), (20, .own 1310720)], [], [(262145, .live 5 1 (x5.map (eInt .u8))), (1179648, .gone), (1310720, .live 5 1 ((([IntKind.wrap .u8 (bAnd .i64 x4 255)]) ++ x5).map (eInt .u8)))]⟩) (mo := []) (mr := []) (by kernel_rfl) (by kernel_rfl) (by kernel_rfl) (by kernel_rfl)) ?_
            refine Wp.regionS (pOf []) (rhoOf []) (by kernel_rfl) ?_
            refine Runs.all (by kernel_rfl) ?_
            refine blkN ?_
            refine thenN ?_
            exact ⟨(bShr .i64 x4 8, ([IntKind.wrap .u8 (bAnd .i64 x4 255)]) ++ x5), h, Le.of (mo := []) (mr := [(262145, 1310720)]) (by kernel_rfl) (by kernel_rfl) (by kernel_rfl) (by kernel_rfl)⟩
        · have h := cond_f h hc
          refine Wp.exit ?_
          refine thenE ?_
          refine thenE ?_
          refine blkE ?_
          refine thenN ?_
          exact ⟨x5, h, Le.of (mo := []) (mr := []) (by kernel_rfl) (by kernel_rfl) (by kernel_rfl) (by kernel_rfl)⟩
theorem spec_ManOk_ok (u : Nat) (p0 : Manifest) (r : Bool) (h : spec_ManOk u p0 = some r) : CallOK Try.prog 133 [.agg [.t (.int .i64 p0.fGen), .t (.int .i64 p0.fSize), .t (.int .i64 p0.fLen), .t (.sl 2 (p0.fSums.map Sum.enc))]] (.one (.t (.bool r))) [] := by
  unfold spec_ManOk at h
  refine CallOK.of_bodyK (fn := Try.f133) (m := false) [.agg [.t (.int .i64 p0.fGen), .t (.int .i64 p0.fSize), .t (.int .i64 p0.fLen), .t (.sl 2 (p0.fSums.map Sum.enc))]] (by kernel_rfl) rfl (by kernel_rfl) (by kernel_rfl) (by kernel_rfl) (by kernel_rfl) (by kernel_rfl) ?_
  refine Wp.seq ?_
  refine Wp.regionS (pOf []) (rhoOf []) (by kernel_rfl) ?_
  refine Runs.all (by kernel_rfl) ?_
  refine thenN ?_
  refine Wp.le (Le.of (s := ⟨[(1, .obj 1 0), (2, .t (.bool false))], [(1, [.t (.int .i64 p0.fGen), .t (.int .i64 p0.fSize), .t (.int .i64 p0.fLen), .t (.sl 2 (p0.fSums.map Sum.enc))])], []⟩) (mo := []) (mr := []) (by kernel_rfl) (by kernel_rfl) (by kernel_rfl) (by kernel_rfl)) ?_
  refine Wp.seq ?_
  refine Wp.seq ?_
  refine Wp.regionS (pOf []) (rhoOf []) (by kernel_rfl) ?_
  refine Runs.all (by kernel_rfl) ?_
  refine thenN ?_
  refine Wp.le (Le.of (s := ⟨[(1, .obj 1 0), (2, .t (.bool false)), (10, .t (.bool (p0.fGen == 0)))], [(1, [.t (.int .i64 p0.fGen), .t (.int .i64 p0.fSize), .t (.int .i64 p0.fLen), .t (.sl 2 (p0.fSums.map Sum.enc))])], []⟩) (mo := []) (mr := []) (by kernel_rfl) (by kernel_rfl) (by kernel_rfl) (by kernel_rfl)) ?_
  refine Wp.cond2 (b := p0.fGen == 0) (by kernel_rfl) (fun hc => ?_) (fun hc => ?_)
  · have h := cond_t h hc
    refine Wp.seq ?_
    refine Wp.regionS (pOf []) (rhoOf []) (by kernel_rfl) ?_
    refine Runs.batch 4 (by kernel_rfl) ?_
    rcases tf (p0.fSize == 0) with hc | hc
    · have h := cond_t h hc
      refine Runs.known 14 (v := true) (by kernel_rfl) hc ?_
      refine Runs.batch 5 (by kernel_rfl) ?_
      rcases tf (p0.fLen == 0) with hc | hc
      · have h := cond_t h hc
        refine Runs.known 19 (v := true) (by kernel_rfl) hc ?_
        refine Runs.batch 2 (by kernel_rfl) ?_
        refine Runs.lenT (y := .t (.sl 2 (p0.fSums.map Sum.enc))) (e := 166) Sum.enc p0.fSums 2 rfl rfl rfl (by kernel_rfl) (by kernel_rfl) (by kernel_rfl) (by kernel_rfl) (by kernel_rfl) ?_
        refine Runs.all (by kernel_rfl) ?_
        refine thenN ?_
        refine Wp.le (Le.of (s := ⟨[(1, .obj 1 0), (2, .t (.bool (((p0.fSums.length : Int)) == 0)))], [(1, [.t (.int .i64 p0.fGen), .t (.int .i64 p0.fSize), .t (.int .i64 p0.fLen), .t (.sl 2 (p0.fSums.map Sum.enc))])], []⟩) (mo := []) (mr := []) (by kernel_rfl) (by kernel_rfl) (by kernel_rfl) (by kernel_rfl)) ?_
        refine Wp.ret ?_
        refine thenR ?_
        have hr := Option.some.inj h
        subst hr
        exact RetK [.t (.bool (((p0.fSums.length : Int)) == 0))] (.one (.t (.bool (((p0.fSums.length : Int)) == 0)))) [] (by kernel_rfl) (by kernel_rfl) (.refl _) .nil
      · have h := cond_f h hc
        refine Runs.known 19 (v := false) (by kernel_rfl) hc ?_
        refine Runs.all (by kernel_rfl) ?_
        refine thenN ?_
        refine Wp.le (Le.of (s := ⟨[(1, .obj 1 0), (2, .t (.bool false))], [(1, [.t (.int .i64 p0.fGen), .t (.int .i64 p0.fSize), .t (.int .i64 p0.fLen), .t (.sl 2 (p0.fSums.map Sum.enc))])], []⟩) (mo := []) (mr := []) (by kernel_rfl) (by kernel_rfl) (by kernel_rfl) (by kernel_rfl)) ?_
        refine Wp.ret ?_
        refine thenR ?_
        have hr := Option.some.inj h
        subst hr
        exact RetK [.t (.bool false)] (.one (.t (.bool false))) [] (by kernel_rfl) (by kernel_rfl) (.refl _) .nil
    · have h := cond_f h hc
      refine Runs.known 14 (v := false) (by kernel_rfl) hc ?_
      refine Runs.all (by kernel_rfl) ?_
      refine thenN ?_
      refine Wp.le (Le.of (s := ⟨[(1, .obj 1 0), (2, .t (.bool false))], [(1, [.t (.int .i64 p0.fGen), .t (.int .i64 p0.fSize), .t (.int .i64 p0.fLen), .t (.sl 2 (p0.fSums.map Sum.enc))])], []⟩) (mo := []) (mr := []) (by kernel_rfl) (by kernel_rfl) (by kernel_rfl) (by kernel_rfl)) ?_
      refine Wp.ret ?_
      refine thenR ?_
      have hr := Option.some.inj h
      subst hr
      exact RetK [.t (.bool false)] (.one (.t (.bool false))) [] (by kernel_rfl) (by kernel_rfl) (.refl _) .nil
  · have h := cond_f h hc
    refine Wp.skip ?_
    refine thenN ?_
    refine Wp.seq ?_
    refine Wp.seqJ (α := Bool × Manifest) (fun a => ⟨[(1, .obj 1 0), (2, .t (.bool false)), (47, .t (.bool a.1))], [(1, [.t (.int .i64 a.2.fGen), .t (.int .i64 a.2.fSize), .t (.int .i64 a.2.fLen), .t (.sl 2 (a.2.fSums.map Sum.enc))])], []⟩) (fun a => spec_ManOk_j1 u a.1 a.2 = some r) ?_ ?_
    · rintro ⟨x4, p0⟩ h
      change spec_ManOk_j1 u x4 p0 = some r at h
      unfold spec_ManOk_j1 at h
      refine Wp.cond2 (b := x4) (by kernel_rfl) (fun hc => ?_) (fun hc => ?_)
      · have h := cond_t h hc
        refine Wp.seq ?_
        refine Wp.regionS (pOf []) (rhoOf []) (by kernel_rfl) ?_
        refine Runs.all (by kernel_rfl) ?_
        refine thenN ?_
        refine Wp.le (Le.of (s := ⟨[(1, .obj 1 0), (2, .t (.bool false))], [(1, [.t (.int .i64 p0.fGen), .t (.int .i64 p0.fSize), .t (.int .i64 p0.fLen), .t (.sl 2 (p0.fSums.map Sum.enc))])], []⟩) (mo := []) (mr := []) (by kernel_rfl) (by kernel_rfl) (by kernel_rfl) (by kernel_rfl)) ?_
        refine Wp.ret ?_
        refine thenR ?_
        have hr := Option.some.inj h
        subst hr
        exact RetK [.t (.bool false)] (.one (.t (.bool false))) [] (by kernel_rfl) (by kernel_rfl) (.refl _) .nil
      · have h := cond_f h hc
        refine Wp.skip ?_
        refine thenN ?_
        refine Wp.seqJ (α := Unit) (fun a => ⟨[(2, .t (.bool false))], [], []⟩) (fun a => spec_ManOk_j2 u = some r) ?_ ?_
        · rintro ⟨⟩ h
          change spec_ManOk_j2 u = some r at h
          unfold spec_ManOk_j2 at h
          refine Wp.seq ?_
          refine Wp.regionS (pOf []) (rhoOf []) (by kernel_rfl) ?_
          refine Runs.all (by kernel_rfl) ?_
          refine thenN ?_
          refine Wp.le (Le.of (s := ⟨[(2, .t (.bool true))], [], []⟩) (mo := []) (mr := []) (by kernel_rfl) (by kernel_rfl) (by kernel_rfl) (by kernel_rfl)) ?_
          refine Wp.ret ?_
          have hr := Option.some.inj h
          subst hr
          exact RetK [.t (.bool true)] (.one (.t (.bool true))) [] (by kernel_rfl) (by kernel_rfl) (.refl _) .nil
        · refine Wp.seq ?_
          refine Wp.regionS (pOf []) (rhoOf []) (by kernel_rfl) ?_
          refine Runs.all (by kernel_rfl) ?_
          refine thenN ?_
          refine Wp.le (Le.of (s := ⟨[(1, .obj 1 0), (2, .t (.bool false)), (3, .t (.int .i64 0))], [(1, [.t (.int .i64 p0.fGen), .t (.int .i64 p0.fSize), .t (.int .i64 p0.fLen), .t (.sl 2 (p0.fSums.map Sum.enc))])], []⟩) (mo := []) (mr := []) (by kernel_rfl) (by kernel_rfl) (by kernel_rfl) (by kernel_rfl)) ?_
          refine Wp.block ?_
          refine Wp.loopF (α := Int × Manifest) (fun a => ⟨[(1, .obj 1 0), (2, .t (.bool false)), (3, .t (.int .i64 a.1))], [(1, [.t (.int .i64 a.2.fGen), .t (.int .i64 a.2.fSize), .t (.int .i64 a.2.fLen), .t (.sl 2 (a.2.fSums.map Sum.enc))])], []⟩) (fun k_spec_ManOk_l3 a => spec_ManOk_l3 u k_spec_ManOk_l3 a.1 a.2 = some r) ?_ ?_ u (0, p0) h (Le.of (mo := []) (mr := []) (by kernel_rfl) (by kernel_rfl) (by kernel_rfl) (by kernel_rfl))
          · intro a h; unfold spec_ManOk_l3 at h; cases h
          · rintro k_spec_ManOk_l3 ⟨x6, p0⟩ h
            change spec_ManOk_l3 u (k_spec_ManOk_l3 + 1) x6 p0 = some r at h
            rw [spec_ManOk_l3] at h
            refine Wp.seq ?_
            refine Wp.seq ?_
            refine Wp.regionS (pOf []) (rhoOf []) (by kernel_rfl) ?_
            refine Runs.batch 3 (by kernel_rfl) ?_
            refine Runs.lenT (y := .t (.sl 2 (p0.fSums.map Sum.enc))) (e := 166) Sum.enc p0.fSums 2 rfl rfl rfl (by kernel_rfl) (by kernel_rfl) (by kernel_rfl) (by kernel_rfl) (by kernel_rfl) ?_
            refine Runs.all (by kernel_rfl) ?_
            refine thenN ?_
            refine Wp.le (Le.of (s := ⟨[(1, .obj 1 0), (2, .t (.bool false)), (3, .t (.int .i64 x6)), (48, .t (.int .i64 x6)), (49, .obj 1 3), (50, .t (.sl 2 (p0.fSums.map Sum.enc))), (51, .t (.int .i64 ((p0.fSums.length : Int)))), (52, .t (.bool (decide (x6 < ((p0.fSums.length : Int))))))], [(1, [.t (.int .i64 p0.fGen), .t (.int .i64 p0.fSize), .t (.int .i64 p0.fLen), .t (.sl 2 (p0.fSums.map Sum.enc))])], []⟩) (mo := []) (mr := []) (by kernel_rfl) (by kernel_rfl) (by kernel_rfl) (by kernel_rfl)) ?_
            refine Wp.cond2 (b := decide (x6 < ((p0.fSums.length : Int)))) (by kernel_rfl) (fun hc => ?_) (fun hc => ?_)
            · have h := cond_t h hc
              refine Wp.skip ?_
              refine thenN ?_
              refine Wp.seq ?_
              refine Wp.block ?_
              refine Wp.seq ?_
              refine Wp.regionS (pOf []) (rhoOf []) (by kernel_rfl) ?_
              refine Runs.batch 3 (by kernel_rfl) ?_
              obtain ⟨y8, e_y8, h⟩ := bind_some h
              refine Runs.idxT (e := 166) (kk := .i64) (sz := 2) Sum.enc p0.fSums x6 rfl (by kernel_rfl) (by kernel_rfl) (by kernel_rfl) (by kernel_rfl) (by kernel_rfl) (by kernel_rfl) e_y8 ?_
              refine Runs.batch 2 (by kernel_rfl) ?_
              obtain ⟨r9, e_r9, h⟩ := bind_some h
              refine Runs.callK false 62 170 [] [.t (.int .i64 y8.fS)] [.one (.t (.int .i64 y8.fS))] (.tup [.one (.ow 5 1 (r9.1.map (eInt .u8))), .one (.t (.bool r9.2))]) [] rfl rfl (by kernel_rfl) (by kernel_rfl) (by kernel_rfl) (by kernel_rfl) (by kernel_rfl) (spec_BytesOf_ok u y8.fS r9 e_r9) (by kernel_rfl) ?_
              refine Runs.all (by kernel_rfl) ?_
              refine thenN ?_
              refine Wp.le (Le.of (s := ⟨[(1, .obj 1 0), (2, .t (.bool false)), (3, .t (.int .i64 x6)), (4, .own 4063232), (5, .t (.bool r9.2)), (48, .t (.int .i64 x6)), (49, .obj 1 3), (50, .t (.sl 2 (p0.fSums.map Sum.enc))), (51, .t (.int .i64 ((p0.fSums.length : Int)))), (52, .t (.bool (decide (x6 < ((p0.fSums.length : Int)))))), (55, .tup [.own 4063232, .t (.bool r9.2)]), (56, .obj 1 3), (57, .t (.sl 2 (p0.fSums.map Sum.enc))), (58, .t (.int .i64 x6)), (59, .fadr [.int .i64 y8.fW, .int .i64 y8.fS]), (60, .fadr [.int .i64 y8.fS]), (61, .t (.int .i64 y8.fS)), (62, .tup [.own 4063232, .t (.bool r9.2)]), (63, .own 4063232), (64, .t (.bool r9.2))], [(1, [.t (.int .i64 p0.fGen), .t (.int .i64 p0.fSize), .t (.int .i64 p0.fLen), .t (.sl 2 (p0.fSums.map Sum.enc))])], [(4063232, .live 5 1 (r9.1.map (eInt .u8)))]⟩) (mo := []) (mr := []) (by kernel_rfl) (by kernel_rfl) (by kernel_rfl) (by kernel_rfl)) ?_
              refine Wp.seq ?_
              refine Wp.regionS (pOf []) (rhoOf []) (by kernel_rfl) ?_
              refine Runs.batch 5 (by kernel_rfl) ?_
              obtain ⟨r10, e_r10, h⟩ := bind_some h
              refine Runs.callK false 71 101 [] [.t (.int .i64 p0.fSize), .t (.int .i64 p0.fLen), .t (.int .i64 x6)] [.one (.t (.int .i64 p0.fSize)), .one (.t (.int .i64 p0.fLen)), .one (.t (.int .i64 x6))] (.tup [.one (.t (.int .i64 r10.1)), .one (.t (.int .i64 r10.2))]) [] rfl rfl (by kernel_rfl) (by kernel_rfl) (by kernel_rfl) (by kernel_rfl) (by kernel_rfl) (spec_SpanOf_ok u p0.fSize p0.fLen x6 r10 e_r10) (by kernel_rfl) ?_
              refine Runs.all (by kernel_rfl) ?_
              refine thenN ?_
              refine Wp.le (Le.of (s := ⟨[(1, .obj 1 0), (2, .t (.bool false)), (3, .t (.int .i64 x6)), (4, .own 4063232), (5, .t (.bool r9.2)), (7, .t (.int .i64 r10.2)), (48, .t (.int .i64 x6)), (49, .obj 1 3), (50, .t (.sl 2 (p0.fSums.map Sum.enc))), (51, .t (.int .i64 ((p0.fSums.length : Int)))), (52, .t (.bool (decide (x6 < ((p0.fSums.length : Int)))))), (55, .tup [.own 4063232, .t (.bool r9.2)]), (56, .obj 1 3), (57, .t (.sl 2 (p0.fSums.map Sum.enc))), (58, .t (.int .i64 x6)), (59, .fadr [.int .i64 y8.fW, .int .i64 y8.fS]), (60, .fadr [.int .i64 y8.fS]), (61, .t (.int .i64 y8.fS)), (62, .tup [.own 4063232, .t (.bool r9.2)]), (63, .own 4063232), (64, .t (.bool r9.2)), (65, .tup [.t (.int .i64 r10.1), .t (.int .i64 r10.2)]), (66, .obj 1 1), (67, .t (.int .i64 p0.fSize)), (68, .obj 1 2), (69, .t (.int .i64 p0.fLen)), (70, .t (.int .i64 x6)), (71, .tup [.t (.int .i64 r10.1), .t (.int .i64 r10.2)]), (72, .t (.int .i64 r10.1)), (73, .t (.int .i64 r10.2))], [(1, [.t (.int .i64 p0.fGen), .t (.int .i64 p0.fSize), .t (.int .i64 p0.fLen), .t (.sl 2 (p0.fSums.map Sum.enc))])], [(4063232, .live 5 1 (r9.1.map (eInt .u8)))]⟩) (mo := []) (mr := []) (by kernel_rfl) (by kernel_rfl) (by kernel_rfl) (by kernel_rfl)) ?_
              refine Wp.seqJ (α := Int × ((List Int) × Bool) × (Int × Int) × Manifest × Sum × Bool × Bool × Bool × Bool) (fun a => ⟨[(1, .obj 1 0), (2, .t (.bool false)), (3, .t (.int .i64 a.1)), (4, .own 262145), (5, .t (.bool a.2.1.2)), (7, .t (.int .i64 a.2.2.1.2)), (48, .t (.int .i64 a.1)), (49, .obj 1 3), (50, .t (.sl 2 (a.2.2.2.1.fSums.map Sum.enc))), (51, .t (.int .i64 ((a.2.2.2.1.fSums.length : Int)))), (52, .t (.bool (decide (a.1 < ((a.2.2.2.1.fSums.length : Int)))))), (56, .obj 1 3), (57, .t (.sl 2 (a.2.2.2.1.fSums.map Sum.enc))), (58, .t (.int .i64 a.1)), (59, .fadr [.int .i64 a.2.2.2.2.1.fW, .int .i64 a.2.2.2.2.1.fS]), (60, .fadr [.int .i64 a.2.2.2.2.1.fS]), (61, .t (.int .i64 a.2.2.2.2.1.fS)), (63, .own 262145), (64, .t (.bool a.2.1.2)), (66, .obj 1 1), (67, .t (.int .i64 a.2.2.2.1.fSize)), (68, .obj 1 2), (69, .t (.int .i64 a.2.2.2.1.fLen)), (70, .t (.int .i64 a.1)), (72, .t (.int .i64 a.2.2.1.1)), (73, .t (.int .i64 a.2.2.1.2)), (74, .t (.bool a.2.1.2)), (75, .t (.bool (!a.2.1.2))), (76, .t (.bool a.2.2.2.2.2.1)), (81, .t (.bool a.2.2.2.2.2.2.1)), (82, .t (.bool a.2.2.2.2.2.2.2.1)), (91, .t (.bool a.2.2.2.2.2.2.2.2))], [(1, [.t (.int .i64 a.2.2.2.1.fGen), .t (.int .i64 a.2.2.2.1.fSize), .t (.int .i64 a.2.2.2.1.fLen), .t (.sl 2 (a.2.2.2.1.fSums.map Sum.enc))])], [(262145, .live 5 1 (a.2.1.1.map (eInt .u8)))]⟩) (fun a => spec_ManOk_j4 u (fun z0 z1 => spec_ManOk_l3 u k_spec_ManOk_l3 z0 z1) a.1 a.2.1 a.2.2.1 a.2.2.2.1 a.2.2.2.2.1 a.2.2.2.2.2.1 a.2.2.2.2.2.2.1 a.2.2.2.2.2.2.2.1 a.2.2.2.2.2.2.2.2 = some r) ?_ ?_
              · rintro ⟨x6, r9, r10, p0, y8, x13, x14, x15, x16⟩ h
                change spec_ManOk_j4 u (fun z0 z1 => spec_ManOk_l3 u k_spec_ManOk_l3 z0 z1) x6 r9 r10 p0 y8 x13 x14 x15 x16 = some r at h
                unfold spec_ManOk_j4 at h
                refine Wp.cond2 (b := x16) (by kernel_rfl) (fun hc => ?_) (fun hc => ?_)
                · have h := cond_t h hc
                  refine Wp.seq ?_
                  refine Wp.regionS (pOf []) (rhoOf []) (by kernel_rfl) ?_
                  refine Runs.all (by kernel_rfl) ?_
                  refine thenN ?_
                  refine Wp.le (Le.of (s := ⟨[(1, .obj 1 0), (2, .t (.bool false)), (3, .t (.int .i64 x6)), (4, .own 262145), (5, .t (.bool r9.2)), (7, .t (.int .i64 r10.2)), (48, .t (.int .i64 x6)), (49, .obj 1 3), (50, .t (.sl 2 (p0.fSums.map Sum.enc))), (51, .t (.int .i64 ((p0.fSums.length : Int)))), (52, .t (.bool (decide (x6 < ((p0.fSums.length : Int)))))), (56, .obj 1 3), (57, .t (.sl 2 (p0.fSums.map Sum.enc))), (58, .t (.int .i64 x6)), (59, .fadr [.int .i64 y8.fW, .int .i64 y8.fS]), (60, .fadr [.int .i64 y8.fS]), (61, .t (.int .i64 y8.fS)), (63, .own 262145), (64, .t (.bool r9.2)), (66, .obj 1 1), (67, .t (.int .i64 p0.fSize)), (68, .obj 1 2), (69, .t (.int .i64 p0.fLen)), (70, .t (.int .i64 x6)), (72, .t (.int .i64 r10.1)), (73, .t (.int .i64 r10.2)), (74, .t (.bool r9.2)), (75, .t (.bool (!r9.2))), (76, .t (.bool x13)), (81, .t (.bool x14)), (82, .t (.bool x15)), (91, .t (.bool x16))], [(1, [.t (.int .i64 p0.fGen), .t (.int .i64 p0.fSize), .t (.int .i64 p0.fLen), .t (.sl 2 (p0.fSums.map Sum.enc))])], [(262145, .live 5 1 (r9.1.map (eInt .u8)))]⟩) (mo := []) (mr := []) (by kernel_rfl) (by kernel_rfl) (by kernel_rfl) (by kernel_rfl)) ?_
                  refine Wp.ret ?_
                  refine blkR ?_
                  refine thenR ?_
                  refine thenR ?_
                  refine blkR ?_
                  refine thenR ?_
                  have hr := Option.some.inj h
                  subst hr
                  exact RetK [.t (.bool false)] (.one (.t (.bool false))) [] (by kernel_rfl) (by kernel_rfl) (.refl _) .nil
                · have h := cond_f h hc
                  refine Wp.skip ?_
                  refine blkN ?_
                  refine thenN ?_
                  refine Wp.regionS (pOf []) (rhoOf []) (by kernel_rfl) ?_
                  refine Runs.all (by kernel_rfl) ?_
                  refine thenN ?_
                  exact ⟨(bAdd .i64 x6 1, p0), h, Le.of (mo := []) (mr := []) (by kernel_rfl) (by kernel_rfl) (by kernel_rfl) (by kernel_rfl)⟩
              · refine Wp.regionA (pOf []) (rhoOf [(1, .obj 1), (3, .frz), (4, .own 62), (5, .frz), (7, .frz), (74, .frz), (75, .frz), (76, .frz), (77, .own 62), (78, .frz), (79, .frz), (81, .frz), (82, .frz), (83, .own 62), (84, .frz), (85, .obj 1), (86, .frz), (87, .frz), (88, .frz), (89, .frz)]) (by kernel_rfl) (by kernel_rfl) ?_
                refine Runs.batch 3 (by kernel_rfl) ?_
                rcases tf (!r9.2) with hc | hc
                · have h := cond_t h hc
                  refine Runs.known 76 (v := true) (by kernel_rfl) hc ?_
                  refine Runs.all (by kernel_rfl) ?_
                  refine thenN ?_
                  exact ⟨(x6, r9, r10, p0, y8, true, true, true, true), h, Le.of (mo := []) (mr := [(262145, 4063232)]) (by kernel_rfl) (by kernel_rfl) (by kernel_rfl) (by kernel_rfl)⟩
                · have h := cond_f h hc
                  refine Runs.known 76 (v := false) (by kernel_rfl) hc ?_
                  refine Runs.batch 1 (by kernel_rfl) ?_
                  refine Runs.lenT (y := .own 4063232) (e := 5) (eInt .u8) r9.1 1 rfl rfl rfl (by kernel_rfl) (by kernel_rfl) (by kernel_rfl) (by kernel_rfl) (by kernel_rfl) ?_
                  refine Runs.batch 4 (by kernel_rfl) ?_
                  rcases tf (((r9.1.length : Int)) != r10.2) with hc | hc
                  · have h := cond_t h hc
                    refine Runs.known 82 (v := true) (by kernel_rfl) hc ?_
                    refine Runs.all (by kernel_rfl) ?_
                    refine thenN ?_
                    exact ⟨(x6, r9, r10, p0, y8, false, ((r9.1.length : Int)) != r10.2, true, true), h, Le.of (mo := []) (mr := [(262145, 4063232)]) (by kernel_rfl) (by kernel_rfl) (by kernel_rfl) (by kernel_rfl)⟩
                  · have h := cond_f h hc
                    refine Runs.known 82 (v := false) (by kernel_rfl) hc ?_
                    refine Runs.batch 1 (by kernel_rfl) ?_
                    obtain ⟨r11, e_r11, h⟩ := bind_some h
                    refine Runs.callBK 84 132 [] [.own 4063232] [.one (.t (.sl 1 (r9.1.map (eInt .u8))))] (.agg [.t (.int .i64 r11.fW), .t (.int .i64 r11.fS)]) rfl rfl (by kernel_rfl) (by kernel_rfl) (by kernel_rfl) (by kernel_rfl) (by kernel_rfl) (spec_SumOf_ok u r9.1 r11 e_r11) (by simp [V.plain, V.plains, C.plain, T.sc]) (by kernel_rfl) ?_
                    refine Runs.batch 3 (by kernel_rfl) ?_
                    obtain ⟨y12, e_y12, h⟩ := bind_some h
                    refine Runs.idxT (e := 166) (kk := .i64) (sz := 2) Sum.enc p0.fSums x6 rfl (by kernel_rfl) (by kernel_rfl) (by kernel_rfl) (by kernel_rfl) (by kernel_rfl) (by kernel_rfl) e_y12 ?_
                    refine Runs.all (by kernel_rfl) ?_
                    refine thenN ?_
                    exact ⟨(x6, r9, r10, p0, y8, false, ((r9.1.length : Int)) != r10.2, false, !([r11.fW, r11.fS] == [y12.fW, y12.fS])), h, Le.of (mo := []) (mr := [(262145, 4063232)]) (by kernel_rfl) (by kernel_rfl) (by kernel_rfl) (by kernel_rfl)⟩
            · have h := cond_f h hc
              refine Wp.exit ?_
              refine thenE ?_
              refine thenE ?_
              refine blkE ?_
              refine thenN ?_
              exact ⟨(), h, Le.of (mo := []) (mr := []) (by kernel_rfl) (by kernel_rfl) (by kernel_rfl) (by kernel_rfl)⟩
    · refine Wp.regionA (pOf []) (rhoOf [(1, .obj 1), (25, .obj 1), (26, .frz), (27, .frz), (28, .frz), (29, .frz), (30, .obj 1), (31, .frz), (32, .obj 1), (33, .frz), (34, .frz), (36, .frz), (37, .frz), (38, .obj 1), (39, .frz), (40, .frz), (41, .obj 1), (42, .frz), (43, .obj 1), (44, .frz), (45, .frz)]) (by kernel_rfl) (by kernel_rfl) ?_
      refine Runs.batch 2 (by kernel_rfl) ?_
      obtain ⟨r1, e_r1, h⟩ := bind_some h
      refine Runs.callK false 27 79 [] [.t (.int .i64 p0.fGen), .t (.int .i64 1), .t (.int .i64 1000000)] [.one (.t (.int .i64 p0.fGen)), .one (.t (.int .i64 1)), .one (.t (.int .i64 1000000))] (.one (.t (.bool r1))) [] rfl rfl (by kernel_rfl) (by kernel_rfl) (by kernel_rfl) (by kernel_rfl) (by kernel_rfl) (spec_l1In_ok u p0.fGen 1 1000000 r1 e_r1) (by kernel_rfl) ?_
      refine Runs.batch 2 (by kernel_rfl) ?_
      rcases tf (!r1) with hc | hc
      · have h := cond_t h hc
        refine Runs.known 29 (v := true) (by kernel_rfl) hc ?_
        refine Runs.all (by kernel_rfl) ?_
        refine thenN ?_
        exact ⟨(true, p0), h, Le.of (mo := []) (mr := []) (by kernel_rfl) (by kernel_rfl) (by kernel_rfl) (by kernel_rfl)⟩
      · have h := cond_f h hc
        refine Runs.known 29 (v := false) (by kernel_rfl) hc ?_
        refine Runs.batch 4 (by kernel_rfl) ?_
        obtain ⟨r2, e_r2, h⟩ := bind_some h
        refine Runs.callK false 34 43 [] [.t (.int .i64 p0.fSize), .t (.int .i64 p0.fLen)] [.one (.t (.int .i64 p0.fSize)), .one (.t (.int .i64 p0.fLen))] (.one (.t (.bool r2))) [] rfl rfl (by kernel_rfl) (by kernel_rfl) (by kernel_rfl) (by kernel_rfl) (by kernel_rfl) (spec_SizeOk_ok u p0.fSize p0.fLen r2 e_r2) (by kernel_rfl) ?_
        refine Runs.batch 3 (by kernel_rfl) ?_
        rcases tf (!r2) with hc | hc
        · have h := cond_t h hc
          refine Runs.known 37 (v := true) (by kernel_rfl) hc ?_
          refine Runs.all (by kernel_rfl) ?_
          refine thenN ?_
          exact ⟨(true, p0), h, Le.of (mo := []) (mr := []) (by kernel_rfl) (by kernel_rfl) (by kernel_rfl) (by kernel_rfl)⟩
        · have h := cond_f h hc
          refine Runs.known 37 (v := false) (by kernel_rfl) hc ?_
          refine Runs.batch 2 (by kernel_rfl) ?_
          refine Runs.lenT (y := .t (.sl 2 (p0.fSums.map Sum.enc))) (e := 166) Sum.enc p0.fSums 2 rfl rfl rfl (by kernel_rfl) (by kernel_rfl) (by kernel_rfl) (by kernel_rfl) (by kernel_rfl) ?_
          refine Runs.batch 4 (by kernel_rfl) ?_
          obtain ⟨r3, e_r3, h⟩ := bind_some h
          refine Runs.callK false 45 72 [] [.t (.int .i64 p0.fSize), .t (.int .i64 p0.fLen)] [.one (.t (.int .i64 p0.fSize)), .one (.t (.int .i64 p0.fLen))] (.one (.t (.int .i64 r3))) [] rfl rfl (by kernel_rfl) (by kernel_rfl) (by kernel_rfl) (by kernel_rfl) (by kernel_rfl) (spec_Blocks_ok u p0.fSize p0.fLen r3 e_r3) (by kernel_rfl) ?_
          refine Runs.all (by kernel_rfl) ?_
          refine thenN ?_
          exact ⟨(((p0.fSums.length : Int)) != r3, p0), h, Le.of (mo := []) (mr := []) (by kernel_rfl) (by kernel_rfl) (by kernel_rfl) (by kernel_rfl)⟩
theorem spec_PutVar_ok (u : Nat) (p0 : List Int) (p1 : Int) (r : (List Int)) (h : spec_PutVar u p0 p1 = some r) : CallOK Try.prog 134 [.one (.t (.sl 1 (p0.map (eInt .u8)))), .one (.t (.int .i64 p1))] (.one (.ow 5 1 (r.map (eInt .u8)))) [] := by
  unfold spec_PutVar at h
  refine CallOK.of_bodyK (fn := Try.f134) (m := true) [.t (.sl 1 (p0.map (eInt .u8))), .t (.int .i64 p1)] (by kernel_rfl) rfl (by kernel_rfl) (by kernel_rfl) (by kernel_rfl) (by kernel_rfl) (by kernel_rfl) ?_
  refine Wp.seq ?_
  refine Wp.regionS (pOf []) (rhoOf []) (by kernel_rfl) ?_
  refine Runs.all (by kernel_rfl) ?_
  refine thenN ?_
  refine Wp.le (Le.of (s := ⟨[(0, .t (.sl 1 (p0.map (eInt .u8)))), (1, .t (.int .i64 p1)), (4, .nil)], [], []⟩) (mo := []) (mr := []) (by kernel_rfl) (by kernel_rfl) (by kernel_rfl) (by kernel_rfl)) ?_
  refine Wp.seq ?_
  refine Wp.regionS (pOf []) (rhoOf []) (by kernel_rfl) ?_
  refine Runs.batch 2 (by kernel_rfl) ?_
  obtain ⟨_, e_1, h⟩ := bind_some h
  refine Runs.appT (y := .t (.sl 1 (p0.map (eInt .u8)))) (eInt .u8) 8 1 5 1 1 393216 (([] : List Int)) p0 rfl rfl rfl rfl (by kernel_rfl) (by kernel_rfl) (by kernel_rfl) (by kernel_rfl) (by kernel_rfl) (by kernel_rfl) (.inl rfl) (by kernel_rfl) (of_decide_eq_true (chk_some e_1)) (by kernel_rfl) (by kernel_rfl) ?_
  refine Runs.all (by kernel_rfl) ?_
  refine thenN ?_
  refine Wp.le (Le.of (s := ⟨[(1, .t (.int .i64 p1)), (4, .nil), (5, .own 524288)], [], [(524288, .live 5 1 (((([] : List Int)) ++ p0).map (eInt .u8)))]⟩) (mo := []) (mr := []) (by kernel_rfl) (by kernel_rfl) (by kernel_rfl) (by kernel_rfl)) ?_
  refine Wp.seq ?_
  refine Wp.seq ?_
  refine Wp.regionS (pOf []) (rhoOf []) (by kernel_rfl) ?_
  refine Runs.batch 1 (by kernel_rfl) ?_
  obtain ⟨r2, e_r2, h⟩ := bind_some h
  refine Runs.callK false 10 79 [] [.t (.int .i64 p1), .t (.int .i64 0), .t (.int .i64 1000000000000)] [.one (.t (.int .i64 p1)), .one (.t (.int .i64 0)), .one (.t (.int .i64 1000000000000))] (.one (.t (.bool r2))) [] rfl rfl (by kernel_rfl) (by kernel_rfl) (by kernel_rfl) (by kernel_rfl) (by kernel_rfl) (spec_l1In_ok u p1 0 1000000000000 r2 e_r2) (by kernel_rfl) ?_
  refine Runs.all (by kernel_rfl) ?_
  refine thenN ?_
  refine Wp.le (Le.of (s := ⟨[(1, .t (.int .i64 p1)), (4, .nil), (5, .own 524288), (11, .t (.bool (!r2)))], [], [(524288, .live 5 1 (((([] : List Int)) ++ p0).map (eInt .u8)))]⟩) (mo := []) (mr := []) (by kernel_rfl) (by kernel_rfl) (by kernel_rfl) (by kernel_rfl)) ?_
  refine Wp.cond2 (b := !r2) (by kernel_rfl) (fun hc => ?_) (fun hc => ?_)
  · have h := cond_t h hc
    refine Wp.seq ?_
    refine Wp.regionS (pOf []) (rhoOf []) (by kernel_rfl) ?_
    refine Runs.all (by kernel_rfl) ?_
    refine thenN ?_
    refine Wp.le (Le.of (s := ⟨[(1, .t (.int .i64 p1)), (4, .own 524288), (5, .own 524288)], [], [(524288, .live 5 1 (((([] : List Int)) ++ p0).map (eInt .u8)))]⟩) (mo := []) (mr := []) (by kernel_rfl) (by kernel_rfl) (by kernel_rfl) (by kernel_rfl)) ?_
    refine Wp.ret ?_
    refine thenR ?_
    have hr := Option.some.inj h
    subst hr
    exact RetK [.own 524288] (.one (.ow 5 1 (((([] : List Int)) ++ p0).map (eInt .u8)))) [] (by kernel_rfl) (by kernel_rfl) (.refl _) .nil
  · have h := cond_f h hc
    refine Wp.skip ?_
    refine thenN ?_
    refine Wp.seqJ (α := Int × (List Int)) (fun a => ⟨[(1, .t (.int .i64 a.1)), (4, .nil), (5, .own 327681)], [], [(327681, .live 5 1 (a.2.map (eInt .u8)))]⟩) (fun a => spec_PutVar_j1 u a.1 a.2 = some r) ?_ ?_
    · rintro ⟨x9, x10⟩ h
      change spec_PutVar_j1 u x9 x10 = some r at h
      unfold spec_PutVar_j1 at h
      refine Wp.seq ?_
      refine Wp.regionS (pOf []) (rhoOf []) (by kernel_rfl) ?_
      refine Runs.batch 4 (by kernel_rfl) ?_
      obtain ⟨_, e_11, h⟩ := bind_some h
      refine Runs.appT (y := .own 1769472) (eInt .u8) 28 1 5 1 1 327681 x10 ([IntKind.wrap .u8 x9]) rfl rfl rfl rfl (by kernel_rfl) (by kernel_rfl) (by kernel_rfl) (by kernel_rfl) (by kernel_rfl) (by kernel_rfl) (.inl rfl) (by kernel_rfl) (of_decide_eq_true (chk_some e_11)) (by kernel_rfl) (by kernel_rfl) ?_
      refine Runs.all (by kernel_rfl) ?_
      refine thenN ?_
      refine Wp.le (Le.of (s := ⟨[(4, .own 1835008)], [], [(1835008, .live 5 1 ((x10 ++ ([IntKind.wrap .u8 x9])).map (eInt .u8)))]⟩) (mo := []) (mr := []) (by kernel_rfl) (by kernel_rfl) (by kernel_rfl) (by kernel_rfl)) ?_
      refine Wp.ret ?_
      have hr := Option.some.inj h
      subst hr
      exact RetK [.own 1835008] (.one (.ow 5 1 ((x10 ++ ([IntKind.wrap .u8 x9])).map (eInt .u8)))) [] (by kernel_rfl) (by kernel_rfl) (.refl _) .nil
    · refine Wp.block ?_
      refine Wp.loopF (α := Int × (List Int)) (fun a => ⟨[(1, .t (.int .i64 a.1)), (4, .nil), (5, .own 327681)], [], [(327681, .live 5 1 (a.2.map (eInt .u8)))]⟩) (fun k_spec_PutVar_l2 a => spec_PutVar_l2 u k_spec_PutVar_l2 a.1 a.2 = some r) ?_ ?_ u (p1, (([] : List Int)) ++ p0) h (Le.of (mo := []) (mr := [(327681, 524288)]) (by kernel_rfl) (by kernel_rfl) (by kernel_rfl) (by kernel_rfl))
      · intro a h; unfold spec_PutVar_l2 at h; cases h
      · rintro k_spec_PutVar_l2 ⟨x5, x6⟩ h
        change spec_PutVar_l2 u (k_spec_PutVar_l2 + 1) x5 x6 = some r at h
        rw [spec_PutVar_l2] at h
        refine Wp.seq ?_
        refine Wp.seq ?_
        refine Wp.regionS (pOf []) (rhoOf []) (by kernel_rfl) ?_
        refine Runs.all (by kernel_rfl) ?_
        refine thenN ?_
        refine Wp.le (Le.of (s := ⟨[(1, .t (.int .i64 x5)), (4, .nil), (5, .own 327681), (13, .t (.int .i64 x5)), (14, .t (.bool (decide (x5 > 127))))], [], [(327681, .live 5 1 (x6.map (eInt .u8)))]⟩) (mo := []) (mr := []) (by kernel_rfl) (by kernel_rfl) (by kernel_rfl) (by kernel_rfl)) ?_
        refine Wp.cond2 (b := decide (x5 > 127)) (by kernel_rfl) (fun hc => ?_) (fun hc => ?_)
        · have h := cond_t h hc
          refine Wp.skip ?_
          refine thenN ?_
          refine Wp.block ?_
          refine Wp.seq ?_
          refine Wp.regionS (pOf []) (rhoOf []) (by kernel_rfl) ?_
          refine Runs.batch 6 (by kernel_rfl) ?_
          obtain ⟨_, e_9, h⟩ := bind_some h
          refine Runs.appT (y := .own 1310720) (eInt .u8) 21 1 5 1 1 327681 x6 ([IntKind.wrap .u8 (bOr .i64 (bAnd .i64 x5 127) 128)]) rfl rfl rfl rfl (by kernel_rfl) (by kernel_rfl) (by kernel_rfl) (by kernel_rfl) (by kernel_rfl) (by kernel_rfl) (.inl rfl) (by kernel_rfl) (of_decide_eq_true (chk_some e_9)) (by kernel_rfl) (by kernel_rfl) ?_
          refine Runs.all (by kernel_rfl) ?_
          refine thenN ?_
          refine Wp.le (Le.of (s := ⟨[(1, .t (.int .i64 x5)), (4, .nil), (5, .own 1376256), (13, .t (.int .i64 x5)), (14, .t (.bool (decide (x5 > 127)))), (15, .own 327681), (16, .t (.int .i64 x5)), (17, .t (.int .i64 (bAnd .i64 x5 127))), (18, .t (.int .i64 (bOr .i64 (bAnd .i64 x5 127) 128))), (19, .t (.int .u8 (IntKind.wrap .u8 (bOr .i64 (bAnd .i64 x5 127) 128)))), (20, .own 1310720), (21, .own 1376256)], [], [(327681, .gone), (1310720, .live 5 1 (([IntKind.wrap .u8 (bOr .i64 (bAnd .i64 x5 127) 128)]).map (eInt .u8))), (1376256, .live 5 1 ((x6 ++ ([IntKind.wrap .u8 (bOr .i64 (bAnd .i64 x5 127) 128)])).map (eInt .u8)))]⟩) (mo := []) (mr := []) (by kernel_rfl) (by kernel_rfl) (by kernel_rfl) (by kernel_rfl)) ?_
          refine Wp.regionS (pOf []) (rhoOf []) (by kernel_rfl) ?_
          refine Runs.all (by kernel_rfl) ?_
          refine blkN ?_
          refine thenN ?_
          exact ⟨(bShr .i64 x5 7, x6 ++ ([IntKind.wrap .u8 (bOr .i64 (bAnd .i64 x5 127) 128)])), h, Le.of (mo := []) (mr := [(327681, 1376256)]) (by kernel_rfl) (by kernel_rfl) (by kernel_rfl) (by kernel_rfl)⟩
        · have h := cond_f h hc
          refine Wp.exit ?_
          refine thenE ?_
          refine thenE ?_
          refine blkE ?_
          refine thenN ?_
          exact ⟨(x5, x6), h, Le.of (mo := []) (mr := []) (by kernel_rfl) (by kernel_rfl) (by kernel_rfl) (by kernel_rfl)⟩
theorem spec_l6PutSum_ok (u : Nat) (p0 : List Int) (p1 : Int) (r : (List Int)) (h : spec_l6PutSum u p0 p1 = some r) : CallOK Try.prog 135 [.one (.ow 5 1 (p0.map (eInt .u8))), .one (.t (.int .i64 p1))] (.one (.ow 5 1 (r.map (eInt .u8)))) [] := by
  unfold spec_l6PutSum at h
  refine CallOK.of_bodyK (fn := Try.f135) (m := true) [.own 58982400, .t (.int .i64 p1)] (by kernel_rfl) rfl (by kernel_rfl) (by kernel_rfl) (by kernel_rfl) (by kernel_rfl) (by kernel_rfl) ?_
  refine Wp.seq ?_
  refine Wp.regionS (pOf []) (rhoOf []) (by kernel_rfl) ?_
  refine Runs.all (by kernel_rfl) ?_
  refine thenN ?_
  refine Wp.le (Le.of (s := ⟨[(0, .own 58982400), (1, .t (.int .i64 p1)), (4, .nil)], [], [(58982400, .live 5 1 (p0.map (eInt .u8)))]⟩) (mo := []) (mr := []) (by kernel_rfl) (by kernel_rfl) (by kernel_rfl) (by kernel_rfl)) ?_
  refine Wp.seqJ (α := (List Int) × Int) (fun a => ⟨[(0, .own 1), (1, .t (.int .i64 a.2)), (4, .nil)], [], [(1, .live 5 1 (a.1.map (eInt .u8)))]⟩) (fun a => spec_l6PutSum_j1 u a.1 a.2 = some r) ?_ ?_
  · rintro ⟨x7, x8⟩ h
    change spec_l6PutSum_j1 u x7 x8 = some r at h
    unfold spec_l6PutSum_j1 at h
    refine Wp.seq ?_
    refine Wp.regionS (pOf []) (rhoOf []) (by kernel_rfl) ?_
    refine Runs.batch 4 (by kernel_rfl) ?_
    obtain ⟨_, e_9, h⟩ := bind_some h
    refine Runs.appT (y := .own 1245184) (eInt .u8) 20 1 5 1 1 1 x7 ([IntKind.wrap .u8 x8]) rfl rfl rfl rfl (by kernel_rfl) (by kernel_rfl) (by kernel_rfl) (by kernel_rfl) (by kernel_rfl) (by kernel_rfl) (.inl rfl) (by kernel_rfl) (of_decide_eq_true (chk_some e_9)) (by kernel_rfl) (by kernel_rfl) ?_
    refine Runs.all (by kernel_rfl) ?_
    refine thenN ?_
    refine Wp.le (Le.of (s := ⟨[(4, .own 1310720)], [], [(1310720, .live 5 1 ((x7 ++ ([IntKind.wrap .u8 x8])).map (eInt .u8)))]⟩) (mo := []) (mr := []) (by kernel_rfl) (by kernel_rfl) (by kernel_rfl) (by kernel_rfl)) ?_
    refine Wp.ret ?_
    have hr := Option.some.inj h
    subst hr
    exact RetK [.own 1310720] (.one (.ow 5 1 ((x7 ++ ([IntKind.wrap .u8 x8])).map (eInt .u8)))) [] (by kernel_rfl) (by kernel_rfl) (.refl _) .nil
  · refine Wp.block ?_
    refine Wp.loopF (α := (List Int) × Int) (fun a => ⟨[(0, .own 1), (1, .t (.int .i64 a.2)), (4, .nil)], [], [(1, .live 5 1 (a.1.map (eInt .u8)))]⟩) (fun k_spec_l6PutSum_l2 a => spec_l6PutSum_l2 u k_spec_l6PutSum_l2 a.1 a.2 = some r) ?_ ?_ u (p0, p1) h (Le.of (mo := []) (mr := [(1, 58982400)]) (by kernel_rfl) (by kernel_rfl) (by kernel_rfl) (by kernel_rfl))
    · intro a h; unfold spec_l6PutSum_l2 at h; cases h
    · rintro k_spec_l6PutSum_l2 ⟨x3, x4⟩ h
      change spec_l6PutSum_l2 u (k_spec_l6PutSum_l2 + 1) x3 x4 = some r at h
      rw [spec_l6PutSum_l2] at h
      refine Wp.seq ?_
      refine Wp.seq ?_
      refine Wp.regionS (pOf []) (rhoOf []) (by kernel_rfl) ?_
      refine Runs.all (by kernel_rfl) ?_
      refine thenN ?_
      refine Wp.le (Le.of (s := ⟨[(0, .own 1), (1, .t (.int .i64 x4)), (4, .nil), (5, .t (.int .i64 x4)), (6, .t (.bool (decide (x4 > 127))))], [], [(1, .live 5 1 (x3.map (eInt .u8)))]⟩) (mo := []) (mr := []) (by kernel_rfl) (by kernel_rfl) (by kernel_rfl) (by kernel_rfl)) ?_
      refine Wp.cond2 (b := decide (x4 > 127)) (by kernel_rfl) (fun hc => ?_) (fun hc => ?_)
      · have h := cond_t h hc
        refine Wp.skip ?_
        refine thenN ?_
        refine Wp.block ?_
        refine Wp.seq ?_
        refine Wp.regionS (pOf []) (rhoOf []) (by kernel_rfl) ?_
        refine Runs.batch 6 (by kernel_rfl) ?_
        obtain ⟨_, e_7, h⟩ := bind_some h
        refine Runs.appT (y := .own 786432) (eInt .u8) 13 1 5 1 1 1 x3 ([IntKind.wrap .u8 (bOr .i64 (bAnd .i64 x4 127) 128)]) rfl rfl rfl rfl (by kernel_rfl) (by kernel_rfl) (by kernel_rfl) (by kernel_rfl) (by kernel_rfl) (by kernel_rfl) (.inl rfl) (by kernel_rfl) (of_decide_eq_true (chk_some e_7)) (by kernel_rfl) (by kernel_rfl) ?_
        refine Runs.all (by kernel_rfl) ?_
        refine thenN ?_
        refine Wp.le (Le.of (s := ⟨[(0, .own 851968), (1, .t (.int .i64 x4)), (4, .nil), (5, .t (.int .i64 x4)), (6, .t (.bool (decide (x4 > 127)))), (7, .own 1), (8, .t (.int .i64 x4)), (9, .t (.int .i64 (bAnd .i64 x4 127))), (10, .t (.int .i64 (bOr .i64 (bAnd .i64 x4 127) 128))), (11, .t (.int .u8 (IntKind.wrap .u8 (bOr .i64 (bAnd .i64 x4 127) 128)))), (12, .own 786432), (13, .own 851968)], [], [(1, .gone), (786432, .live 5 1 (([IntKind.wrap .u8 (bOr .i64 (bAnd .i64 x4 127) 128)]).map (eInt .u8))), (851968, .live 5 1 ((x3 ++ ([IntKind.wrap .u8 (bOr .i64 (bAnd .i64 x4 127) 128)])).map (eInt .u8)))]⟩) (mo := []) (mr := []) (by kernel_rfl) (by kernel_rfl) (by kernel_rfl) (by kernel_rfl)) ?_
        refine Wp.regionS (pOf []) (rhoOf []) (by kernel_rfl) ?_
        refine Runs.all (by kernel_rfl) ?_
        refine blkN ?_
        refine thenN ?_
        exact ⟨(x3 ++ ([IntKind.wrap .u8 (bOr .i64 (bAnd .i64 x4 127) 128)]), bShr .i64 x4 7), h, Le.of (mo := []) (mr := [(1, 851968)]) (by kernel_rfl) (by kernel_rfl) (by kernel_rfl) (by kernel_rfl)⟩
      · have h := cond_f h hc
        refine Wp.exit ?_
        refine thenE ?_
        refine thenE ?_
        refine blkE ?_
        refine thenN ?_
        exact ⟨(x3, x4), h, Le.of (mo := []) (mr := []) (by kernel_rfl) (by kernel_rfl) (by kernel_rfl) (by kernel_rfl)⟩
theorem spec_PutMan_ok (u : Nat) (p0 : List Int) (p1 : Manifest) (r : (List Int)) (h : spec_PutMan u p0 p1 = some r) : CallOK Try.prog 98 [.one (.t (.sl 1 (p0.map (eInt .u8)))), .agg [.t (.int .i64 p1.fGen), .t (.int .i64 p1.fSize), .t (.int .i64 p1.fLen), .t (.sl 2 (p1.fSums.map Sum.enc))]] (.one (.ow 5 1 (r.map (eInt .u8)))) [] := by
  unfold spec_PutMan at h
  refine CallOK.of_bodyK (fn := Try.f98) (m := true) [.t (.sl 1 (p0.map (eInt .u8))), .agg [.t (.int .i64 p1.fGen), .t (.int .i64 p1.fSize), .t (.int .i64 p1.fLen), .t (.sl 2 (p1.fSums.map Sum.enc))]] (by kernel_rfl) rfl (by kernel_rfl) (by kernel_rfl) (by kernel_rfl) (by kernel_rfl) (by kernel_rfl) ?_
  refine Wp.seq ?_
  refine Wp.regionS (pOf []) (rhoOf []) (by kernel_rfl) ?_
  refine Runs.all (by kernel_rfl) ?_
  refine thenN ?_
  refine Wp.le (Le.of (s := ⟨[(0, .t (.sl 1 (p0.map (eInt .u8)))), (3, .obj 3 0), (4, .nil)], [(3, [.t (.int .i64 p1.fGen), .t (.int .i64 p1.fSize), .t (.int .i64 p1.fLen), .t (.sl 2 (p1.fSums.map Sum.enc))])], []⟩) (mo := []) (mr := []) (by kernel_rfl) (by kernel_rfl) (by kernel_rfl) (by kernel_rfl)) ?_
  refine Wp.seq ?_
  refine Wp.regionS (pOf []) (rhoOf []) (by kernel_rfl) ?_
  refine Runs.batch 2 (by kernel_rfl) ?_
  obtain ⟨_, e_1, h⟩ := bind_some h
  refine Runs.appT (y := .t (.sl 1 (p0.map (eInt .u8)))) (eInt .u8) 9 1 5 1 1 458752 (([] : List Int)) p0 rfl rfl rfl rfl (by kernel_rfl) (by kernel_rfl) (by kernel_rfl) (by kernel_rfl) (by kernel_rfl) (by kernel_rfl) (.inl rfl) (by kernel_rfl) (of_decide_eq_true (chk_some e_1)) (by kernel_rfl) (by kernel_rfl) ?_
  refine Runs.all (by kernel_rfl) ?_
  refine thenN ?_
  refine Wp.le (Le.of (s := ⟨[(3, .obj 3 0), (4, .nil), (5, .own 589824)], [(3, [.t (.int .i64 p1.fGen), .t (.int .i64 p1.fSize), .t (.int .i64 p1.fLen), .t (.sl 2 (p1.fSums.map Sum.enc))])], [(589824, .live 5 1 (((([] : List Int)) ++ p0).map (eInt .u8)))]⟩) (mo := []) (mr := []) (by kernel_rfl) (by kernel_rfl) (by kernel_rfl) (by kernel_rfl)) ?_
  refine Wp.seq ?_
  refine Wp.seq ?_
  refine Wp.regionS (pOf []) (rhoOf []) (by kernel_rfl) ?_
  refine Runs.batch 1 (by kernel_rfl) ?_
  obtain ⟨r2, e_r2, h⟩ := bind_some h
  refine Runs.callK false 11 133 [] [.agg [.t (.int .i64 p1.fGen), .t (.int .i64 p1.fSize), .t (.int .i64 p1.fLen), .t (.sl 2 (p1.fSums.map Sum.enc))]] [.agg [.t (.int .i64 p1.fGen), .t (.int .i64 p1.fSize), .t (.int .i64 p1.fLen), .t (.sl 2 (p1.fSums.map Sum.enc))]] (.one (.t (.bool r2))) [] rfl rfl (by kernel_rfl) (by kernel_rfl) (by kernel_rfl) (by kernel_rfl) (by kernel_rfl) (spec_ManOk_ok u p1 r2 e_r2) (by kernel_rfl) ?_
  refine Runs.all (by kernel_rfl) ?_
  refine thenN ?_
  refine Wp.le (Le.of (s := ⟨[(3, .obj 3 0), (4, .nil), (5, .own 589824), (12, .t (.bool (!r2)))], [(3, [.t (.int .i64 p1.fGen), .t (.int .i64 p1.fSize), .t (.int .i64 p1.fLen), .t (.sl 2 (p1.fSums.map Sum.enc))])], [(589824, .live 5 1 (((([] : List Int)) ++ p0).map (eInt .u8)))]⟩) (mo := []) (mr := []) (by kernel_rfl) (by kernel_rfl) (by kernel_rfl) (by kernel_rfl)) ?_
  refine Wp.cond2 (b := !r2) (by kernel_rfl) (fun hc => ?_) (fun hc => ?_)
  · have h := cond_t h hc
    refine Wp.seq ?_
    refine Wp.regionS (pOf []) (rhoOf []) (by kernel_rfl) ?_
    refine Runs.all (by kernel_rfl) ?_
    refine thenN ?_
    refine Wp.le (Le.of (s := ⟨[(3, .obj 3 0), (4, .own 589824), (5, .own 589824)], [(3, [.t (.int .i64 p1.fGen), .t (.int .i64 p1.fSize), .t (.int .i64 p1.fLen), .t (.sl 2 (p1.fSums.map Sum.enc))])], [(589824, .live 5 1 (((([] : List Int)) ++ p0).map (eInt .u8)))]⟩) (mo := []) (mr := []) (by kernel_rfl) (by kernel_rfl) (by kernel_rfl) (by kernel_rfl)) ?_
    refine Wp.ret ?_
    refine thenR ?_
    have hr := Option.some.inj h
    subst hr
    exact RetK [.own 589824] (.one (.ow 5 1 (((([] : List Int)) ++ p0).map (eInt .u8)))) [] (by kernel_rfl) (by kernel_rfl) (.refl _) .nil
  · have h := cond_f h hc
    refine Wp.skip ?_
    refine thenN ?_
    refine Wp.seq ?_
    refine Wp.regionA (pOf []) (rhoOf [(3, .obj 3), (5, .own 9), (14, .own 9), (15, .obj 3), (16, .frz), (17, .own 17), (18, .obj 3), (19, .frz), (20, .own 20), (21, .obj 3), (22, .frz), (23, .own 23)]) (by kernel_rfl) (by kernel_rfl) ?_
    refine Runs.batch 3 (by kernel_rfl) ?_
    obtain ⟨r3, e_r3, h⟩ := bind_some h
    refine Runs.callK false 17 134 [] [.own 589824, .t (.int .i64 p1.fGen)] [.one (.t (.sl 1 (((([] : List Int)) ++ p0).map (eInt .u8)))), .one (.t (.int .i64 p1.fGen))] (.one (.ow 5 1 (r3.map (eInt .u8)))) [] rfl rfl (by kernel_rfl) (by kernel_rfl) (by kernel_rfl) (by kernel_rfl) (by kernel_rfl) (spec_PutVar_ok u ((([] : List Int)) ++ p0) p1.fGen r3 e_r3) (by kernel_rfl) ?_
    refine Runs.batch 2 (by kernel_rfl) ?_
    obtain ⟨r4, e_r4, h⟩ := bind_some h
    refine Runs.callK false 20 134 [] [.own 1114112, .t (.int .i64 p1.fSize)] [.one (.t (.sl 1 (r3.map (eInt .u8)))), .one (.t (.int .i64 p1.fSize))] (.one (.ow 5 1 (r4.map (eInt .u8)))) [] rfl rfl (by kernel_rfl) (by kernel_rfl) (by kernel_rfl) (by kernel_rfl) (by kernel_rfl) (spec_PutVar_ok u r3 p1.fSize r4 e_r4) (by kernel_rfl) ?_
    refine Runs.batch 2 (by kernel_rfl) ?_
    obtain ⟨r5, e_r5, h⟩ := bind_some h
    refine Runs.callK false 23 134 [] [.own 1310720, .t (.int .i64 p1.fLen)] [.one (.t (.sl 1 (r4.map (eInt .u8)))), .one (.t (.int .i64 p1.fLen))] (.one (.ow 5 1 (r5.map (eInt .u8)))) [] rfl rfl (by kernel_rfl) (by kernel_rfl) (by kernel_rfl) (by kernel_rfl) (by kernel_rfl) (spec_PutVar_ok u r4 p1.fLen r5 e_r5) (by kernel_rfl) ?_
    refine Runs.all (by kernel_rfl) ?_
    refine thenN ?_
    refine Wp.le (Le.of (s := ⟨[(3, .obj 3 0), (4, .nil), (5, .own 1507328)], [(3, [.t (.int .i64 p1.fGen), .t (.int .i64 p1.fSize), .t (.int .i64 p1.fLen), .t (.sl 2 (p1.fSums.map Sum.enc))])], [(1507328, .live 5 1 (r5.map (eInt .u8)))]⟩) (mo := []) (mr := []) (by kernel_rfl) (by kernel_rfl) (by kernel_rfl) (by kernel_rfl)) ?_
    refine Wp.seqJ (α := (List Int)) (fun a => ⟨[(4, .nil), (5, .own 327681)], [], [(327681, .live 5 1 (a.map (eInt .u8)))]⟩) (fun a => spec_PutMan_j1 u a = some r) ?_ ?_
    · rintro x14 h
      change spec_PutMan_j1 u x14 = some r at h
      unfold spec_PutMan_j1 at h
      refine Wp.seq ?_
      refine Wp.regionS (pOf []) (rhoOf []) (by kernel_rfl) ?_
      refine Runs.all (by kernel_rfl) ?_
      refine thenN ?_
      refine Wp.le (Le.of (s := ⟨[(4, .own 327681)], [], [(327681, .live 5 1 (x14.map (eInt .u8)))]⟩) (mo := []) (mr := []) (by kernel_rfl) (by kernel_rfl) (by kernel_rfl) (by kernel_rfl)) ?_
      refine Wp.ret ?_
      have hr := Option.some.inj h
      subst hr
      exact RetK [.own 327681] (.one (.ow 5 1 (x14.map (eInt .u8)))) [] (by kernel_rfl) (by kernel_rfl) (.refl _) .nil
    · refine Wp.seq ?_
      refine Wp.regionS (pOf []) (rhoOf []) (by kernel_rfl) ?_
      refine Runs.all (by kernel_rfl) ?_
      refine thenN ?_
      refine Wp.le (Le.of (s := ⟨[(3, .obj 3 0), (4, .nil), (5, .own 1507328), (6, .t (.int .i64 0))], [(3, [.t (.int .i64 p1.fGen), .t (.int .i64 p1.fSize), .t (.int .i64 p1.fLen), .t (.sl 2 (p1.fSums.map Sum.enc))])], [(1507328, .live 5 1 (r5.map (eInt .u8)))]⟩) (mo := []) (mr := []) (by kernel_rfl) (by kernel_rfl) (by kernel_rfl) (by kernel_rfl)) ?_
      refine Wp.block ?_
      refine Wp.loopF (α := (List Int) × Int × Manifest) (fun a => ⟨[(3, .obj 3 0), (4, .nil), (5, .own 327681), (6, .t (.int .i64 a.2.1))], [(3, [.t (.int .i64 a.2.2.fGen), .t (.int .i64 a.2.2.fSize), .t (.int .i64 a.2.2.fLen), .t (.sl 2 (a.2.2.fSums.map Sum.enc))])], [(327681, .live 5 1 (a.1.map (eInt .u8)))]⟩) (fun k_spec_PutMan_l2 a => spec_PutMan_l2 u k_spec_PutMan_l2 a.1 a.2.1 a.2.2 = some r) ?_ ?_ u (r5, 0, p1) h (Le.of (mo := []) (mr := [(327681, 1507328)]) (by kernel_rfl) (by kernel_rfl) (by kernel_rfl) (by kernel_rfl))
      · intro a h; unfold spec_PutMan_l2 at h; cases h
      · rintro k_spec_PutMan_l2 ⟨x8, x9, p1⟩ h
        change spec_PutMan_l2 u (k_spec_PutMan_l2 + 1) x8 x9 p1 = some r at h
        rw [spec_PutMan_l2] at h
        refine Wp.seq ?_
        refine Wp.seq ?_
        refine Wp.regionS (pOf []) (rhoOf []) (by kernel_rfl) ?_
        refine Runs.batch 3 (by kernel_rfl) ?_
        refine Runs.lenT (y := .t (.sl 2 (p1.fSums.map Sum.enc))) (e := 166) Sum.enc p1.fSums 2 rfl rfl rfl (by kernel_rfl) (by kernel_rfl) (by kernel_rfl) (by kernel_rfl) (by kernel_rfl) ?_
        refine Runs.all (by kernel_rfl) ?_
        refine thenN ?_
        refine Wp.le (Le.of (s := ⟨[(3, .obj 3 0), (4, .nil), (5, .own 327681), (6, .t (.int .i64 x9)), (24, .t (.int .i64 x9)), (25, .obj 3 3), (26, .t (.sl 2 (p1.fSums.map Sum.enc))), (27, .t (.int .i64 ((p1.fSums.length : Int)))), (28, .t (.bool (decide (x9 < ((p1.fSums.length : Int))))))], [(3, [.t (.int .i64 p1.fGen), .t (.int .i64 p1.fSize), .t (.int .i64 p1.fLen), .t (.sl 2 (p1.fSums.map Sum.enc))])], [(327681, .live 5 1 (x8.map (eInt .u8)))]⟩) (mo := []) (mr := []) (by kernel_rfl) (by kernel_rfl) (by kernel_rfl) (by kernel_rfl)) ?_
        refine Wp.cond2 (b := decide (x9 < ((p1.fSums.length : Int)))) (by kernel_rfl) (fun hc => ?_) (fun hc => ?_)
        · have h := cond_t h hc
          refine Wp.skip ?_
          refine thenN ?_
          refine Wp.seq ?_
          refine Wp.block ?_
          refine Wp.regionS (pOf []) (rhoOf []) (by kernel_rfl) ?_
          refine Runs.batch 4 (by kernel_rfl) ?_
          obtain ⟨y12, e_y12, h⟩ := bind_some h
          refine Runs.idxT (e := 166) (kk := .i64) (sz := 2) Sum.enc p1.fSums x9 rfl (by kernel_rfl) (by kernel_rfl) (by kernel_rfl) (by kernel_rfl) (by kernel_rfl) (by kernel_rfl) e_y12 ?_
          refine Runs.batch 2 (by kernel_rfl) ?_
          obtain ⟨r13, e_r13, h⟩ := bind_some h
          refine Runs.callK true 38 135 [] [.own 327681, .t (.int .i64 y12.fS)] [.one (.ow 5 1 (x8.map (eInt .u8))), .one (.t (.int .i64 y12.fS))] (.one (.ow 5 1 (r13.map (eInt .u8)))) [] rfl rfl (by kernel_rfl) (by kernel_rfl) (by kernel_rfl) (by kernel_rfl) (by kernel_rfl) (spec_l6PutSum_ok u x8 y12.fS r13 e_r13) (by kernel_rfl) ?_
          refine Runs.all (by kernel_rfl) ?_
          refine blkN ?_
          refine thenN ?_
          refine Wp.regionS (pOf []) (rhoOf []) (by kernel_rfl) ?_
          refine Runs.all (by kernel_rfl) ?_
          refine thenN ?_
          exact ⟨(r13, bAdd .i64 x9 1, p1), h, Le.of (mo := []) (mr := [(327681, 2490368)]) (by kernel_rfl) (by kernel_rfl) (by kernel_rfl) (by kernel_rfl)⟩
        · have h := cond_f h hc
          refine Wp.exit ?_
          refine thenE ?_
          refine thenE ?_
          refine blkE ?_
          refine thenN ?_
          exact ⟨x8, h, Le.of (mo := []) (mr := []) (by kernel_rfl) (by kernel_rfl) (by kernel_rfl) (by kernel_rfl)⟩
theorem spec_ManBytes_ok (u : Nat) (p0 : Manifest) (r : Int) (h : spec_ManBytes u p0 = some r) : CallOK Try.prog 45 [.agg [.t (.int .i64 p0.fGen), .t (.int .i64 p0.fSize), .t (.int .i64 p0.fLen), .t (.sl 2 (p0.fSums.map Sum.enc))]] (.one (.t (.int .i64 r))) [] := by
  unfold spec_ManBytes at h
  refine CallOK.of_bodyK (fn := Try.f45) (m := false) [.agg [.t (.int .i64 p0.fGen), .t (.int .i64 p0.fSize), .t (.int .i64 p0.fLen), .t (.sl 2 (p0.fSums.map Sum.enc))]] (by kernel_rfl) rfl (by kernel_rfl) (by kernel_rfl) (by kernel_rfl) (by kernel_rfl) (by kernel_rfl) ?_
  refine Wp.seq ?_
  refine Wp.regionS (pOf []) (rhoOf []) (by kernel_rfl) ?_
  refine Runs.all (by kernel_rfl) ?_
  refine thenN ?_
  refine Wp.le (Le.of (s := ⟨[(1, .obj 1 0), (2, .t (.int .i64 0))], [(1, [.t (.int .i64 p0.fGen), .t (.int .i64 p0.fSize), .t (.int .i64 p0.fLen), .t (.sl 2 (p0.fSums.map Sum.enc))])], []⟩) (mo := []) (mr := []) (by kernel_rfl) (by kernel_rfl) (by kernel_rfl) (by kernel_rfl)) ?_
  refine Wp.seq ?_
  refine Wp.regionS (pOf []) (rhoOf []) (by kernel_rfl) ?_
  refine Runs.batch 2 (by kernel_rfl) ?_
  obtain ⟨r1, e_r1, h⟩ := bind_some h
  refine Runs.callK false 5 98 [] [.own 196608, .agg [.t (.int .i64 p0.fGen), .t (.int .i64 p0.fSize), .t (.int .i64 p0.fLen), .t (.sl 2 (p0.fSums.map Sum.enc))]] [.one (.t (.sl 1 ((([] : List Int)).map (eInt .u8)))), .agg [.t (.int .i64 p0.fGen), .t (.int .i64 p0.fSize), .t (.int .i64 p0.fLen), .t (.sl 2 (p0.fSums.map Sum.enc))]] (.one (.ow 5 1 (r1.map (eInt .u8)))) [] rfl rfl (by kernel_rfl) (by kernel_rfl) (by kernel_rfl) (by kernel_rfl) (by kernel_rfl) (spec_PutMan_ok u (([] : List Int)) p0 r1 e_r1) (by kernel_rfl) ?_
  refine Runs.lenT (y := .own 327680) (e := 5) (eInt .u8) r1 1 rfl rfl rfl (by kernel_rfl) (by kernel_rfl) (by kernel_rfl) (by kernel_rfl) (by kernel_rfl) ?_
  refine Runs.all (by kernel_rfl) ?_
  refine thenN ?_
  refine Wp.le (Le.of (s := ⟨[(2, .t (.int .i64 ((r1.length : Int))))], [], []⟩) (mo := []) (mr := []) (by kernel_rfl) (by kernel_rfl) (by kernel_rfl) (by kernel_rfl)) ?_
  refine Wp.ret ?_
  have hr := Option.some.inj h
  subst hr
  exact RetK [.t (.int .i64 ((r1.length : Int)))] (.one (.t (.int .i64 ((r1.length : Int))))) [] (by kernel_rfl) (by kernel_rfl) (.refl _) .nil
theorem spec_FullSet_ok (u : Nat) (p0 : Int) (r : Int) (h : spec_FullSet u p0 = some r) : CallOK Try.prog 138 [.one (.t (.int .i64 p0))] (.one (.t (.int .i64 r))) [] := by
  unfold spec_FullSet at h
  refine CallOK.of_bodyK (fn := Try.f138) (m := false) [.t (.int .i64 p0)] (by kernel_rfl) rfl (by kernel_rfl) (by kernel_rfl) (by kernel_rfl) (by kernel_rfl) (by kernel_rfl) ?_
  refine Wp.seq ?_
  refine Wp.regionS (pOf []) (rhoOf []) (by kernel_rfl) ?_
  refine Runs.all (by kernel_rfl) ?_
  refine thenN ?_
  refine Wp.le (Le.of (s := ⟨[(0, .t (.int .i64 p0)), (2, .t (.int .i64 0))], [], []⟩) (mo := []) (mr := []) (by kernel_rfl) (by kernel_rfl) (by kernel_rfl) (by kernel_rfl)) ?_
  refine Wp.seq ?_
  refine Wp.seq ?_
  refine Wp.regionS (pOf []) (rhoOf []) (by kernel_rfl) ?_
  refine Runs.batch 1 (by kernel_rfl) ?_
  obtain ⟨r1, e_r1, h⟩ := bind_some h
  refine Runs.callK false 4 79 [] [.t (.int .i64 p0), .t (.int .i64 0), .t (.int .i64 40)] [.one (.t (.int .i64 p0)), .one (.t (.int .i64 0)), .one (.t (.int .i64 40))] (.one (.t (.bool r1))) [] rfl rfl (by kernel_rfl) (by kernel_rfl) (by kernel_rfl) (by kernel_rfl) (by kernel_rfl) (spec_l1In_ok u p0 0 40 r1 e_r1) (by kernel_rfl) ?_
  refine Runs.all (by kernel_rfl) ?_
  refine thenN ?_
  refine Wp.le (Le.of (s := ⟨[(0, .t (.int .i64 p0)), (2, .t (.int .i64 0)), (5, .t (.bool (!r1)))], [], []⟩) (mo := []) (mr := []) (by kernel_rfl) (by kernel_rfl) (by kernel_rfl) (by kernel_rfl)) ?_
  refine Wp.cond2 (b := !r1) (by kernel_rfl) (fun hc => ?_) (fun hc => ?_)
  · have h := cond_t h hc
    refine Wp.seq ?_
    refine Wp.regionS (pOf []) (rhoOf []) (by kernel_rfl) ?_
    refine Runs.all (by kernel_rfl) ?_
    refine thenN ?_
    refine Wp.le (Le.of (s := ⟨[(0, .t (.int .i64 p0)), (2, .t (.int .i64 0))], [], []⟩) (mo := []) (mr := []) (by kernel_rfl) (by kernel_rfl) (by kernel_rfl) (by kernel_rfl)) ?_
    refine Wp.ret ?_
    refine thenR ?_
    have hr := Option.some.inj h
    subst hr
    exact RetK [.t (.int .i64 0)] (.one (.t (.int .i64 0))) [] (by kernel_rfl) (by kernel_rfl) (.refl _) .nil
  · have h := cond_f h hc
    refine Wp.skip ?_
    refine thenN ?_
    refine Wp.seq ?_
    refine Wp.regionS (pOf []) (rhoOf []) (by kernel_rfl) ?_
    refine Runs.batch 1 (by kernel_rfl) ?_
    obtain ⟨_, e_2, h⟩ := bind_some h
    refine Runs.num .shl (.int .i64 1) (.int .i64 p0) (.int .i64 (bShl .i64 1 p0)) rfl (by kernel_rfl) (by kernel_rfl) (by kernel_rfl) (by kernel_rfl) (bin_shl _ _ _ _ _ (chk_some e_2)) ?_
    refine Runs.all (by kernel_rfl) ?_
    refine thenN ?_
    refine Wp.le (Le.of (s := ⟨[(2, .t (.int .i64 (bSub .i64 (bShl .i64 1 p0) 1)))], [], []⟩) (mo := []) (mr := []) (by kernel_rfl) (by kernel_rfl) (by kernel_rfl) (by kernel_rfl)) ?_
    refine Wp.ret ?_
    have hr := Option.some.inj h
    subst hr
    exact RetK [.t (.int .i64 (bSub .i64 (bShl .i64 1 p0) 1))] (.one (.t (.int .i64 (bSub .i64 (bShl .i64 1 p0) 1)))) [] (by kernel_rfl) (by kernel_rfl) (.refl _) .nil
theorem spec_l3Ok_ok (u : Nat) (p0 : Int) (r : Bool) (h : spec_l3Ok u p0 = some r) : CallOK Try.prog 206 [.one (.t (.int .i64 p0))] (.one (.t (.bool r))) [] := by
  unfold spec_l3Ok at h
  refine CallOK.of_bodyK (fn := Try.f206) (m := false) [.t (.int .i64 p0)] (by kernel_rfl) rfl (by kernel_rfl) (by kernel_rfl) (by kernel_rfl) (by kernel_rfl) (by kernel_rfl) ?_
  refine Wp.seq ?_
  refine Wp.regionS (pOf []) (rhoOf []) (by kernel_rfl) ?_
  refine Runs.all (by kernel_rfl) ?_
  refine thenN ?_
  refine Wp.le (Le.of (s := ⟨[(0, .t (.int .i64 p0)), (2, .t (.bool false))], [], []⟩) (mo := []) (mr := []) (by kernel_rfl) (by kernel_rfl) (by kernel_rfl) (by kernel_rfl)) ?_
  refine Wp.seq ?_
  refine Wp.regionS (pOf []) (rhoOf []) (by kernel_rfl) ?_
  refine Runs.batch 1 (by kernel_rfl) ?_
  obtain ⟨r1, e_r1, h⟩ := bind_some h
  refine Runs.callK false 4 79 [] [.t (.int .i64 p0), .t (.int .i64 0), .t (.int .i64 63000)] [.one (.t (.int .i64 p0)), .one (.t (.int .i64 0)), .one (.t (.int .i64 63000))] (.one (.t (.bool r1))) [] rfl rfl (by kernel_rfl) (by kernel_rfl) (by kernel_rfl) (by kernel_rfl) (by kernel_rfl) (spec_l1In_ok u p0 0 63000 r1 e_r1) (by kernel_rfl) ?_
  refine Runs.all (by kernel_rfl) ?_
  refine thenN ?_
  refine Wp.le (Le.of (s := ⟨[(2, .t (.bool r1))], [], []⟩) (mo := []) (mr := []) (by kernel_rfl) (by kernel_rfl) (by kernel_rfl) (by kernel_rfl)) ?_
  refine Wp.ret ?_
  have hr := Option.some.inj h
  subst hr
  exact RetK [.t (.bool r1)] (.one (.t (.bool r1))) [] (by kernel_rfl) (by kernel_rfl) (.refl _) .nil
theorem spec_WeakHalves_ok (u : Nat) (p0 : Int) (r : Int × Int) (h : spec_WeakHalves u p0 = some r) : CallOK Try.prog 207 [.one (.t (.int .i64 p0))] (.tup [.one (.t (.int .i64 r.1)), .one (.t (.int .i64 r.2))]) [] := by
  unfold spec_WeakHalves at h
  refine CallOK.of_bodyK (fn := Try.f207) (m := false) [.t (.int .i64 p0)] (by kernel_rfl) rfl (by kernel_rfl) (by kernel_rfl) (by kernel_rfl) (by kernel_rfl) (by kernel_rfl) ?_
  refine Wp.seq ?_
  refine Wp.regionS (pOf []) (rhoOf []) (by kernel_rfl) ?_
  refine Runs.all (by kernel_rfl) ?_
  refine thenN ?_
  refine Wp.le (Le.of (s := ⟨[(0, .t (.int .i64 p0)), (2, .t (.int .i64 0)), (3, .t (.int .i64 0))], [], []⟩) (mo := []) (mr := []) (by kernel_rfl) (by kernel_rfl) (by kernel_rfl) (by kernel_rfl)) ?_
  refine Wp.seq ?_
  refine Wp.seq ?_
  refine Wp.regionS (pOf []) (rhoOf []) (by kernel_rfl) ?_
  refine Runs.batch 1 (by kernel_rfl) ?_
  obtain ⟨r1, e_r1, h⟩ := bind_some h
  refine Runs.callK false 5 206 [] [.t (.int .i64 p0)] [.one (.t (.int .i64 p0))] (.one (.t (.bool r1))) [] rfl rfl (by kernel_rfl) (by kernel_rfl) (by kernel_rfl) (by kernel_rfl) (by kernel_rfl) (spec_l3Ok_ok u p0 r1 e_r1) (by kernel_rfl) ?_
  refine Runs.all (by kernel_rfl) ?_
  refine thenN ?_
  refine Wp.le (Le.of (s := ⟨[(0, .t (.int .i64 p0)), (2, .t (.int .i64 0)), (3, .t (.int .i64 0)), (6, .t (.bool (!r1)))], [], []⟩) (mo := []) (mr := []) (by kernel_rfl) (by kernel_rfl) (by kernel_rfl) (by kernel_rfl)) ?_
  refine Wp.cond2 (b := !r1) (by kernel_rfl) (fun hc => ?_) (fun hc => ?_)
  · have h := cond_t h hc
    refine Wp.seq ?_
    refine Wp.regionS (pOf []) (rhoOf []) (by kernel_rfl) ?_
    refine Runs.all (by kernel_rfl) ?_
    refine thenN ?_
    refine Wp.le (Le.of (s := ⟨[(0, .t (.int .i64 p0)), (2, .t (.int .i64 0)), (3, .t (.int .i64 0))], [], []⟩) (mo := []) (mr := []) (by kernel_rfl) (by kernel_rfl) (by kernel_rfl) (by kernel_rfl)) ?_
    refine Wp.ret ?_
    refine thenR ?_
    have hr := Option.some.inj h
    subst hr
    exact RetK [.t (.int .i64 0), .t (.int .i64 0)] (.tup [.one (.t (.int .i64 0)), .one (.t (.int .i64 0))]) [] (by kernel_rfl) (by kernel_rfl) (.refl _) .nil
  · have h := cond_f h hc
    refine Wp.skip ?_
    refine thenN ?_
    refine Wp.seq ?_
    refine Wp.regionS (pOf []) (rhoOf []) (by kernel_rfl) ?_
    refine Runs.all (by kernel_rfl) ?_
    refine thenN ?_
    refine Wp.le (Le.of (s := ⟨[(2, .t (.int .i64 (bRem .i64 p0 251))), (3, .t (.int .i64 (bQuo .i64 p0 251)))], [], []⟩) (mo := []) (mr := []) (by kernel_rfl) (by kernel_rfl) (by kernel_rfl) (by kernel_rfl)) ?_
    refine Wp.ret ?_
    have hr := Option.some.inj h
    subst hr
    exact RetK [.t (.int .i64 (bRem .i64 p0 251)), .t (.int .i64 (bQuo .i64 p0 251))] (.tup [.one (.t (.int .i64 (bRem .i64 p0 251))), .one (.t (.int .i64 (bQuo .i64 p0 251)))]) [] (by kernel_rfl) (by kernel_rfl) (.refl _) .nil
theorem spec_Wrap_ok (u : Nat) (p0 : Int) (p1 : Int) (r : Int) (h : spec_Wrap u p0 p1 = some r) : CallOK Try.prog 208 [.one (.t (.int .i64 p0)), .one (.t (.int .i64 p1))] (.one (.t (.int .i64 r))) [] := by
  unfold spec_Wrap at h
  refine CallOK.of_bodyK (fn := Try.f208) (m := false) [.t (.int .i64 p0), .t (.int .i64 p1)] (by kernel_rfl) rfl (by kernel_rfl) (by kernel_rfl) (by kernel_rfl) (by kernel_rfl) (by kernel_rfl) ?_
  refine Wp.seq ?_
  refine Wp.regionS (pOf []) (rhoOf []) (by kernel_rfl) ?_
  refine Runs.all (by kernel_rfl) ?_
  refine thenN ?_
  refine Wp.le (Le.of (s := ⟨[(0, .t (.int .i64 p0)), (1, .t (.int .i64 p1)), (4, .t (.int .i64 0))], [], []⟩) (mo := []) (mr := []) (by kernel_rfl) (by kernel_rfl) (by kernel_rfl) (by kernel_rfl)) ?_
  refine Wp.seq ?_
  refine Wp.seq ?_
  refine Wp.regionS (pOf []) (rhoOf []) (by kernel_rfl) ?_
  refine Runs.batch 1 (by kernel_rfl) ?_
  obtain ⟨r1, e_r1, h⟩ := bind_some h
  refine Runs.callK false 6 79 [] [.t (.int .i64 p1), .t (.int .i64 1), .t (.int .i64 1000000000000)] [.one (.t (.int .i64 p1)), .one (.t (.int .i64 1)), .one (.t (.int .i64 1000000000000))] (.one (.t (.bool r1))) [] rfl rfl (by kernel_rfl) (by kernel_rfl) (by kernel_rfl) (by kernel_rfl) (by kernel_rfl) (spec_l1In_ok u p1 1 1000000000000 r1 e_r1) (by kernel_rfl) ?_
  refine Runs.all (by kernel_rfl) ?_
  refine thenN ?_
  refine Wp.le (Le.of (s := ⟨[(0, .t (.int .i64 p0)), (1, .t (.int .i64 p1)), (4, .t (.int .i64 0)), (7, .t (.bool (!r1)))], [], []⟩) (mo := []) (mr := []) (by kernel_rfl) (by kernel_rfl) (by kernel_rfl) (by kernel_rfl)) ?_
  refine Wp.cond2 (b := !r1) (by kernel_rfl) (fun hc => ?_) (fun hc => ?_)
  · have h := cond_t h hc
    refine Wp.seq ?_
    refine Wp.regionS (pOf []) (rhoOf []) (by kernel_rfl) ?_
    refine Runs.all (by kernel_rfl) ?_
    refine thenN ?_
    refine Wp.le (Le.of (s := ⟨[(0, .t (.int .i64 p0)), (1, .t (.int .i64 p1)), (4, .t (.int .i64 0))], [], []⟩) (mo := []) (mr := []) (by kernel_rfl) (by kernel_rfl) (by kernel_rfl) (by kernel_rfl)) ?_
    refine Wp.ret ?_
    refine thenR ?_
    have hr := Option.some.inj h
    subst hr
    exact RetK [.t (.int .i64 0)] (.one (.t (.int .i64 0))) [] (by kernel_rfl) (by kernel_rfl) (.refl _) .nil
  · have h := cond_f h hc
    refine Wp.skip ?_
    refine thenN ?_
    refine Wp.seq ?_
    refine Wp.regionS (pOf []) (rhoOf []) (by kernel_rfl) ?_
    refine Runs.batch 2 (by kernel_rfl) ?_
    obtain ⟨_, e_2, h⟩ := bind_some h
    refine Runs.num .rem (.int .i64 p0) (.int .i64 p1) (.int .i64 (bRem .i64 p0 p1)) rfl (by kernel_rfl) (by kernel_rfl) (by kernel_rfl) (by kernel_rfl) (bin_rem _ _ _ _ (by simpa using chk_some e_2)) ?_
    refine Runs.batch 3 (by kernel_rfl) ?_
    obtain ⟨_, e_3, h⟩ := bind_some h
    refine Runs.num .rem (.int .i64 (bAdd .i64 (bRem .i64 p0 p1) p1)) (.int .i64 p1) (.int .i64 (bRem .i64 (bAdd .i64 (bRem .i64 p0 p1) p1) p1)) rfl (by kernel_rfl) (by kernel_rfl) (by kernel_rfl) (by kernel_rfl) (bin_rem _ _ _ _ (by simpa using chk_some e_3)) ?_
    refine Runs.all (by kernel_rfl) ?_
    refine thenN ?_
    refine Wp.le (Le.of (s := ⟨[(4, .t (.int .i64 (bRem .i64 (bAdd .i64 (bRem .i64 p0 p1) p1) p1)))], [], []⟩) (mo := []) (mr := []) (by kernel_rfl) (by kernel_rfl) (by kernel_rfl) (by kernel_rfl)) ?_
    refine Wp.ret ?_
    have hr := Option.some.inj h
    subst hr
    exact RetK [.t (.int .i64 (bRem .i64 (bAdd .i64 (bRem .i64 p0 p1) p1) p1))] (.one (.t (.int .i64 (bRem .i64 (bAdd .i64 (bRem .i64 p0 p1) p1) p1)))) [] (by kernel_rfl) (by kernel_rfl) (.refl _) .nil
theorem spec_Roll_ok (u : Nat) (p0 : Int) (p1 : Int) (p2 : Int) (p3 : Int) (r : Int) (h : spec_Roll u p0 p1 p2 p3 = some r) : CallOK Try.prog 205 [.one (.t (.int .i64 p0)), .one (.t (.int .i64 p1)), .one (.t (.int .i64 p2)), .one (.t (.int .i64 p3))] (.one (.t (.int .i64 r))) [] := by
  unfold spec_Roll at h
  refine CallOK.of_bodyK (fn := Try.f205) (m := false) [.t (.int .i64 p0), .t (.int .i64 p1), .t (.int .i64 p2), .t (.int .i64 p3)] (by kernel_rfl) rfl (by kernel_rfl) (by kernel_rfl) (by kernel_rfl) (by kernel_rfl) (by kernel_rfl) ?_
  refine Wp.seq ?_
  refine Wp.regionS (pOf []) (rhoOf []) (by kernel_rfl) ?_
  refine Runs.all (by kernel_rfl) ?_
  refine thenN ?_
  refine Wp.le (Le.of (s := ⟨[(0, .t (.int .i64 p0)), (1, .t (.int .i64 p1)), (2, .t (.int .i64 p2)), (3, .t (.int .i64 p3)), (8, .t (.int .i64 0))], [], []⟩) (mo := []) (mr := []) (by kernel_rfl) (by kernel_rfl) (by kernel_rfl) (by kernel_rfl)) ?_
  refine Wp.seq ?_
  refine Wp.seqJ (α := Int × Int × Int × Int × Bool) (fun a => ⟨[(0, .t (.int .i64 a.1)), (1, .t (.int .i64 a.2.1)), (2, .t (.int .i64 a.2.2.1)), (3, .t (.int .i64 a.2.2.2.1)), (8, .t (.int .i64 0)), (28, .t (.bool a.2.2.2.2))], [], []⟩) (fun a => spec_Roll_j1 u a.1 a.2.1 a.2.2.1 a.2.2.2.1 a.2.2.2.2 = some r) ?_ ?_
  · rintro ⟨p0, p1, p2, p3, x5⟩ h
    change spec_Roll_j1 u p0 p1 p2 p3 x5 = some r at h
    unfold spec_Roll_j1 at h
    refine Wp.cond2 (b := x5) (by kernel_rfl) (fun hc => ?_) (fun hc => ?_)
    · have h := cond_t h hc
      refine Wp.seq ?_
      refine Wp.regionS (pOf []) (rhoOf []) (by kernel_rfl) ?_
      refine Runs.all (by kernel_rfl) ?_
      refine thenN ?_
      refine Wp.le (Le.of (s := ⟨[(0, .t (.int .i64 p0)), (1, .t (.int .i64 p1)), (2, .t (.int .i64 p2)), (3, .t (.int .i64 p3)), (8, .t (.int .i64 p0))], [], []⟩) (mo := []) (mr := []) (by kernel_rfl) (by kernel_rfl) (by kernel_rfl) (by kernel_rfl)) ?_
      refine Wp.ret ?_
      refine thenR ?_
      have hr := Option.some.inj h
      subst hr
      exact RetK [.t (.int .i64 p0)] (.one (.t (.int .i64 p0))) [] (by kernel_rfl) (by kernel_rfl) (.refl _) .nil
    · have h := cond_f h hc
      refine Wp.skip ?_
      refine thenN ?_
      refine Wp.seq ?_
      refine Wp.regionS (pOf []) (rhoOf []) (by kernel_rfl) ?_
      refine Runs.batch 1 (by kernel_rfl) ?_
      obtain ⟨r6, e_r6, h⟩ := bind_some h
      refine Runs.callK false 32 207 [] [.t (.int .i64 p0)] [.one (.t (.int .i64 p0))] (.tup [.one (.t (.int .i64 r6.1)), .one (.t (.int .i64 r6.2))]) [] rfl rfl (by kernel_rfl) (by kernel_rfl) (by kernel_rfl) (by kernel_rfl) (by kernel_rfl) (spec_WeakHalves_ok u p0 r6 e_r6) (by kernel_rfl) ?_
      refine Runs.all (by kernel_rfl) ?_
      refine thenN ?_
      refine Wp.le (Le.of (s := ⟨[(1, .t (.int .i64 p1)), (2, .t (.int .i64 p2)), (3, .t (.int .i64 p3)), (8, .t (.int .i64 0)), (9, .t (.int .i64 r6.1)), (10, .t (.int .i64 r6.2))], [], []⟩) (mo := []) (mr := []) (by kernel_rfl) (by kernel_rfl) (by kernel_rfl) (by kernel_rfl)) ?_
      refine Wp.seq ?_
      refine Wp.regionS (pOf []) (rhoOf []) (by kernel_rfl) ?_
      refine Runs.batch 6 (by kernel_rfl) ?_
      obtain ⟨r7, e_r7, h⟩ := bind_some h
      refine Runs.callK false 41 208 [] [.t (.int .i64 (bSub .i64 r6.2 (bMul .i64 (bRem .i64 p1 251) p2))), .t (.int .i64 251)] [.one (.t (.int .i64 (bSub .i64 r6.2 (bMul .i64 (bRem .i64 p1 251) p2)))), .one (.t (.int .i64 251))] (.one (.t (.int .i64 r7))) [] rfl rfl (by kernel_rfl) (by kernel_rfl) (by kernel_rfl) (by kernel_rfl) (by kernel_rfl) (spec_Wrap_ok u (bSub .i64 r6.2 (bMul .i64 (bRem .i64 p1 251) p2)) 251 r7 e_r7) (by kernel_rfl) ?_
      refine Runs.all (by kernel_rfl) ?_
      refine thenN ?_
      refine Wp.le (Le.of (s := ⟨[(2, .t (.int .i64 p2)), (3, .t (.int .i64 p3)), (8, .t (.int .i64 0)), (9, .t (.int .i64 r6.1)), (10, .t (.int .i64 r7))], [], []⟩) (mo := []) (mr := []) (by kernel_rfl) (by kernel_rfl) (by kernel_rfl) (by kernel_rfl)) ?_
      refine Wp.seq ?_
      refine Wp.regionS (pOf []) (rhoOf []) (by kernel_rfl) ?_
      refine Runs.batch 5 (by kernel_rfl) ?_
      obtain ⟨r8, e_r8, h⟩ := bind_some h
      refine Runs.callK false 47 208 [] [.t (.int .i64 (bAdd .i64 (bSub .i64 r6.1 p2) p3)), .t (.int .i64 251)] [.one (.t (.int .i64 (bAdd .i64 (bSub .i64 r6.1 p2) p3))), .one (.t (.int .i64 251))] (.one (.t (.int .i64 r8))) [] rfl rfl (by kernel_rfl) (by kernel_rfl) (by kernel_rfl) (by kernel_rfl) (by kernel_rfl) (spec_Wrap_ok u (bAdd .i64 (bSub .i64 r6.1 p2) p3) 251 r8 e_r8) (by kernel_rfl) ?_
      refine Runs.all (by kernel_rfl) ?_
      refine thenN ?_
      refine Wp.le (Le.of (s := ⟨[(8, .t (.int .i64 0)), (9, .t (.int .i64 r8)), (10, .t (.int .i64 r7))], [], []⟩) (mo := []) (mr := []) (by kernel_rfl) (by kernel_rfl) (by kernel_rfl) (by kernel_rfl)) ?_
      refine Wp.seq ?_
      refine Wp.regionS (pOf []) (rhoOf []) (by kernel_rfl) ?_
      refine Runs.batch 4 (by kernel_rfl) ?_
      obtain ⟨r9, e_r9, h⟩ := bind_some h
      refine Runs.callK false 52 208 [] [.t (.int .i64 (bAdd .i64 r7 r8)), .t (.int .i64 251)] [.one (.t (.int .i64 (bAdd .i64 r7 r8))), .one (.t (.int .i64 251))] (.one (.t (.int .i64 r9))) [] rfl rfl (by kernel_rfl) (by kernel_rfl) (by kernel_rfl) (by kernel_rfl) (by kernel_rfl) (spec_Wrap_ok u (bAdd .i64 r7 r8) 251 r9 e_r9) (by kernel_rfl) ?_
      refine Runs.all (by kernel_rfl) ?_
      refine thenN ?_
      refine Wp.le (Le.of (s := ⟨[(8, .t (.int .i64 (bAdd .i64 r8 (bMul .i64 251 r9))))], [], []⟩) (mo := []) (mr := []) (by kernel_rfl) (by kernel_rfl) (by kernel_rfl) (by kernel_rfl)) ?_
      refine Wp.ret ?_
      have hr := Option.some.inj h
      subst hr
      exact RetK [.t (.int .i64 (bAdd .i64 r8 (bMul .i64 251 r9)))] (.one (.t (.int .i64 (bAdd .i64 r8 (bMul .i64 251 r9))))) [] (by kernel_rfl) (by kernel_rfl) (.refl _) .nil
  · refine Wp.regionS (pOf []) (rhoOf []) (by kernel_rfl) ?_
    refine Runs.batch 1 (by kernel_rfl) ?_
    obtain ⟨r1, e_r1, h⟩ := bind_some h
    refine Runs.callK false 12 206 [] [.t (.int .i64 p0)] [.one (.t (.int .i64 p0))] (.one (.t (.bool r1))) [] rfl rfl (by kernel_rfl) (by kernel_rfl) (by kernel_rfl) (by kernel_rfl) (by kernel_rfl) (spec_l3Ok_ok u p0 r1 e_r1) (by kernel_rfl) ?_
    refine Runs.batch 2 (by kernel_rfl) ?_
    rcases tf (!r1) with hc | hc
    · have h := cond_t h hc
      refine Runs.known 14 (v := true) (by kernel_rfl) hc ?_
      refine Runs.all (by kernel_rfl) ?_
      refine thenN ?_
      exact ⟨(p0, p1, p2, p3, true), h, Le.of (mo := []) (mr := []) (by kernel_rfl) (by kernel_rfl) (by kernel_rfl) (by kernel_rfl)⟩
    · have h := cond_f h hc
      refine Runs.known 14 (v := false) (by kernel_rfl) hc ?_
      refine Runs.batch 1 (by kernel_rfl) ?_
      obtain ⟨r2, e_r2, h⟩ := bind_some h
      refine Runs.callK false 16 79 [] [.t (.int .i64 p1), .t (.int .i64 1), .t (.int .i64 1000000000000)] [.one (.t (.int .i64 p1)), .one (.t (.int .i64 1)), .one (.t (.int .i64 1000000000000))] (.one (.t (.bool r2))) [] rfl rfl (by kernel_rfl) (by kernel_rfl) (by kernel_rfl) (by kernel_rfl) (by kernel_rfl) (spec_l1In_ok u p1 1 1000000000000 r2 e_r2) (by kernel_rfl) ?_
      refine Runs.batch 3 (by kernel_rfl) ?_
      rcases tf (!r2) with hc | hc
      · have h := cond_t h hc
        refine Runs.known 19 (v := true) (by kernel_rfl) hc ?_
        refine Runs.all (by kernel_rfl) ?_
        refine thenN ?_
        exact ⟨(p0, p1, p2, p3, true), h, Le.of (mo := []) (mr := []) (by kernel_rfl) (by kernel_rfl) (by kernel_rfl) (by kernel_rfl)⟩
      · have h := cond_f h hc
        refine Runs.known 19 (v := false) (by kernel_rfl) hc ?_
        refine Runs.batch 1 (by kernel_rfl) ?_
        obtain ⟨r3, e_r3, h⟩ := bind_some h
        refine Runs.callK false 21 79 [] [.t (.int .i64 p2), .t (.int .i64 0), .t (.int .i64 255)] [.one (.t (.int .i64 p2)), .one (.t (.int .i64 0)), .one (.t (.int .i64 255))] (.one (.t (.bool r3))) [] rfl rfl (by kernel_rfl) (by kernel_rfl) (by kernel_rfl) (by kernel_rfl) (by kernel_rfl) (spec_l1In_ok u p2 0 255 r3 e_r3) (by kernel_rfl) ?_
        refine Runs.batch 3 (by kernel_rfl) ?_
        rcases tf (!r3) with hc | hc
        · have h := cond_t h hc
          refine Runs.known 24 (v := true) (by kernel_rfl) hc ?_
          refine Runs.all (by kernel_rfl) ?_
          refine thenN ?_
          exact ⟨(p0, p1, p2, p3, true), h, Le.of (mo := []) (mr := []) (by kernel_rfl) (by kernel_rfl) (by kernel_rfl) (by kernel_rfl)⟩
        · have h := cond_f h hc
          refine Runs.known 24 (v := false) (by kernel_rfl) hc ?_
          refine Runs.batch 1 (by kernel_rfl) ?_
          obtain ⟨r4, e_r4, h⟩ := bind_some h
          refine Runs.callK false 26 79 [] [.t (.int .i64 p3), .t (.int .i64 0), .t (.int .i64 255)] [.one (.t (.int .i64 p3)), .one (.t (.int .i64 0)), .one (.t (.int .i64 255))] (.one (.t (.bool r4))) [] rfl rfl (by kernel_rfl) (by kernel_rfl) (by kernel_rfl) (by kernel_rfl) (by kernel_rfl) (spec_l1In_ok u p3 0 255 r4 e_r4) (by kernel_rfl) ?_
          refine Runs.all (by kernel_rfl) ?_
          refine thenN ?_
          exact ⟨(p0, p1, p2, p3, !r4), h, Le.of (mo := []) (mr := []) (by kernel_rfl) (by kernel_rfl) (by kernel_rfl) (by kernel_rfl)⟩
theorem spec_Windows_ok (u : Nat) (p0 : List Int) (p1 : Int) (r : (List Int)) (h : spec_Windows u p0 p1 = some r) : CallOK Try.prog 203 [.one (.t (.sl 1 (p0.map (eInt .u8)))), .one (.t (.int .i64 p1))] (.one (.ow 3 1 (r.map (eInt .i64)))) [] := by
  unfold spec_Windows at h
  refine CallOK.of_bodyK (fn := Try.f203) (m := true) [.t (.sl 1 (p0.map (eInt .u8))), .t (.int .i64 p1)] (by kernel_rfl) rfl (by kernel_rfl) (by kernel_rfl) (by kernel_rfl) (by kernel_rfl) (by kernel_rfl) ?_
  refine Wp.seq ?_
  refine Wp.regionS (pOf []) (rhoOf []) (by kernel_rfl) ?_
  refine Runs.all (by kernel_rfl) ?_
  refine thenN ?_
  refine Wp.le (Le.of (s := ⟨[(0, .t (.sl 1 (p0.map (eInt .u8)))), (1, .t (.int .i64 p1)), (4, .nil)], [], []⟩) (mo := []) (mr := []) (by kernel_rfl) (by kernel_rfl) (by kernel_rfl) (by kernel_rfl)) ?_
  refine Wp.seq ?_
  refine Wp.regionS (pOf []) (rhoOf []) (by kernel_rfl) ?_
  refine Runs.all (by kernel_rfl) ?_
  refine thenN ?_
  refine Wp.le (Le.of (s := ⟨[(0, .t (.sl 1 (p0.map (eInt .u8)))), (1, .t (.int .i64 p1)), (4, .nil), (5, .own 524288)], [], [(524288, .live 3 1 ((([] : List Int)).map (eInt .i64)))]⟩) (mo := []) (mr := []) (by kernel_rfl) (by kernel_rfl) (by kernel_rfl) (by kernel_rfl)) ?_
  refine Wp.seq ?_
  refine Wp.seqJ (α := (List Int) × Int × Bool) (fun a => ⟨[(0, .t (.sl 1 (a.1.map (eInt .u8)))), (1, .t (.int .i64 a.2.1)), (4, .nil), (5, .own 327681), (16, .t (.bool a.2.2))], [], [(327681, .live 3 1 ((([] : List Int)).map (eInt .i64)))]⟩) (fun a => spec_Windows_j1 u a.1 a.2.1 a.2.2 = some r) ?_ ?_
  · rintro ⟨p0, p1, x1⟩ h
    change spec_Windows_j1 u p0 p1 x1 = some r at h
    unfold spec_Windows_j1 at h
    refine Wp.cond2 (b := x1) (by kernel_rfl) (fun hc => ?_) (fun hc => ?_)
    · have h := cond_t h hc
      refine Wp.seq ?_
      refine Wp.regionS (pOf []) (rhoOf []) (by kernel_rfl) ?_
      refine Runs.all (by kernel_rfl) ?_
      refine thenN ?_
      refine Wp.le (Le.of (s := ⟨[(0, .t (.sl 1 (p0.map (eInt .u8)))), (1, .t (.int .i64 p1)), (4, .own 327681), (5, .own 327681)], [], [(327681, .live 3 1 ((([] : List Int)).map (eInt .i64)))]⟩) (mo := []) (mr := []) (by kernel_rfl) (by kernel_rfl) (by kernel_rfl) (by kernel_rfl)) ?_
      refine Wp.ret ?_
      refine thenR ?_
      have hr := Option.some.inj h
      subst hr
      exact RetK [.own 327681] (.one (.ow 3 1 ((([] : List Int)).map (eInt .i64)))) [] (by kernel_rfl) (by kernel_rfl) (.refl _) .nil
    · have h := cond_f h hc
      refine Wp.skip ?_
      refine thenN ?_
      refine Wp.seq ?_
      refine Wp.regionS (pOf []) (rhoOf []) (by kernel_rfl) ?_
      refine Runs.batch 2 (by kernel_rfl) ?_
      obtain ⟨_, e_2, h⟩ := bind_some h
      refine Runs.subsl (e := 5) (ax := .t (.sl 1 (p0.map (eInt .u8)))) (alo := none) (ahi := (some (.t (.int .i64 p1)))) (eInt .u8) p0 1 0 p1 rfl (by kernel_rfl) (by kernel_rfl) (by kernel_rfl) (by kernel_rfl) (by kernel_rfl) (by kernel_rfl) (by kernel_rfl) (by kernel_rfl) (by kernel_rfl) (by kernel_rfl) (chk_some e_2) ?_
      obtain ⟨r3, e_r3, h⟩ := bind_some h
      refine Runs.callK false 21 169 [] [.t (.sl 1 (((p0.take (Int.toNat p1)).drop (Int.toNat 0)).map (eInt .u8)))] [.one (.t (.sl 1 (((p0.take (Int.toNat p1)).drop (Int.toNat 0)).map (eInt .u8))))] (.one (.t (.int .i64 r3))) [] rfl rfl (by kernel_rfl) (by kernel_rfl) (by kernel_rfl) (by kernel_rfl) (by kernel_rfl) (spec_WeakOf_ok u ((p0.take (Int.toNat p1)).drop (Int.toNat 0)) r3 e_r3) (by kernel_rfl) ?_
      refine Runs.all (by kernel_rfl) ?_
      refine thenN ?_
      refine Wp.le (Le.of (s := ⟨[(0, .t (.sl 1 (p0.map (eInt .u8)))), (1, .t (.int .i64 p1)), (4, .nil), (5, .own 327681), (6, .t (.int .i64 r3))], [], [(327681, .live 3 1 ((([] : List Int)).map (eInt .i64)))]⟩) (mo := []) (mr := []) (by kernel_rfl) (by kernel_rfl) (by kernel_rfl) (by kernel_rfl)) ?_
      refine Wp.seq ?_
      refine Wp.regionS (pOf []) (rhoOf []) (by kernel_rfl) ?_
      refine Runs.batch 3 (by kernel_rfl) ?_
      obtain ⟨_, e_4, h⟩ := bind_some h
      refine Runs.appT (y := .own 1572864) (eInt .i64) 25 1 3 1 8 327681 (([] : List Int)) ([r3]) rfl rfl rfl rfl (by kernel_rfl) (by kernel_rfl) (by kernel_rfl) (by kernel_rfl) (by kernel_rfl) (by kernel_rfl) (.inl rfl) (by kernel_rfl) (of_decide_eq_true (chk_some e_4)) (by kernel_rfl) (by kernel_rfl) ?_
      refine Runs.all (by kernel_rfl) ?_
      refine thenN ?_
      refine Wp.le (Le.of (s := ⟨[(0, .t (.sl 1 (p0.map (eInt .u8)))), (1, .t (.int .i64 p1)), (4, .nil), (5, .own 1638400), (6, .t (.int .i64 r3))], [], [(1638400, .live 3 1 (((([] : List Int)) ++ ([r3])).map (eInt .i64)))]⟩) (mo := []) (mr := []) (by kernel_rfl) (by kernel_rfl) (by kernel_rfl) (by kernel_rfl)) ?_
      refine Wp.seqJ (α := (List Int)) (fun a => ⟨[(4, .nil), (5, .own 327681)], [], [(327681, .live 3 1 (a.map (eInt .i64)))]⟩) (fun a => spec_Windows_j2 u a = some r) ?_ ?_
      · rintro x17 h
        change spec_Windows_j2 u x17 = some r at h
        unfold spec_Windows_j2 at h
        refine Wp.seq ?_
        refine Wp.regionS (pOf []) (rhoOf []) (by kernel_rfl) ?_
        refine Runs.all (by kernel_rfl) ?_
        refine thenN ?_
        refine Wp.le (Le.of (s := ⟨[(4, .own 327681)], [], [(327681, .live 3 1 (x17.map (eInt .i64)))]⟩) (mo := []) (mr := []) (by kernel_rfl) (by kernel_rfl) (by kernel_rfl) (by kernel_rfl)) ?_
        refine Wp.ret ?_
        have hr := Option.some.inj h
        subst hr
        exact RetK [.own 327681] (.one (.ow 3 1 (x17.map (eInt .i64)))) [] (by kernel_rfl) (by kernel_rfl) (.refl _) .nil
      · refine Wp.seq ?_
        refine Wp.regionS (pOf []) (rhoOf []) (by kernel_rfl) ?_
        refine Runs.all (by kernel_rfl) ?_
        refine thenN ?_
        refine Wp.le (Le.of (s := ⟨[(0, .t (.sl 1 (p0.map (eInt .u8)))), (1, .t (.int .i64 p1)), (4, .nil), (5, .own 1638400), (6, .t (.int .i64 r3)), (7, .t (.int .i64 p1))], [], [(1638400, .live 3 1 (((([] : List Int)) ++ ([r3])).map (eInt .i64)))]⟩) (mo := []) (mr := []) (by kernel_rfl) (by kernel_rfl) (by kernel_rfl) (by kernel_rfl)) ?_
        refine Wp.block ?_
        refine Wp.loopF (α := (List Int) × Int × (List Int) × Int × Int) (fun a => ⟨[(0, .t (.sl 1 (a.1.map (eInt .u8)))), (1, .t (.int .i64 a.2.1)), (4, .nil), (5, .own 327681), (6, .t (.int .i64 a.2.2.2.1)), (7, .t (.int .i64 a.2.2.2.2))], [], [(327681, .live 3 1 (a.2.2.1.map (eInt .i64)))]⟩) (fun k_spec_Windows_l3 a => spec_Windows_l3 u k_spec_Windows_l3 a.1 a.2.1 a.2.2.1 a.2.2.2.1 a.2.2.2.2 = some r) ?_ ?_ u (p0, p1, (([] : List Int)) ++ ([r3]), r3, p1) h (Le.of (mo := []) (mr := [(327681, 1638400)]) (by kernel_rfl) (by kernel_rfl) (by kernel_rfl) (by kernel_rfl))
        · intro a h; unfold spec_Windows_l3 at h; cases h
        · rintro k_spec_Windows_l3 ⟨p0, p1, x8, x9, x10⟩ h
          change spec_Windows_l3 u (k_spec_Windows_l3 + 1) p0 p1 x8 x9 x10 = some r at h
          rw [spec_Windows_l3] at h
          refine Wp.seq ?_
          refine Wp.seq ?_
          refine Wp.regionS (pOf []) (rhoOf []) (by kernel_rfl) ?_
          refine Runs.batch 2 (by kernel_rfl) ?_
          refine Runs.lenT (y := .t (.sl 1 (p0.map (eInt .u8)))) (e := 5) (eInt .u8) p0 1 rfl rfl rfl (by kernel_rfl) (by kernel_rfl) (by kernel_rfl) (by kernel_rfl) (by kernel_rfl) ?_
          refine Runs.all (by kernel_rfl) ?_
          refine thenN ?_
          refine Wp.le (Le.of (s := ⟨[(0, .t (.sl 1 (p0.map (eInt .u8)))), (1, .t (.int .i64 p1)), (4, .nil), (5, .own 327681), (6, .t (.int .i64 x9)), (7, .t (.int .i64 x10)), (27, .t (.int .i64 x10)), (28, .t (.sl 1 (p0.map (eInt .u8)))), (29, .t (.int .i64 ((p0.length : Int)))), (30, .t (.bool (decide (x10 < ((p0.length : Int))))))], [], [(327681, .live 3 1 (x8.map (eInt .i64)))]⟩) (mo := []) (mr := []) (by kernel_rfl) (by kernel_rfl) (by kernel_rfl) (by kernel_rfl)) ?_
          refine Wp.cond2 (b := decide (x10 < ((p0.length : Int)))) (by kernel_rfl) (fun hc => ?_) (fun hc => ?_)
          · have h := cond_t h hc
            refine Wp.skip ?_
            refine thenN ?_
            refine Wp.seq ?_
            refine Wp.block ?_
            refine Wp.seq ?_
            refine Wp.regionA (pOf []) (rhoOf [(0, .frz), (1, .frz), (6, .frz), (7, .frz), (33, .frz), (34, .frz), (35, .frz), (36, .frz), (37, .frz), (38, .frz), (39, .frz), (40, .frz), (41, .frz), (42, .frz), (43, .frz), (44, .frz), (45, .frz), (46, .frz), (47, .frz)]) (by kernel_rfl) (by kernel_rfl) ?_
            refine Runs.batch 6 (by kernel_rfl) ?_
            obtain ⟨y14, e_y14, h⟩ := bind_some h
            refine Runs.idxT (e := 5) (kk := .i64) (sz := 1) (eInt .u8) p0 (bSub .i64 x10 p1) rfl (by kernel_rfl) (by kernel_rfl) (by kernel_rfl) (by kernel_rfl) (by kernel_rfl) (by kernel_rfl) e_y14 ?_
            refine Runs.batch 4 (by kernel_rfl) ?_
            obtain ⟨y15, e_y15, h⟩ := bind_some h
            refine Runs.idxT (e := 5) (kk := .i64) (sz := 1) (eInt .u8) p0 x10 rfl (by kernel_rfl) (by kernel_rfl) (by kernel_rfl) (by kernel_rfl) (by kernel_rfl) (by kernel_rfl) e_y15 ?_
            refine Runs.batch 2 (by kernel_rfl) ?_
            obtain ⟨r16, e_r16, h⟩ := bind_some h
            refine Runs.callK false 47 205 [] [.t (.int .i64 x9), .t (.int .i64 p1), .t (.int .i64 (IntKind.wrap .i64 y14)), .t (.int .i64 (IntKind.wrap .i64 y15))] [.one (.t (.int .i64 x9)), .one (.t (.int .i64 p1)), .one (.t (.int .i64 (IntKind.wrap .i64 y14))), .one (.t (.int .i64 (IntKind.wrap .i64 y15)))] (.one (.t (.int .i64 r16))) [] rfl rfl (by kernel_rfl) (by kernel_rfl) (by kernel_rfl) (by kernel_rfl) (by kernel_rfl) (spec_Roll_ok u x9 p1 (IntKind.wrap .i64 y14) (IntKind.wrap .i64 y15) r16 e_r16) (by kernel_rfl) ?_
            refine Runs.all (by kernel_rfl) ?_
            refine thenN ?_
            refine Wp.le (Le.of (s := ⟨[(0, .t (.sl 1 (p0.map (eInt .u8)))), (1, .t (.int .i64 p1)), (4, .nil), (5, .own 327681), (6, .t (.int .i64 r16)), (7, .t (.int .i64 x10)), (27, .t (.int .i64 x10)), (28, .t (.sl 1 (p0.map (eInt .u8)))), (29, .t (.int .i64 ((p0.length : Int)))), (30, .t (.bool (decide (x10 < ((p0.length : Int)))))), (33, .t (.int .i64 x9)), (34, .t (.int .i64 p1)), (35, .t (.sl 1 (p0.map (eInt .u8)))), (36, .t (.int .i64 x10)), (37, .t (.int .i64 p1)), (38, .t (.int .i64 (bSub .i64 x10 p1))), (39, .fadr [.int .u8 y14]), (40, .t (.int .u8 y14)), (41, .t (.int .i64 (IntKind.wrap .i64 y14))), (42, .t (.sl 1 (p0.map (eInt .u8)))), (43, .t (.int .i64 x10)), (44, .fadr [.int .u8 y15]), (45, .t (.int .u8 y15)), (46, .t (.int .i64 (IntKind.wrap .i64 y15))), (47, .t (.int .i64 r16))], [], [(327681, .live 3 1 (x8.map (eInt .i64)))]⟩) (mo := []) (mr := []) (by kernel_rfl) (by kernel_rfl) (by kernel_rfl) (by kernel_rfl)) ?_
            refine Wp.regionS (pOf []) (rhoOf []) (by kernel_rfl) ?_
            refine Runs.batch 3 (by kernel_rfl) ?_
            obtain ⟨_, e_17, h⟩ := bind_some h
            refine Runs.appT (y := .own 3276800) (eInt .i64) 51 1 3 1 8 327681 x8 ([r16]) rfl rfl rfl rfl (by kernel_rfl) (by kernel_rfl) (by kernel_rfl) (by kernel_rfl) (by kernel_rfl) (by kernel_rfl) (.inl rfl) (by kernel_rfl) (of_decide_eq_true (chk_some e_17)) (by kernel_rfl) (by kernel_rfl) ?_
            refine Runs.all (by kernel_rfl) ?_
            refine blkN ?_
            refine thenN ?_
            refine Wp.regionS (pOf []) (rhoOf []) (by kernel_rfl) ?_
            refine Runs.all (by kernel_rfl) ?_
            refine thenN ?_
            exact ⟨(p0, p1, x8 ++ ([r16]), r16, bAdd .i64 x10 1), h, Le.of (mo := []) (mr := [(327681, 3342336)]) (by kernel_rfl) (by kernel_rfl) (by kernel_rfl) (by kernel_rfl)⟩
          · have h := cond_f h hc
            refine Wp.exit ?_
            refine thenE ?_
            refine thenE ?_
            refine blkE ?_
            refine thenN ?_
            exact ⟨x8, h, Le.of (mo := []) (mr := []) (by kernel_rfl) (by kernel_rfl) (by kernel_rfl) (by kernel_rfl)⟩
  · refine Wp.regionS (pOf []) (rhoOf []) (by kernel_rfl) ?_
    refine Runs.batch 3 (by kernel_rfl) ?_
    rcases tf (decide (p1 < 1)) with hc | hc
    · have h := cond_t h hc
      refine Runs.known 11 (v := true) (by kernel_rfl) hc ?_
      refine Runs.all (by kernel_rfl) ?_
      refine thenN ?_
      exact ⟨(p0, p1, true), h, Le.of (mo := []) (mr := [(327681, 524288)]) (by kernel_rfl) (by kernel_rfl) (by kernel_rfl) (by kernel_rfl)⟩
    · have h := cond_f h hc
      refine Runs.known 11 (v := false) (by kernel_rfl) hc ?_
      refine Runs.batch 2 (by kernel_rfl) ?_
      refine Runs.lenT (y := .t (.sl 1 (p0.map (eInt .u8)))) (e := 5) (eInt .u8) p0 1 rfl rfl rfl (by kernel_rfl) (by kernel_rfl) (by kernel_rfl) (by kernel_rfl) (by kernel_rfl) ?_
      refine Runs.all (by kernel_rfl) ?_
      refine thenN ?_
      exact ⟨(p0, p1, decide (p1 > ((p0.length : Int)))), h, Le.of (mo := []) (mr := [(327681, 524288)]) (by kernel_rfl) (by kernel_rfl) (by kernel_rfl) (by kernel_rfl)⟩
theorem spec_FindSum_ok (u : Nat) (p0 : List Int) (p1 : Sum) (p2 : Int) (r : Int) (h : spec_FindSum u p0 p1 p2 = some r) : CallOK Try.prog 195 [.one (.t (.sl 1 (p0.map (eInt .u8)))), .agg [.t (.int .i64 p1.fW), .t (.int .i64 p1.fS)], .one (.t (.int .i64 p2))] (.one (.t (.int .i64 r))) [] := by
  unfold spec_FindSum at h
  refine CallOK.of_bodyK (fn := Try.f195) (m := false) [.t (.sl 1 (p0.map (eInt .u8))), .agg [.t (.int .i64 p1.fW), .t (.int .i64 p1.fS)], .t (.int .i64 p2)] (by kernel_rfl) rfl (by kernel_rfl) (by kernel_rfl) (by kernel_rfl) (by kernel_rfl) (by kernel_rfl) ?_
  refine Wp.seq ?_
  refine Wp.regionS (pOf []) (rhoOf []) (by kernel_rfl) ?_
  refine Runs.all (by kernel_rfl) ?_
  refine thenN ?_
  refine Wp.le (Le.of (s := ⟨[(0, .t (.sl 1 (p0.map (eInt .u8)))), (2, .t (.int .i64 p2)), (4, .obj 4 0), (6, .t (.int .i64 0))], [(4, [.t (.int .i64 p1.fW), .t (.int .i64 p1.fS)])], []⟩) (mo := []) (mr := []) (by kernel_rfl) (by kernel_rfl) (by kernel_rfl) (by kernel_rfl)) ?_
  refine Wp.seq ?_
  refine Wp.seq ?_
  refine Wp.regionS (pOf []) (rhoOf []) (by kernel_rfl) ?_
  refine Runs.batch 1 (by kernel_rfl) ?_
  obtain ⟨r1, e_r1, h⟩ := bind_some h
  refine Runs.callK false 10 79 [] [.t (.int .i64 p2), .t (.int .i64 1), .t (.int .i64 6)] [.one (.t (.int .i64 p2)), .one (.t (.int .i64 1)), .one (.t (.int .i64 6))] (.one (.t (.bool r1))) [] rfl rfl (by kernel_rfl) (by kernel_rfl) (by kernel_rfl) (by kernel_rfl) (by kernel_rfl) (spec_l1In_ok u p2 1 6 r1 e_r1) (by kernel_rfl) ?_
  refine Runs.all (by kernel_rfl) ?_
  refine thenN ?_
  refine Wp.le (Le.of (s := ⟨[(0, .t (.sl 1 (p0.map (eInt .u8)))), (2, .t (.int .i64 p2)), (4, .obj 4 0), (6, .t (.int .i64 0)), (11, .t (.bool (!r1)))], [(4, [.t (.int .i64 p1.fW), .t (.int .i64 p1.fS)])], []⟩) (mo := []) (mr := []) (by kernel_rfl) (by kernel_rfl) (by kernel_rfl) (by kernel_rfl)) ?_
  refine Wp.cond2 (b := !r1) (by kernel_rfl) (fun hc => ?_) (fun hc => ?_)
  · have h := cond_t h hc
    refine Wp.seq ?_
    refine Wp.regionS (pOf []) (rhoOf []) (by kernel_rfl) ?_
    refine Runs.all (by kernel_rfl) ?_
    refine thenN ?_
    refine Wp.le (Le.of (s := ⟨[(0, .t (.sl 1 (p0.map (eInt .u8)))), (2, .t (.int .i64 p2)), (4, .obj 4 0), (6, .t (.int .i64 (-1)))], [(4, [.t (.int .i64 p1.fW), .t (.int .i64 p1.fS)])], []⟩) (mo := []) (mr := []) (by kernel_rfl) (by kernel_rfl) (by kernel_rfl) (by kernel_rfl)) ?_
    refine Wp.ret ?_
    refine thenR ?_
    have hr := Option.some.inj h
    subst hr
    exact RetK [.t (.int .i64 (-1))] (.one (.t (.int .i64 (-1)))) [] (by kernel_rfl) (by kernel_rfl) (.refl _) .nil
  · have h := cond_f h hc
    refine Wp.skip ?_
    refine thenN ?_
    refine Wp.seq ?_
    refine Wp.regionS (pOf []) (rhoOf []) (by kernel_rfl) ?_
    refine Runs.batch 2 (by kernel_rfl) ?_
    obtain ⟨r2, e_r2, h⟩ := bind_some h
    refine Runs.callK false 14 203 [] [.t (.sl 1 (p0.map (eInt .u8))), .t (.int .i64 p2)] [.one (.t (.sl 1 (p0.map (eInt .u8)))), .one (.t (.int .i64 p2))] (.one (.ow 3 1 (r2.map (eInt .i64)))) [] rfl rfl (by kernel_rfl) (by kernel_rfl) (by kernel_rfl) (by kernel_rfl) (by kernel_rfl) (spec_Windows_ok u p0 p2 r2 e_r2) (by kernel_rfl) ?_
    refine Runs.all (by kernel_rfl) ?_
    refine thenN ?_
    refine Wp.le (Le.of (s := ⟨[(0, .t (.sl 1 (p0.map (eInt .u8)))), (2, .t (.int .i64 p2)), (4, .obj 4 0), (6, .t (.int .i64 0)), (7, .own 917504)], [(4, [.t (.int .i64 p1.fW), .t (.int .i64 p1.fS)])], [(917504, .live 3 1 (r2.map (eInt .i64)))]⟩) (mo := []) (mr := []) (by kernel_rfl) (by kernel_rfl) (by kernel_rfl) (by kernel_rfl)) ?_
    refine Wp.seqJ (α := Unit) (fun a => ⟨[(6, .t (.int .i64 0))], [], []⟩) (fun a => spec_FindSum_j1 u = some r) ?_ ?_
    · rintro ⟨⟩ h
      change spec_FindSum_j1 u = some r at h
      unfold spec_FindSum_j1 at h
      refine Wp.seq ?_
      refine Wp.regionS (pOf []) (rhoOf []) (by kernel_rfl) ?_
      refine Runs.all (by kernel_rfl) ?_
      refine thenN ?_
      refine Wp.le (Le.of (s := ⟨[(6, .t (.int .i64 (-1)))], [], []⟩) (mo := []) (mr := []) (by kernel_rfl) (by kernel_rfl) (by kernel_rfl) (by kernel_rfl)) ?_
      refine Wp.ret ?_
      have hr := Option.some.inj h
      subst hr
      exact RetK [.t (.int .i64 (-1))] (.one (.t (.int .i64 (-1)))) [] (by kernel_rfl) (by kernel_rfl) (.refl _) .nil
    · refine Wp.seq ?_
      refine Wp.regionS (pOf []) (rhoOf []) (by kernel_rfl) ?_
      refine Runs.all (by kernel_rfl) ?_
      refine thenN ?_
      refine Wp.le (Le.of (s := ⟨[(0, .t (.sl 1 (p0.map (eInt .u8)))), (2, .t (.int .i64 p2)), (4, .obj 4 0), (6, .t (.int .i64 0)), (7, .own 917504), (8, .t (.int .i64 0))], [(4, [.t (.int .i64 p1.fW), .t (.int .i64 p1.fS)])], [(917504, .live 3 1 (r2.map (eInt .i64)))]⟩) (mo := []) (mr := []) (by kernel_rfl) (by kernel_rfl) (by kernel_rfl) (by kernel_rfl)) ?_
      refine Wp.block ?_
      refine Wp.loopF (α := (List Int) × Int × ((List Int)) × Int × Sum) (fun a => ⟨[(0, .t (.sl 1 (a.1.map (eInt .u8)))), (2, .t (.int .i64 a.2.1)), (4, .obj 4 0), (6, .t (.int .i64 0)), (7, .own 458753), (8, .t (.int .i64 a.2.2.2.1))], [(4, [.t (.int .i64 a.2.2.2.2.fW), .t (.int .i64 a.2.2.2.2.fS)])], [(458753, .live 3 1 (a.2.2.1.map (eInt .i64)))]⟩) (fun k_spec_FindSum_l2 a => spec_FindSum_l2 u k_spec_FindSum_l2 a.1 a.2.1 a.2.2.1 a.2.2.2.1 a.2.2.2.2 = some r) ?_ ?_ u (p0, p2, r2, 0, p1) h (Le.of (mo := []) (mr := [(458753, 917504)]) (by kernel_rfl) (by kernel_rfl) (by kernel_rfl) (by kernel_rfl))
      · intro a h; unfold spec_FindSum_l2 at h; cases h
      · rintro k_spec_FindSum_l2 ⟨p0, p2, r2, x4, p1⟩ h
        change spec_FindSum_l2 u (k_spec_FindSum_l2 + 1) p0 p2 r2 x4 p1 = some r at h
        rw [spec_FindSum_l2] at h
        refine Wp.seq ?_
        refine Wp.seq ?_
        refine Wp.regionS (pOf []) (rhoOf []) (by kernel_rfl) ?_
        refine Runs.batch 2 (by kernel_rfl) ?_
        refine Runs.lenT (y := .own 458753) (e := 3) (eInt .i64) r2 1 rfl rfl rfl (by kernel_rfl) (by kernel_rfl) (by kernel_rfl) (by kernel_rfl) (by kernel_rfl) ?_
        refine Runs.all (by kernel_rfl) ?_
        refine thenN ?_
        refine Wp.le (Le.of (s := ⟨[(0, .t (.sl 1 (p0.map (eInt .u8)))), (2, .t (.int .i64 p2)), (4, .obj 4 0), (6, .t (.int .i64 0)), (7, .own 458753), (8, .t (.int .i64 x4)), (15, .t (.int .i64 x4)), (16, .own 458753), (17, .t (.int .i64 ((r2.length : Int)))), (18, .t (.bool (decide (x4 < ((r2.length : Int))))))], [(4, [.t (.int .i64 p1.fW), .t (.int .i64 p1.fS)])], [(458753, .live 3 1 (r2.map (eInt .i64)))]⟩) (mo := []) (mr := []) (by kernel_rfl) (by kernel_rfl) (by kernel_rfl) (by kernel_rfl)) ?_
        refine Wp.cond2 (b := decide (x4 < ((r2.length : Int)))) (by kernel_rfl) (fun hc => ?_) (fun hc => ?_)
        · have h := cond_t h hc
          refine Wp.skip ?_
          refine thenN ?_
          refine Wp.seq ?_
          refine Wp.block ?_
          refine Wp.seqJ (α := (List Int) × Int × ((List Int)) × Int × Int × Sum × Bool × Bool) (fun a => ⟨[(0, .t (.sl 1 (a.1.map (eInt .u8)))), (2, .t (.int .i64 a.2.1)), (4, .obj 4 0), (6, .t (.int .i64 0)), (7, .own 458753), (8, .t (.int .i64 a.2.2.2.1)), (15, .t (.int .i64 a.2.2.2.1)), (16, .own 458753), (17, .t (.int .i64 ((a.2.2.1.length : Int)))), (18, .t (.bool (decide (a.2.2.2.1 < ((a.2.2.1.length : Int)))))), (21, .own 458753), (22, .t (.int .i64 a.2.2.2.1)), (24, .t (.int .i64 a.2.2.2.2.1)), (25, .obj 4 0), (26, .t (.int .i64 a.2.2.2.2.2.1.fW)), (27, .t (.bool (a.2.2.2.2.1 == a.2.2.2.2.2.1.fW))), (28, .t (.bool a.2.2.2.2.2.2.1)), (38, .t (.bool a.2.2.2.2.2.2.2))], [(4, [.t (.int .i64 a.2.2.2.2.2.1.fW), .t (.int .i64 a.2.2.2.2.2.1.fS)])], [(458753, .live 3 1 (a.2.2.1.map (eInt .i64)))]⟩) (fun a => spec_FindSum_j3 u (fun z0 z1 z2 z3 z4 => spec_FindSum_l2 u k_spec_FindSum_l2 z0 z1 z2 z3 z4) a.1 a.2.1 a.2.2.1 a.2.2.2.1 a.2.2.2.2.1 a.2.2.2.2.2.1 a.2.2.2.2.2.2.1 a.2.2.2.2.2.2.2 = some r) ?_ ?_
          · rintro ⟨p0, p2, r2, x4, y6, p1, x9, x10⟩ h
            change spec_FindSum_j3 u (fun z0 z1 z2 z3 z4 => spec_FindSum_l2 u k_spec_FindSum_l2 z0 z1 z2 z3 z4) p0 p2 r2 x4 y6 p1 x9 x10 = some r at h
            unfold spec_FindSum_j3 at h
            refine Wp.cond2 (b := x10) (by kernel_rfl) (fun hc => ?_) (fun hc => ?_)
            · have h := cond_t h hc
              refine Wp.seq ?_
              refine Wp.regionS (pOf []) (rhoOf []) (by kernel_rfl) ?_
              refine Runs.all (by kernel_rfl) ?_
              refine thenN ?_
              refine Wp.le (Le.of (s := ⟨[(0, .t (.sl 1 (p0.map (eInt .u8)))), (2, .t (.int .i64 p2)), (4, .obj 4 0), (6, .t (.int .i64 x4)), (7, .own 458753), (8, .t (.int .i64 x4)), (15, .t (.int .i64 x4)), (16, .own 458753), (17, .t (.int .i64 ((r2.length : Int)))), (18, .t (.bool (decide (x4 < ((r2.length : Int)))))), (21, .own 458753), (22, .t (.int .i64 x4)), (24, .t (.int .i64 y6)), (25, .obj 4 0), (26, .t (.int .i64 p1.fW)), (27, .t (.bool (y6 == p1.fW))), (28, .t (.bool x9)), (38, .t (.bool x10)), (39, .t (.int .i64 x4))], [(4, [.t (.int .i64 p1.fW), .t (.int .i64 p1.fS)])], [(458753, .live 3 1 (r2.map (eInt .i64)))]⟩) (mo := []) (mr := []) (by kernel_rfl) (by kernel_rfl) (by kernel_rfl) (by kernel_rfl)) ?_
              refine Wp.ret ?_
              refine blkR ?_
              refine thenR ?_
              refine thenR ?_
              refine blkR ?_
              refine thenR ?_
              have hr := Option.some.inj h
              subst hr
              exact RetK [.t (.int .i64 x4)] (.one (.t (.int .i64 x4))) [] (by kernel_rfl) (by kernel_rfl) (.refl _) .nil
            · have h := cond_f h hc
              refine Wp.skip ?_
              refine blkN ?_
              refine thenN ?_
              refine Wp.regionS (pOf []) (rhoOf []) (by kernel_rfl) ?_
              refine Runs.all (by kernel_rfl) ?_
              refine thenN ?_
              exact ⟨(p0, p2, r2, bAdd .i64 x4 1, p1), h, Le.of (mo := []) (mr := []) (by kernel_rfl) (by kernel_rfl) (by kernel_rfl) (by kernel_rfl)⟩
          · refine Wp.regionA (pOf []) (rhoOf [(0, .frz), (2, .frz), (4, .obj 4), (7, .own 7), (8, .frz), (21, .own 7), (22, .frz), (23, .el 7), (24, .frz), (25, .obj 4), (26, .frz), (27, .frz), (28, .frz), (29, .frz), (30, .frz), (31, .frz), (32, .frz), (33, .frz), (34, .frz), (35, .frz), (36, .frz)]) (by kernel_rfl) (by kernel_rfl) ?_
            refine Runs.batch 2 (by kernel_rfl) ?_
            obtain ⟨y6, e_y6, h⟩ := bind_some h
            refine Runs.idxO (e := 3) (e' := 3) (kk := .i64) (sz := 1) (eInt .i64) r2 x4 458753 rfl (by kernel_rfl) (by kernel_rfl) (by kernel_rfl) (by kernel_rfl) (by kernel_rfl) (by kernel_rfl) (by kernel_rfl) e_y6 ?_
            refine Runs.loadE (e' := 3) (sz := 1) (m := 1) (gg := false) (eInt .i64) r2 458753 (Int.toNat x4) 0 (.t (.int .i64 y6)) rfl (by kernel_rfl) (by kernel_rfl) (by kernel_rfl) (by kernel_rfl) (by kernel_rfl) (by kernel_rfl) (idx_some e_y6).2 (by kernel_rfl) ?_
            refine Runs.batch 4 (by kernel_rfl) ?_
            rcases tf (y6 == p1.fW) with hc | hc
            · have h := cond_t h hc
              refine Runs.known 28 (v := true) (by kernel_rfl) hc ?_
              refine Runs.batch 5 (by kernel_rfl) ?_
              obtain ⟨_, e_7, h⟩ := bind_some h
              refine Runs.subsl (e := 5) (ax := .t (.sl 1 (p0.map (eInt .u8)))) (alo := (some (.t (.int .i64 x4)))) (ahi := (some (.t (.int .i64 (bAdd .i64 x4 p2))))) (eInt .u8) p0 1 x4 (bAdd .i64 x4 p2) rfl (by kernel_rfl) (by kernel_rfl) (by kernel_rfl) (by kernel_rfl) (by kernel_rfl) (by kernel_rfl) (by kernel_rfl) (by kernel_rfl) (by kernel_rfl) (by kernel_rfl) (chk_some e_7) ?_
              obtain ⟨r8, e_r8, h⟩ := bind_some h
              refine Runs.callK false 35 132 [] [.t (.sl 1 (((p0.take (Int.toNat (bAdd .i64 x4 p2))).drop (Int.toNat x4)).map (eInt .u8)))] [.one (.t (.sl 1 (((p0.take (Int.toNat (bAdd .i64 x4 p2))).drop (Int.toNat x4)).map (eInt .u8))))] (.agg [.t (.int .i64 r8.fW), .t (.int .i64 r8.fS)]) [] rfl rfl (by kernel_rfl) (by kernel_rfl) (by kernel_rfl) (by kernel_rfl) (by kernel_rfl) (spec_SumOf_ok u ((p0.take (Int.toNat (bAdd .i64 x4 p2))).drop (Int.toNat x4)) r8 e_r8) (by kernel_rfl) ?_
              refine Runs.all (by kernel_rfl) ?_
              refine thenN ?_
              exact ⟨(p0, p2, r2, x4, y6, p1, true, [r8.fW, r8.fS] == [p1.fW, p1.fS]), h, Le.of (mo := []) (mr := []) (by kernel_rfl) (by kernel_rfl) (by kernel_rfl) (by kernel_rfl)⟩
            · have h := cond_f h hc
              refine Runs.known 28 (v := false) (by kernel_rfl) hc ?_
              refine Runs.all (by kernel_rfl) ?_
              refine thenN ?_
              exact ⟨(p0, p2, r2, x4, y6, p1, false, false), h, Le.of (mo := []) (mr := []) (by kernel_rfl) (by kernel_rfl) (by kernel_rfl) (by kernel_rfl)⟩
        · have h := cond_f h hc
          refine Wp.exit ?_
          refine thenE ?_
          refine thenE ?_
          refine blkE ?_
          refine thenN ?_
          exact ⟨(), h, Le.of (mo := []) (mr := []) (by kernel_rfl) (by kernel_rfl) (by kernel_rfl) (by kernel_rfl)⟩
theorem spec_PlaceOf_ok (u : Nat) (p0 : List Int) (p1 : Manifest) (p2 : Int) (r : Int) (h : spec_PlaceOf u p0 p1 p2 = some r) : CallOK Try.prog 172 [.one (.t (.sl 1 (p0.map (eInt .u8)))), .agg [.t (.int .i64 p1.fGen), .t (.int .i64 p1.fSize), .t (.int .i64 p1.fLen), .t (.sl 2 (p1.fSums.map Sum.enc))], .one (.t (.int .i64 p2))] (.one (.t (.int .i64 r))) [] := by
  unfold spec_PlaceOf at h
  refine CallOK.of_bodyK (fn := Try.f172) (m := false) [.t (.sl 1 (p0.map (eInt .u8))), .agg [.t (.int .i64 p1.fGen), .t (.int .i64 p1.fSize), .t (.int .i64 p1.fLen), .t (.sl 2 (p1.fSums.map Sum.enc))], .t (.int .i64 p2)] (by kernel_rfl) rfl (by kernel_rfl) (by kernel_rfl) (by kernel_rfl) (by kernel_rfl) (by kernel_rfl) ?_
  refine Wp.seq ?_
  refine Wp.regionS (pOf []) (rhoOf []) (by kernel_rfl) ?_
  refine Runs.all (by kernel_rfl) ?_
  refine thenN ?_
  refine Wp.le (Le.of (s := ⟨[(0, .t (.sl 1 (p0.map (eInt .u8)))), (2, .t (.int .i64 p2)), (4, .obj 4 0), (6, .t (.int .i64 0))], [(4, [.t (.int .i64 p1.fGen), .t (.int .i64 p1.fSize), .t (.int .i64 p1.fLen), .t (.sl 2 (p1.fSums.map Sum.enc))])], []⟩) (mo := []) (mr := []) (by kernel_rfl) (by kernel_rfl) (by kernel_rfl) (by kernel_rfl)) ?_
  refine Wp.seq ?_
  refine Wp.regionS (pOf []) (rhoOf []) (by kernel_rfl) ?_
  refine Runs.batch 5 (by kernel_rfl) ?_
  obtain ⟨r1, e_r1, h⟩ := bind_some h
  refine Runs.callK false 15 101 [] [.t (.int .i64 p1.fSize), .t (.int .i64 p1.fLen), .t (.int .i64 p2)] [.one (.t (.int .i64 p1.fSize)), .one (.t (.int .i64 p1.fLen)), .one (.t (.int .i64 p2))] (.tup [.one (.t (.int .i64 r1.1)), .one (.t (.int .i64 r1.2))]) [] rfl rfl (by kernel_rfl) (by kernel_rfl) (by kernel_rfl) (by kernel_rfl) (by kernel_rfl) (spec_SpanOf_ok u p1.fSize p1.fLen p2 r1 e_r1) (by kernel_rfl) ?_
  refine Runs.all (by kernel_rfl) ?_
  refine thenN ?_
  refine Wp.le (Le.of (s := ⟨[(0, .t (.sl 1 (p0.map (eInt .u8)))), (2, .t (.int .i64 p2)), (4, .obj 4 0), (6, .t (.int .i64 0)), (8, .t (.int .i64 r1.2))], [(4, [.t (.int .i64 p1.fGen), .t (.int .i64 p1.fSize), .t (.int .i64 p1.fLen), .t (.sl 2 (p1.fSums.map Sum.enc))])], []⟩) (mo := []) (mr := []) (by kernel_rfl) (by kernel_rfl) (by kernel_rfl) (by kernel_rfl)) ?_
  refine Wp.seq ?_
  refine Wp.seqJ (α := (List Int) × Int × (Int × Int) × Bool × Manifest) (fun a => ⟨[(0, .t (.sl 1 (a.1.map (eInt .u8)))), (2, .t (.int .i64 a.2.1)), (4, .obj 4 0), (6, .t (.int .i64 0)), (8, .t (.int .i64 a.2.2.1.2)), (26, .t (.bool a.2.2.2.1))], [(4, [.t (.int .i64 a.2.2.2.2.fGen), .t (.int .i64 a.2.2.2.2.fSize), .t (.int .i64 a.2.2.2.2.fLen), .t (.sl 2 (a.2.2.2.2.fSums.map Sum.enc))])], []⟩) (fun a => spec_PlaceOf_j1 u a.1 a.2.1 a.2.2.1 a.2.2.2.1 a.2.2.2.2 = some r) ?_ ?_
  · rintro ⟨p0, p2, r1, x2, p1⟩ h
    change spec_PlaceOf_j1 u p0 p2 r1 x2 p1 = some r at h
    unfold spec_PlaceOf_j1 at h
    refine Wp.cond2 (b := x2) (by kernel_rfl) (fun hc => ?_) (fun hc => ?_)
    · have h := cond_t h hc
      refine Wp.seq ?_
      refine Wp.regionS (pOf []) (rhoOf []) (by kernel_rfl) ?_
      refine Runs.all (by kernel_rfl) ?_
      refine thenN ?_
      refine Wp.le (Le.of (s := ⟨[(0, .t (.sl 1 (p0.map (eInt .u8)))), (2, .t (.int .i64 p2)), (4, .obj 4 0), (6, .t (.int .i64 (-1))), (8, .t (.int .i64 r1.2))], [(4, [.t (.int .i64 p1.fGen), .t (.int .i64 p1.fSize), .t (.int .i64 p1.fLen), .t (.sl 2 (p1.fSums.map Sum.enc))])], []⟩) (mo := []) (mr := []) (by kernel_rfl) (by kernel_rfl) (by kernel_rfl) (by kernel_rfl)) ?_
      refine Wp.ret ?_
      refine thenR ?_
      have hr := Option.some.inj h
      subst hr
      exact RetK [.t (.int .i64 (-1))] (.one (.t (.int .i64 (-1)))) [] (by kernel_rfl) (by kernel_rfl) (.refl _) .nil
    · have h := cond_f h hc
      refine Wp.skip ?_
      refine thenN ?_
      refine Wp.seq ?_
      refine Wp.regionS (pOf []) (rhoOf []) (by kernel_rfl) ?_
      refine Runs.batch 4 (by kernel_rfl) ?_
      obtain ⟨y3, e_y3, h⟩ := bind_some h
      refine Runs.idxT (e := 166) (kk := .i64) (sz := 2) Sum.enc p1.fSums p2 rfl (by kernel_rfl) (by kernel_rfl) (by kernel_rfl) (by kernel_rfl) (by kernel_rfl) (by kernel_rfl) e_y3 ?_
      refine Runs.batch 2 (by kernel_rfl) ?_
      obtain ⟨r4, e_r4, h⟩ := bind_some h
      refine Runs.callK false 34 195 [] [.t (.sl 1 (p0.map (eInt .u8))), .agg [.t (.int .i64 y3.fW), .t (.int .i64 y3.fS)], .t (.int .i64 r1.2)] [.one (.t (.sl 1 (p0.map (eInt .u8)))), .agg [.t (.int .i64 y3.fW), .t (.int .i64 y3.fS)], .one (.t (.int .i64 r1.2))] (.one (.t (.int .i64 r4))) [] rfl rfl (by kernel_rfl) (by kernel_rfl) (by kernel_rfl) (by kernel_rfl) (by kernel_rfl) (spec_FindSum_ok u p0 y3 r1.2 r4 e_r4) (by kernel_rfl) ?_
      refine Runs.all (by kernel_rfl) ?_
      refine thenN ?_
      refine Wp.le (Le.of (s := ⟨[(6, .t (.int .i64 r4))], [], []⟩) (mo := []) (mr := []) (by kernel_rfl) (by kernel_rfl) (by kernel_rfl) (by kernel_rfl)) ?_
      refine Wp.ret ?_
      have hr := Option.some.inj h
      subst hr
      exact RetK [.t (.int .i64 r4)] (.one (.t (.int .i64 r4))) [] (by kernel_rfl) (by kernel_rfl) (.refl _) .nil
  · refine Wp.regionS (pOf []) (rhoOf []) (by kernel_rfl) ?_
    refine Runs.batch 3 (by kernel_rfl) ?_
    rcases tf (r1.2 == 0) with hc | hc
    · have h := cond_t h hc
      refine Runs.known 20 (v := true) (by kernel_rfl) hc ?_
      refine Runs.all (by kernel_rfl) ?_
      refine thenN ?_
      exact ⟨(p0, p2, r1, true, p1), h, Le.of (mo := []) (mr := []) (by kernel_rfl) (by kernel_rfl) (by kernel_rfl) (by kernel_rfl)⟩
    · have h := cond_f h hc
      refine Runs.known 20 (v := false) (by kernel_rfl) hc ?_
      refine Runs.batch 3 (by kernel_rfl) ?_
      refine Runs.lenT (y := .t (.sl 2 (p1.fSums.map Sum.enc))) (e := 166) Sum.enc p1.fSums 2 rfl rfl rfl (by kernel_rfl) (by kernel_rfl) (by kernel_rfl) (by kernel_rfl) (by kernel_rfl) ?_
      refine Runs.all (by kernel_rfl) ?_
      refine thenN ?_
      exact ⟨(p0, p2, r1, decide (p2 ≥ ((p1.fSums.length : Int))), p1), h, Le.of (mo := []) (mr := []) (by kernel_rfl) (by kernel_rfl) (by kernel_rfl) (by kernel_rfl)⟩
theorem spec_SetOk_ok (u : Nat) (p0 : Int) (r : Bool) (h : spec_SetOk u p0 = some r) : CallOK Try.prog 171 [.one (.t (.int .i64 p0))] (.one (.t (.bool r))) [] := by
  unfold spec_SetOk at h
  refine CallOK.of_bodyK (fn := Try.f171) (m := false) [.t (.int .i64 p0)] (by kernel_rfl) rfl (by kernel_rfl) (by kernel_rfl) (by kernel_rfl) (by kernel_rfl) (by kernel_rfl) ?_
  refine Wp.seq ?_
  refine Wp.regionS (pOf []) (rhoOf []) (by kernel_rfl) ?_
  refine Runs.all (by kernel_rfl) ?_
  refine thenN ?_
  refine Wp.le (Le.of (s := ⟨[(0, .t (.int .i64 p0)), (2, .t (.bool false))], [], []⟩) (mo := []) (mr := []) (by kernel_rfl) (by kernel_rfl) (by kernel_rfl) (by kernel_rfl)) ?_
  refine Wp.seq ?_
  refine Wp.regionS (pOf []) (rhoOf []) (by kernel_rfl) ?_
  refine Runs.batch 1 (by kernel_rfl) ?_
  obtain ⟨r1, e_r1, h⟩ := bind_some h
  refine Runs.callK false 4 79 [] [.t (.int .i64 p0), .t (.int .i64 0), .t (.int .i64 1099511627775)] [.one (.t (.int .i64 p0)), .one (.t (.int .i64 0)), .one (.t (.int .i64 1099511627775))] (.one (.t (.bool r1))) [] rfl rfl (by kernel_rfl) (by kernel_rfl) (by kernel_rfl) (by kernel_rfl) (by kernel_rfl) (spec_l1In_ok u p0 0 1099511627775 r1 e_r1) (by kernel_rfl) ?_
  refine Runs.all (by kernel_rfl) ?_
  refine thenN ?_
  refine Wp.le (Le.of (s := ⟨[(2, .t (.bool r1))], [], []⟩) (mo := []) (mr := []) (by kernel_rfl) (by kernel_rfl) (by kernel_rfl) (by kernel_rfl)) ?_
  refine Wp.ret ?_
  have hr := Option.some.inj h
  subst hr
  exact RetK [.t (.bool r1)] (.one (.t (.bool r1))) [] (by kernel_rfl) (by kernel_rfl) (.refl _) .nil
theorem spec_WithPart_ok (u : Nat) (p0 : Int) (p1 : Int) (r : Int) (h : spec_WithPart u p0 p1 = some r) : CallOK Try.prog 173 [.one (.t (.int .i64 p0)), .one (.t (.int .i64 p1))] (.one (.t (.int .i64 r))) [] := by
  unfold spec_WithPart at h
  refine CallOK.of_bodyK (fn := Try.f173) (m := false) [.t (.int .i64 p0), .t (.int .i64 p1)] (by kernel_rfl) rfl (by kernel_rfl) (by kernel_rfl) (by kernel_rfl) (by kernel_rfl) (by kernel_rfl) ?_
  refine Wp.seq ?_
  refine Wp.regionS (pOf []) (rhoOf []) (by kernel_rfl) ?_
  refine Runs.all (by kernel_rfl) ?_
  refine thenN ?_
  refine Wp.le (Le.of (s := ⟨[(0, .t (.int .i64 p0)), (1, .t (.int .i64 p1)), (4, .t (.int .i64 0))], [], []⟩) (mo := []) (mr := []) (by kernel_rfl) (by kernel_rfl) (by kernel_rfl) (by kernel_rfl)) ?_
  refine Wp.seq ?_
  refine Wp.seqJ (α := Int × Int × Bool) (fun a => ⟨[(0, .t (.int .i64 a.1)), (1, .t (.int .i64 a.2.1)), (4, .t (.int .i64 0)), (12, .t (.bool a.2.2))], [], []⟩) (fun a => spec_WithPart_j1 u a.1 a.2.1 a.2.2 = some r) ?_ ?_
  · rintro ⟨p0, p1, x3⟩ h
    change spec_WithPart_j1 u p0 p1 x3 = some r at h
    unfold spec_WithPart_j1 at h
    refine Wp.cond2 (b := x3) (by kernel_rfl) (fun hc => ?_) (fun hc => ?_)
    · have h := cond_t h hc
      refine Wp.seq ?_
      refine Wp.regionS (pOf []) (rhoOf []) (by kernel_rfl) ?_
      refine Runs.all (by kernel_rfl) ?_
      refine thenN ?_
      refine Wp.le (Le.of (s := ⟨[(0, .t (.int .i64 p0)), (1, .t (.int .i64 p1)), (4, .t (.int .i64 p0))], [], []⟩) (mo := []) (mr := []) (by kernel_rfl) (by kernel_rfl) (by kernel_rfl) (by kernel_rfl)) ?_
      refine Wp.ret ?_
      refine thenR ?_
      have hr := Option.some.inj h
      subst hr
      exact RetK [.t (.int .i64 p0)] (.one (.t (.int .i64 p0))) [] (by kernel_rfl) (by kernel_rfl) (.refl _) .nil
    · have h := cond_f h hc
      refine Wp.skip ?_
      refine thenN ?_
      refine Wp.seq ?_
      refine Wp.regionS (pOf []) (rhoOf []) (by kernel_rfl) ?_
      refine Runs.batch 2 (by kernel_rfl) ?_
      obtain ⟨_, e_4, h⟩ := bind_some h
      refine Runs.num .shl (.int .i64 1) (.int .i64 p1) (.int .i64 (bShl .i64 1 p1)) rfl (by kernel_rfl) (by kernel_rfl) (by kernel_rfl) (by kernel_rfl) (bin_shl _ _ _ _ _ (chk_some e_4)) ?_
      refine Runs.all (by kernel_rfl) ?_
      refine thenN ?_
      refine Wp.le (Le.of (s := ⟨[(4, .t (.int .i64 (bOr .i64 p0 (bShl .i64 1 p1))))], [], []⟩) (mo := []) (mr := []) (by kernel_rfl) (by kernel_rfl) (by kernel_rfl) (by kernel_rfl)) ?_
      refine Wp.ret ?_
      have hr := Option.some.inj h
      subst hr
      exact RetK [.t (.int .i64 (bOr .i64 p0 (bShl .i64 1 p1)))] (.one (.t (.int .i64 (bOr .i64 p0 (bShl .i64 1 p1))))) [] (by kernel_rfl) (by kernel_rfl) (.refl _) .nil
  · refine Wp.regionS (pOf []) (rhoOf []) (by kernel_rfl) ?_
    refine Runs.batch 1 (by kernel_rfl) ?_
    obtain ⟨r1, e_r1, h⟩ := bind_some h
    refine Runs.callK false 6 171 [] [.t (.int .i64 p0)] [.one (.t (.int .i64 p0))] (.one (.t (.bool r1))) [] rfl rfl (by kernel_rfl) (by kernel_rfl) (by kernel_rfl) (by kernel_rfl) (by kernel_rfl) (spec_SetOk_ok u p0 r1 e_r1) (by kernel_rfl) ?_
    refine Runs.batch 2 (by kernel_rfl) ?_
    rcases tf (!r1) with hc | hc
    · have h := cond_t h hc
      refine Runs.known 8 (v := true) (by kernel_rfl) hc ?_
      refine Runs.all (by kernel_rfl) ?_
      refine thenN ?_
      exact ⟨(p0, p1, true), h, Le.of (mo := []) (mr := []) (by kernel_rfl) (by kernel_rfl) (by kernel_rfl) (by kernel_rfl)⟩
    · have h := cond_f h hc
      refine Runs.known 8 (v := false) (by kernel_rfl) hc ?_
      refine Runs.batch 1 (by kernel_rfl) ?_
      obtain ⟨r2, e_r2, h⟩ := bind_some h
      refine Runs.callK false 10 79 [] [.t (.int .i64 p1), .t (.int .i64 0), .t (.int .i64 39)] [.one (.t (.int .i64 p1)), .one (.t (.int .i64 0)), .one (.t (.int .i64 39))] (.one (.t (.bool r2))) [] rfl rfl (by kernel_rfl) (by kernel_rfl) (by kernel_rfl) (by kernel_rfl) (by kernel_rfl) (spec_l1In_ok u p1 0 39 r2 e_r2) (by kernel_rfl) ?_
      refine Runs.all (by kernel_rfl) ?_
      refine thenN ?_
      exact ⟨(p0, p1, !r2), h, Le.of (mo := []) (mr := []) (by kernel_rfl) (by kernel_rfl) (by kernel_rfl) (by kernel_rfl)⟩
theorem spec_Found_ok (u : Nat) (p0 : List Int) (p1 : Manifest) (r : Int) (h : spec_Found u p0 p1 = some r) : CallOK Try.prog 140 [.one (.t (.sl 1 (p0.map (eInt .u8)))), .agg [.t (.int .i64 p1.fGen), .t (.int .i64 p1.fSize), .t (.int .i64 p1.fLen), .t (.sl 2 (p1.fSums.map Sum.enc))]] (.one (.t (.int .i64 r))) [] := by
  unfold spec_Found at h
  refine CallOK.of_bodyK (fn := Try.f140) (m := false) [.t (.sl 1 (p0.map (eInt .u8))), .agg [.t (.int .i64 p1.fGen), .t (.int .i64 p1.fSize), .t (.int .i64 p1.fLen), .t (.sl 2 (p1.fSums.map Sum.enc))]] (by kernel_rfl) rfl (by kernel_rfl) (by kernel_rfl) (by kernel_rfl) (by kernel_rfl) (by kernel_rfl) ?_
  refine Wp.seq ?_
  refine Wp.regionS (pOf []) (rhoOf []) (by kernel_rfl) ?_
  refine Runs.all (by kernel_rfl) ?_
  refine thenN ?_
  refine Wp.le (Le.of (s := ⟨[(0, .t (.sl 1 (p0.map (eInt .u8)))), (3, .obj 3 0), (4, .t (.int .i64 0))], [(3, [.t (.int .i64 p1.fGen), .t (.int .i64 p1.fSize), .t (.int .i64 p1.fLen), .t (.sl 2 (p1.fSums.map Sum.enc))])], []⟩) (mo := []) (mr := []) (by kernel_rfl) (by kernel_rfl) (by kernel_rfl) (by kernel_rfl)) ?_
  refine Wp.seq ?_
  refine Wp.regionS (pOf []) (rhoOf []) (by kernel_rfl) ?_
  refine Runs.all (by kernel_rfl) ?_
  refine thenN ?_
  refine Wp.le (Le.of (s := ⟨[(0, .t (.sl 1 (p0.map (eInt .u8)))), (3, .obj 3 0), (4, .t (.int .i64 0)), (5, .t (.int .i64 0))], [(3, [.t (.int .i64 p1.fGen), .t (.int .i64 p1.fSize), .t (.int .i64 p1.fLen), .t (.sl 2 (p1.fSums.map Sum.enc))])], []⟩) (mo := []) (mr := []) (by kernel_rfl) (by kernel_rfl) (by kernel_rfl) (by kernel_rfl)) ?_
  refine Wp.seqJ (α := Int) (fun a => ⟨[(4, .t (.int .i64 0)), (5, .t (.int .i64 a))], [], []⟩) (fun a => spec_Found_j1 u a = some r) ?_ ?_
  · rintro x12 h
    change spec_Found_j1 u x12 = some r at h
    unfold spec_Found_j1 at h
    refine Wp.seq ?_
    refine Wp.regionS (pOf []) (rhoOf []) (by kernel_rfl) ?_
    refine Runs.all (by kernel_rfl) ?_
    refine thenN ?_
    refine Wp.le (Le.of (s := ⟨[(4, .t (.int .i64 x12))], [], []⟩) (mo := []) (mr := []) (by kernel_rfl) (by kernel_rfl) (by kernel_rfl) (by kernel_rfl)) ?_
    refine Wp.ret ?_
    have hr := Option.some.inj h
    subst hr
    exact RetK [.t (.int .i64 x12)] (.one (.t (.int .i64 x12))) [] (by kernel_rfl) (by kernel_rfl) (.refl _) .nil
  · refine Wp.seq ?_
    refine Wp.regionS (pOf []) (rhoOf []) (by kernel_rfl) ?_
    refine Runs.all (by kernel_rfl) ?_
    refine thenN ?_
    refine Wp.le (Le.of (s := ⟨[(0, .t (.sl 1 (p0.map (eInt .u8)))), (3, .obj 3 0), (4, .t (.int .i64 0)), (5, .t (.int .i64 0)), (6, .t (.int .i64 0))], [(3, [.t (.int .i64 p1.fGen), .t (.int .i64 p1.fSize), .t (.int .i64 p1.fLen), .t (.sl 2 (p1.fSums.map Sum.enc))])], []⟩) (mo := []) (mr := []) (by kernel_rfl) (by kernel_rfl) (by kernel_rfl) (by kernel_rfl)) ?_
    refine Wp.block ?_
    refine Wp.loopF (α := (List Int) × Int × Int × Manifest) (fun a => ⟨[(0, .t (.sl 1 (a.1.map (eInt .u8)))), (3, .obj 3 0), (4, .t (.int .i64 0)), (5, .t (.int .i64 a.2.1)), (6, .t (.int .i64 a.2.2.1))], [(3, [.t (.int .i64 a.2.2.2.fGen), .t (.int .i64 a.2.2.2.fSize), .t (.int .i64 a.2.2.2.fLen), .t (.sl 2 (a.2.2.2.fSums.map Sum.enc))])], []⟩) (fun k_spec_Found_l2 a => spec_Found_l2 u k_spec_Found_l2 a.1 a.2.1 a.2.2.1 a.2.2.2 = some r) ?_ ?_ u (p0, 0, 0, p1) h (Le.of (mo := []) (mr := []) (by kernel_rfl) (by kernel_rfl) (by kernel_rfl) (by kernel_rfl))
    · intro a h; unfold spec_Found_l2 at h; cases h
    · rintro k_spec_Found_l2 ⟨p0, x3, x4, p1⟩ h
      change spec_Found_l2 u (k_spec_Found_l2 + 1) p0 x3 x4 p1 = some r at h
      rw [spec_Found_l2] at h
      refine Wp.seq ?_
      refine Wp.seqJ (α := (List Int) × Int × Int × Manifest × Bool × Bool) (fun a => ⟨[(0, .t (.sl 1 (a.1.map (eInt .u8)))), (3, .obj 3 0), (4, .t (.int .i64 0)), (5, .t (.int .i64 a.2.1)), (6, .t (.int .i64 a.2.2.1)), (7, .t (.int .i64 a.2.2.1)), (8, .obj 3 3), (9, .t (.sl 2 (a.2.2.2.1.fSums.map Sum.enc))), (10, .t (.int .i64 ((a.2.2.2.1.fSums.length : Int)))), (11, .t (.bool (decide (a.2.2.1 < ((a.2.2.2.1.fSums.length : Int)))))), (12, .t (.bool a.2.2.2.2.1)), (15, .t (.bool a.2.2.2.2.2))], [(3, [.t (.int .i64 a.2.2.2.1.fGen), .t (.int .i64 a.2.2.2.1.fSize), .t (.int .i64 a.2.2.2.1.fLen), .t (.sl 2 (a.2.2.2.1.fSums.map Sum.enc))])], []⟩) (fun a => spec_Found_j3 u (fun z0 z1 z2 z3 => spec_Found_l2 u k_spec_Found_l2 z0 z1 z2 z3) a.1 a.2.1 a.2.2.1 a.2.2.2.1 a.2.2.2.2.1 a.2.2.2.2.2 = some r) ?_ ?_
      · rintro ⟨p0, x3, x4, p1, x7, x8⟩ h
        change spec_Found_j3 u (fun z0 z1 z2 z3 => spec_Found_l2 u k_spec_Found_l2 z0 z1 z2 z3) p0 x3 x4 p1 x7 x8 = some r at h
        unfold spec_Found_j3 at h
        refine Wp.cond2 (b := x8) (by kernel_rfl) (fun hc => ?_) (fun hc => ?_)
        · have h := cond_t h hc
          refine Wp.skip ?_
          refine thenN ?_
          refine Wp.seqJ (α := (List Int) × Int × Int × Manifest × Bool × Bool × Int) (fun a => ⟨[(0, .t (.sl 1 (a.1.map (eInt .u8)))), (3, .obj 3 0), (4, .t (.int .i64 0)), (5, .t (.int .i64 a.2.1)), (6, .t (.int .i64 a.2.2.1)), (7, .t (.int .i64 a.2.2.1)), (8, .obj 3 3), (9, .t (.sl 2 (a.2.2.2.1.fSums.map Sum.enc))), (10, .t (.int .i64 ((a.2.2.2.1.fSums.length : Int)))), (11, .t (.bool (decide (a.2.2.1 < ((a.2.2.2.1.fSums.length : Int)))))), (12, .t (.bool a.2.2.2.2.1)), (15, .t (.bool a.2.2.2.2.2.1)), (18, .t (.sl 1 (a.1.map (eInt .u8)))), (19, .agg [.t (.int .i64 a.2.2.2.1.fGen), .t (.int .i64 a.2.2.2.1.fSize), .t (.int .i64 a.2.2.2.1.fLen), .t (.sl 2 (a.2.2.2.1.fSums.map Sum.enc))]), (20, .t (.int .i64 a.2.2.1)), (21, .t (.int .i64 a.2.2.2.2.2.2)), (22, .t (.bool (decide (a.2.2.2.2.2.2 ≥ 0))))], [(3, [.t (.int .i64 a.2.2.2.1.fGen), .t (.int .i64 a.2.2.2.1.fSize), .t (.int .i64 a.2.2.2.1.fLen), .t (.sl 2 (a.2.2.2.1.fSums.map Sum.enc))])], []⟩) (fun a => spec_Found_j4 u (fun z0 z1 z2 z3 => spec_Found_l2 u k_spec_Found_l2 z0 z1 z2 z3) a.1 a.2.1 a.2.2.1 a.2.2.2.1 a.2.2.2.2.1 a.2.2.2.2.2.1 a.2.2.2.2.2.2 = some r) ?_ ?_
          · rintro ⟨p0, x11, x4, p1, x7, x8, r9⟩ h
            change spec_Found_j4 u (fun z0 z1 z2 z3 => spec_Found_l2 u k_spec_Found_l2 z0 z1 z2 z3) p0 x11 x4 p1 x7 x8 r9 = some r at h
            unfold spec_Found_j4 at h
            refine Wp.regionS (pOf []) (rhoOf []) (by kernel_rfl) ?_
            refine Runs.all (by kernel_rfl) ?_
            refine thenN ?_
            exact ⟨(p0, x11, bAdd .i64 x4 1, p1), h, Le.of (mo := []) (mr := []) (by kernel_rfl) (by kernel_rfl) (by kernel_rfl) (by kernel_rfl)⟩
          · refine Wp.block ?_
            refine Wp.seq ?_
            refine Wp.regionS (pOf []) (rhoOf []) (by kernel_rfl) ?_
            refine Runs.batch 3 (by kernel_rfl) ?_
            obtain ⟨r9, e_r9, h⟩ := bind_some h
            refine Runs.callK false 21 172 [] [.t (.sl 1 (p0.map (eInt .u8))), .agg [.t (.int .i64 p1.fGen), .t (.int .i64 p1.fSize), .t (.int .i64 p1.fLen), .t (.sl 2 (p1.fSums.map Sum.enc))], .t (.int .i64 x4)] [.one (.t (.sl 1 (p0.map (eInt .u8)))), .agg [.t (.int .i64 p1.fGen), .t (.int .i64 p1.fSize), .t (.int .i64 p1.fLen), .t (.sl 2 (p1.fSums.map Sum.enc))], .one (.t (.int .i64 x4))] (.one (.t (.int .i64 r9))) [] rfl rfl (by kernel_rfl) (by kernel_rfl) (by kernel_rfl) (by kernel_rfl) (by kernel_rfl) (spec_PlaceOf_ok u p0 p1 x4 r9 e_r9) (by kernel_rfl) ?_
            refine Runs.all (by kernel_rfl) ?_
            refine thenN ?_
            refine Wp.le (Le.of (s := ⟨[(0, .t (.sl 1 (p0.map (eInt .u8)))), (3, .obj 3 0), (4, .t (.int .i64 0)), (5, .t (.int .i64 x3)), (6, .t (.int .i64 x4)), (7, .t (.int .i64 x4)), (8, .obj 3 3), (9, .t (.sl 2 (p1.fSums.map Sum.enc))), (10, .t (.int .i64 ((p1.fSums.length : Int)))), (11, .t (.bool (decide (x4 < ((p1.fSums.length : Int)))))), (12, .t (.bool x7)), (15, .t (.bool x8)), (18, .t (.sl 1 (p0.map (eInt .u8)))), (19, .agg [.t (.int .i64 p1.fGen), .t (.int .i64 p1.fSize), .t (.int .i64 p1.fLen), .t (.sl 2 (p1.fSums.map Sum.enc))]), (20, .t (.int .i64 x4)), (21, .t (.int .i64 r9)), (22, .t (.bool (decide (r9 ≥ 0))))], [(3, [.t (.int .i64 p1.fGen), .t (.int .i64 p1.fSize), .t (.int .i64 p1.fLen), .t (.sl 2 (p1.fSums.map Sum.enc))])], []⟩) (mo := []) (mr := []) (by kernel_rfl) (by kernel_rfl) (by kernel_rfl) (by kernel_rfl)) ?_
            refine Wp.cond2 (b := decide (r9 ≥ 0)) (by kernel_rfl) (fun hc => ?_) (fun hc => ?_)
            · have h := cond_t h hc
              refine Wp.regionS (pOf []) (rhoOf []) (by kernel_rfl) ?_
              refine Runs.batch 2 (by kernel_rfl) ?_
              obtain ⟨r10, e_r10, h⟩ := bind_some h
              refine Runs.callK false 25 173 [] [.t (.int .i64 x3), .t (.int .i64 x4)] [.one (.t (.int .i64 x3)), .one (.t (.int .i64 x4))] (.one (.t (.int .i64 r10))) [] rfl rfl (by kernel_rfl) (by kernel_rfl) (by kernel_rfl) (by kernel_rfl) (by kernel_rfl) (spec_WithPart_ok u x3 x4 r10 e_r10) (by kernel_rfl) ?_
              refine Runs.all (by kernel_rfl) ?_
              refine blkN ?_
              refine thenN ?_
              exact ⟨(p0, r10, x4, p1, x7, x8, r9), h, Le.of (mo := []) (mr := []) (by kernel_rfl) (by kernel_rfl) (by kernel_rfl) (by kernel_rfl)⟩
            · have h := cond_f h hc
              refine Wp.skip ?_
              refine blkN ?_
              refine thenN ?_
              exact ⟨(p0, x3, x4, p1, x7, x8, r9), h, Le.of (mo := []) (mr := []) (by kernel_rfl) (by kernel_rfl) (by kernel_rfl) (by kernel_rfl)⟩
        · have h := cond_f h hc
          refine Wp.exit ?_
          refine thenE ?_
          refine thenE ?_
          refine blkE ?_
          refine thenN ?_
          exact ⟨x3, h, Le.of (mo := []) (mr := []) (by kernel_rfl) (by kernel_rfl) (by kernel_rfl) (by kernel_rfl)⟩
      · refine Wp.regionS (pOf []) (rhoOf []) (by kernel_rfl) ?_
        refine Runs.batch 3 (by kernel_rfl) ?_
        refine Runs.lenT (y := .t (.sl 2 (p1.fSums.map Sum.enc))) (e := 166) Sum.enc p1.fSums 2 rfl rfl rfl (by kernel_rfl) (by kernel_rfl) (by kernel_rfl) (by kernel_rfl) (by kernel_rfl) ?_
        refine Runs.batch 2 (by kernel_rfl) ?_
        rcases tf (decide (x4 < ((p1.fSums.length : Int)))) with hc | hc
        · have h := cond_t h hc
          refine Runs.known 12 (v := true) (by kernel_rfl) hc ?_
          refine Runs.all (by kernel_rfl) ?_
          refine thenN ?_
          exact ⟨(p0, x3, x4, p1, true, decide (x4 < 40)), h, Le.of (mo := []) (mr := []) (by kernel_rfl) (by kernel_rfl) (by kernel_rfl) (by kernel_rfl)⟩
        · have h := cond_f h hc
          refine Runs.known 12 (v := false) (by kernel_rfl) hc ?_
          refine Runs.all (by kernel_rfl) ?_
          refine thenN ?_
          exact ⟨(p0, x3, x4, p1, false, false), h, Le.of (mo := []) (mr := []) (by kernel_rfl) (by kernel_rfl) (by kernel_rfl) (by kernel_rfl)⟩
theorem spec_Without_ok (u : Nat) (p0 : Int) (p1 : Int) (r : Int) (h : spec_Without u p0 p1 = some r) : CallOK Try.prog 137 [.one (.t (.int .i64 p0)), .one (.t (.int .i64 p1))] (.one (.t (.int .i64 r))) [] := by
  unfold spec_Without at h
  refine CallOK.of_bodyK (fn := Try.f137) (m := false) [.t (.int .i64 p0), .t (.int .i64 p1)] (by kernel_rfl) rfl (by kernel_rfl) (by kernel_rfl) (by kernel_rfl) (by kernel_rfl) (by kernel_rfl) ?_
  refine Wp.seq ?_
  refine Wp.regionS (pOf []) (rhoOf []) (by kernel_rfl) ?_
  refine Runs.all (by kernel_rfl) ?_
  refine thenN ?_
  refine Wp.le (Le.of (s := ⟨[(0, .t (.int .i64 p0)), (1, .t (.int .i64 p1)), (4, .t (.int .i64 0))], [], []⟩) (mo := []) (mr := []) (by kernel_rfl) (by kernel_rfl) (by kernel_rfl) (by kernel_rfl)) ?_
  refine Wp.seq ?_
  refine Wp.seqJ (α := Int × Int × Bool) (fun a => ⟨[(0, .t (.int .i64 a.1)), (1, .t (.int .i64 a.2.1)), (4, .t (.int .i64 0)), (12, .t (.bool a.2.2))], [], []⟩) (fun a => spec_Without_j1 u a.1 a.2.1 a.2.2 = some r) ?_ ?_
  · rintro ⟨p0, p1, x3⟩ h
    change spec_Without_j1 u p0 p1 x3 = some r at h
    unfold spec_Without_j1 at h
    refine Wp.cond2 (b := x3) (by kernel_rfl) (fun hc => ?_) (fun hc => ?_)
    · have h := cond_t h hc
      refine Wp.seq ?_
      refine Wp.regionS (pOf []) (rhoOf []) (by kernel_rfl) ?_
      refine Runs.all (by kernel_rfl) ?_
      refine thenN ?_
      refine Wp.le (Le.of (s := ⟨[(0, .t (.int .i64 p0)), (1, .t (.int .i64 p1)), (4, .t (.int .i64 0))], [], []⟩) (mo := []) (mr := []) (by kernel_rfl) (by kernel_rfl) (by kernel_rfl) (by kernel_rfl)) ?_
      refine Wp.ret ?_
      refine thenR ?_
      have hr := Option.some.inj h
      subst hr
      exact RetK [.t (.int .i64 0)] (.one (.t (.int .i64 0))) [] (by kernel_rfl) (by kernel_rfl) (.refl _) .nil
    · have h := cond_f h hc
      refine Wp.skip ?_
      refine thenN ?_
      refine Wp.seq ?_
      refine Wp.regionS (pOf []) (rhoOf []) (by kernel_rfl) ?_
      refine Runs.all (by kernel_rfl) ?_
      refine thenN ?_
      refine Wp.le (Le.of (s := ⟨[(4, .t (.int .i64 (bAndNot .i64 p0 p1)))], [], []⟩) (mo := []) (mr := []) (by kernel_rfl) (by kernel_rfl) (by kernel_rfl) (by kernel_rfl)) ?_
      refine Wp.ret ?_
      have hr := Option.some.inj h
      subst hr
      exact RetK [.t (.int .i64 (bAndNot .i64 p0 p1))] (.one (.t (.int .i64 (bAndNot .i64 p0 p1)))) [] (by kernel_rfl) (by kernel_rfl) (.refl _) .nil
  · refine Wp.regionS (pOf []) (rhoOf []) (by kernel_rfl) ?_
    refine Runs.batch 1 (by kernel_rfl) ?_
    obtain ⟨r1, e_r1, h⟩ := bind_some h
    refine Runs.callK false 6 171 [] [.t (.int .i64 p0)] [.one (.t (.int .i64 p0))] (.one (.t (.bool r1))) [] rfl rfl (by kernel_rfl) (by kernel_rfl) (by kernel_rfl) (by kernel_rfl) (by kernel_rfl) (spec_SetOk_ok u p0 r1 e_r1) (by kernel_rfl) ?_
    refine Runs.batch 2 (by kernel_rfl) ?_
    rcases tf (!r1) with hc | hc
    · have h := cond_t h hc
      refine Runs.known 8 (v := true) (by kernel_rfl) hc ?_
      refine Runs.all (by kernel_rfl) ?_
      refine thenN ?_
      exact ⟨(p0, p1, true), h, Le.of (mo := []) (mr := []) (by kernel_rfl) (by kernel_rfl) (by kernel_rfl) (by kernel_rfl)⟩
    · have h := cond_f h hc
      refine Runs.known 8 (v := false) (by kernel_rfl) hc ?_
      refine Runs.batch 1 (by kernel_rfl) ?_
      obtain ⟨r2, e_r2, h⟩ := bind_some h
      refine Runs.callK false 10 171 [] [.t (.int .i64 p1)] [.one (.t (.int .i64 p1))] (.one (.t (.bool r2))) [] rfl rfl (by kernel_rfl) (by kernel_rfl) (by kernel_rfl) (by kernel_rfl) (by kernel_rfl) (spec_SetOk_ok u p1 r2 e_r2) (by kernel_rfl) ?_
      refine Runs.all (by kernel_rfl) ?_
      refine thenN ?_
      exact ⟨(p0, p1, !r2), h, Le.of (mo := []) (mr := []) (by kernel_rfl) (by kernel_rfl) (by kernel_rfl) (by kernel_rfl)⟩
theorem spec_Lacking_ok (u : Nat) (p0 : List Int) (p1 : Manifest) (r : Int) (h : spec_Lacking u p0 p1 = some r) : CallOK Try.prog 100 [.one (.t (.sl 1 (p0.map (eInt .u8)))), .agg [.t (.int .i64 p1.fGen), .t (.int .i64 p1.fSize), .t (.int .i64 p1.fLen), .t (.sl 2 (p1.fSums.map Sum.enc))]] (.one (.t (.int .i64 r))) [] := by
  unfold spec_Lacking at h
  refine CallOK.of_bodyK (fn := Try.f100) (m := false) [.t (.sl 1 (p0.map (eInt .u8))), .agg [.t (.int .i64 p1.fGen), .t (.int .i64 p1.fSize), .t (.int .i64 p1.fLen), .t (.sl 2 (p1.fSums.map Sum.enc))]] (by kernel_rfl) rfl (by kernel_rfl) (by kernel_rfl) (by kernel_rfl) (by kernel_rfl) (by kernel_rfl) ?_
  refine Wp.seq ?_
  refine Wp.regionS (pOf []) (rhoOf []) (by kernel_rfl) ?_
  refine Runs.all (by kernel_rfl) ?_
  refine thenN ?_
  refine Wp.le (Le.of (s := ⟨[(0, .t (.sl 1 (p0.map (eInt .u8)))), (3, .obj 3 0), (4, .t (.int .i64 0))], [(3, [.t (.int .i64 p1.fGen), .t (.int .i64 p1.fSize), .t (.int .i64 p1.fLen), .t (.sl 2 (p1.fSums.map Sum.enc))])], []⟩) (mo := []) (mr := []) (by kernel_rfl) (by kernel_rfl) (by kernel_rfl) (by kernel_rfl)) ?_
  refine Wp.seq ?_
  refine Wp.regionA (pOf []) (rhoOf [(0, .frz), (3, .obj 3), (5, .obj 3), (6, .frz), (7, .frz), (8, .frz), (9, .frz), (10, .frz), (11, .frz), (12, .frz), (13, .frz)]) (by kernel_rfl) (by kernel_rfl) ?_
  refine Runs.batch 2 (by kernel_rfl) ?_
  refine Runs.lenT (y := .t (.sl 2 (p1.fSums.map Sum.enc))) (e := 166) Sum.enc p1.fSums 2 rfl rfl rfl (by kernel_rfl) (by kernel_rfl) (by kernel_rfl) (by kernel_rfl) (by kernel_rfl) ?_
  obtain ⟨r1, e_r1, h⟩ := bind_some h
  refine Runs.callK false 8 139 [] [.t (.int .i64 ((p1.fSums.length : Int))), .t (.int .i64 40)] [.one (.t (.int .i64 ((p1.fSums.length : Int)))), .one (.t (.int .i64 40))] (.one (.t (.int .i64 r1))) [] rfl rfl (by kernel_rfl) (by kernel_rfl) (by kernel_rfl) (by kernel_rfl) (by kernel_rfl) (spec_Least_ok u ((p1.fSums.length : Int)) 40 r1 e_r1) (by kernel_rfl) ?_
  obtain ⟨r2, e_r2, h⟩ := bind_some h
  refine Runs.callK false 9 138 [] [.t (.int .i64 r1)] [.one (.t (.int .i64 r1))] (.one (.t (.int .i64 r2))) [] rfl rfl (by kernel_rfl) (by kernel_rfl) (by kernel_rfl) (by kernel_rfl) (by kernel_rfl) (spec_FullSet_ok u r1 r2 e_r2) (by kernel_rfl) ?_
  refine Runs.batch 2 (by kernel_rfl) ?_
  obtain ⟨r3, e_r3, h⟩ := bind_some h
  refine Runs.callK false 12 140 [] [.t (.sl 1 (p0.map (eInt .u8))), .agg [.t (.int .i64 p1.fGen), .t (.int .i64 p1.fSize), .t (.int .i64 p1.fLen), .t (.sl 2 (p1.fSums.map Sum.enc))]] [.one (.t (.sl 1 (p0.map (eInt .u8)))), .agg [.t (.int .i64 p1.fGen), .t (.int .i64 p1.fSize), .t (.int .i64 p1.fLen), .t (.sl 2 (p1.fSums.map Sum.enc))]] (.one (.t (.int .i64 r3))) [] rfl rfl (by kernel_rfl) (by kernel_rfl) (by kernel_rfl) (by kernel_rfl) (by kernel_rfl) (spec_Found_ok u p0 p1 r3 e_r3) (by kernel_rfl) ?_
  obtain ⟨r4, e_r4, h⟩ := bind_some h
  refine Runs.callK false 13 137 [] [.t (.int .i64 r2), .t (.int .i64 r3)] [.one (.t (.int .i64 r2)), .one (.t (.int .i64 r3))] (.one (.t (.int .i64 r4))) [] rfl rfl (by kernel_rfl) (by kernel_rfl) (by kernel_rfl) (by kernel_rfl) (by kernel_rfl) (spec_Without_ok u r2 r3 r4 e_r4) (by kernel_rfl) ?_
  refine Runs.all (by kernel_rfl) ?_
  refine thenN ?_
  refine Wp.le (Le.of (s := ⟨[(4, .t (.int .i64 r4))], [], []⟩) (mo := []) (mr := []) (by kernel_rfl) (by kernel_rfl) (by kernel_rfl) (by kernel_rfl)) ?_
  refine Wp.ret ?_
  have hr := Option.some.inj h
  subst hr
  exact RetK [.t (.int .i64 r4)] (.one (.t (.int .i64 r4))) [] (by kernel_rfl) (by kernel_rfl) (.refl _) .nil
theorem spec_InSet_ok (u : Nat) (p0 : Int) (p1 : Int) (r : Bool) (h : spec_InSet u p0 p1 = some r) : CallOK Try.prog 136 [.one (.t (.int .i64 p0)), .one (.t (.int .i64 p1))] (.one (.t (.bool r))) [] := by
  unfold spec_InSet at h
  refine CallOK.of_bodyK (fn := Try.f136) (m := false) [.t (.int .i64 p0), .t (.int .i64 p1)] (by kernel_rfl) rfl (by kernel_rfl) (by kernel_rfl) (by kernel_rfl) (by kernel_rfl) (by kernel_rfl) ?_
  refine Wp.seq ?_
  refine Wp.regionS (pOf []) (rhoOf []) (by kernel_rfl) ?_
  refine Runs.all (by kernel_rfl) ?_
  refine thenN ?_
  refine Wp.le (Le.of (s := ⟨[(0, .t (.int .i64 p0)), (1, .t (.int .i64 p1)), (4, .t (.bool false))], [], []⟩) (mo := []) (mr := []) (by kernel_rfl) (by kernel_rfl) (by kernel_rfl) (by kernel_rfl)) ?_
  refine Wp.seq ?_
  refine Wp.regionS (pOf []) (rhoOf []) (by kernel_rfl) ?_
  refine Runs.batch 1 (by kernel_rfl) ?_
  obtain ⟨r1, e_r1, h⟩ := bind_some h
  refine Runs.callK false 6 171 [] [.t (.int .i64 p0)] [.one (.t (.int .i64 p0))] (.one (.t (.bool r1))) [] rfl rfl (by kernel_rfl) (by kernel_rfl) (by kernel_rfl) (by kernel_rfl) (by kernel_rfl) (spec_SetOk_ok u p0 r1 e_r1) (by kernel_rfl) ?_
  refine Runs.batch 1 (by kernel_rfl) ?_
  rcases tf (r1) with hc | hc
  · have h := cond_t h hc
    refine Runs.known 7 (v := true) (by kernel_rfl) hc ?_
    refine Runs.batch 1 (by kernel_rfl) ?_
    obtain ⟨r2, e_r2, h⟩ := bind_some h
    refine Runs.callK false 9 79 [] [.t (.int .i64 p1), .t (.int .i64 0), .t (.int .i64 39)] [.one (.t (.int .i64 p1)), .one (.t (.int .i64 0)), .one (.t (.int .i64 39))] (.one (.t (.bool r2))) [] rfl rfl (by kernel_rfl) (by kernel_rfl) (by kernel_rfl) (by kernel_rfl) (by kernel_rfl) (spec_l1In_ok u p1 0 39 r2 e_r2) (by kernel_rfl) ?_
    refine Runs.batch 2 (by kernel_rfl) ?_
    rcases tf (r2) with hc | hc
    · have h := cond_t h hc
      refine Runs.known 11 (v := true) (by kernel_rfl) hc ?_
      refine Runs.batch 2 (by kernel_rfl) ?_
      obtain ⟨_, e_3, h⟩ := bind_some h
      refine Runs.num .shr (.int .i64 p0) (.int .i64 p1) (.int .i64 (bShr .i64 p0 p1)) rfl (by kernel_rfl) (by kernel_rfl) (by kernel_rfl) (by kernel_rfl) (bin_shr _ _ _ _ _ (chk_some e_3)) ?_
      refine Runs.all (by kernel_rfl) ?_
      refine thenN ?_
      refine Wp.le (Le.of (s := ⟨[(4, .t (.bool ((bAnd .i64 (bShr .i64 p0 p1) 1) == 1)))], [], []⟩) (mo := []) (mr := []) (by kernel_rfl) (by kernel_rfl) (by kernel_rfl) (by kernel_rfl)) ?_
      refine Wp.ret ?_
      have hr := Option.some.inj h
      subst hr
      exact RetK [.t (.bool ((bAnd .i64 (bShr .i64 p0 p1) 1) == 1))] (.one (.t (.bool ((bAnd .i64 (bShr .i64 p0 p1) 1) == 1)))) [] (by kernel_rfl) (by kernel_rfl) (.refl _) .nil
    · have h := cond_f h hc
      refine Runs.known 11 (v := false) (by kernel_rfl) hc ?_
      refine Runs.all (by kernel_rfl) ?_
      refine thenN ?_
      refine Wp.le (Le.of (s := ⟨[(4, .t (.bool false))], [], []⟩) (mo := []) (mr := []) (by kernel_rfl) (by kernel_rfl) (by kernel_rfl) (by kernel_rfl)) ?_
      refine Wp.ret ?_
      have hr := Option.some.inj h
      subst hr
      exact RetK [.t (.bool false)] (.one (.t (.bool false))) [] (by kernel_rfl) (by kernel_rfl) (.refl _) .nil
  · have h := cond_f h hc
    refine Runs.known 7 (v := false) (by kernel_rfl) hc ?_
    refine Runs.all (by kernel_rfl) ?_
    refine thenN ?_
    refine Wp.le (Le.of (s := ⟨[(4, .t (.bool false))], [], []⟩) (mo := []) (mr := []) (by kernel_rfl) (by kernel_rfl) (by kernel_rfl) (by kernel_rfl)) ?_
    refine Wp.ret ?_
    have hr := Option.some.inj h
    subst hr
    exact RetK [.t (.bool false)] (.one (.t (.bool false))) [] (by kernel_rfl) (by kernel_rfl) (.refl _) .nil
theorem spec_PartsIn_ok (u : Nat) (p0 : Int) (r : (List Int)) (h : spec_PartsIn u p0 = some r) : CallOK Try.prog 99 [.one (.t (.int .i64 p0))] (.one (.ow 3 1 (r.map (eInt .i64)))) [] := by
  unfold spec_PartsIn at h
  refine CallOK.of_bodyK (fn := Try.f99) (m := true) [.t (.int .i64 p0)] (by kernel_rfl) rfl (by kernel_rfl) (by kernel_rfl) (by kernel_rfl) (by kernel_rfl) (by kernel_rfl) ?_
  refine Wp.seq ?_
  refine Wp.regionS (pOf []) (rhoOf []) (by kernel_rfl) ?_
  refine Runs.all (by kernel_rfl) ?_
  refine thenN ?_
  refine Wp.le (Le.of (s := ⟨[(0, .t (.int .i64 p0)), (2, .nil)], [], []⟩) (mo := []) (mr := []) (by kernel_rfl) (by kernel_rfl) (by kernel_rfl) (by kernel_rfl)) ?_
  refine Wp.seq ?_
  refine Wp.regionS (pOf []) (rhoOf []) (by kernel_rfl) ?_
  refine Runs.all (by kernel_rfl) ?_
  refine thenN ?_
  refine Wp.le (Le.of (s := ⟨[(0, .t (.int .i64 p0)), (2, .nil), (3, .own 327680)], [], [(327680, .live 3 1 ((([] : List Int)).map (eInt .i64)))]⟩) (mo := []) (mr := []) (by kernel_rfl) (by kernel_rfl) (by kernel_rfl) (by kernel_rfl)) ?_
  refine Wp.seqJ (α := (List Int)) (fun a => ⟨[(2, .nil), (3, .own 196609)], [], [(196609, .live 3 1 (a.map (eInt .i64)))]⟩) (fun a => spec_PartsIn_j1 u a = some r) ?_ ?_
  · rintro x9 h
    change spec_PartsIn_j1 u x9 = some r at h
    unfold spec_PartsIn_j1 at h
    refine Wp.seq ?_
    refine Wp.regionS (pOf []) (rhoOf []) (by kernel_rfl) ?_
    refine Runs.all (by kernel_rfl) ?_
    refine thenN ?_
    refine Wp.le (Le.of (s := ⟨[(2, .own 196609)], [], [(196609, .live 3 1 (x9.map (eInt .i64)))]⟩) (mo := []) (mr := []) (by kernel_rfl) (by kernel_rfl) (by kernel_rfl) (by kernel_rfl)) ?_
    refine Wp.ret ?_
    have hr := Option.some.inj h
    subst hr
    exact RetK [.own 196609] (.one (.ow 3 1 (x9.map (eInt .i64)))) [] (by kernel_rfl) (by kernel_rfl) (.refl _) .nil
  · refine Wp.seq ?_
    refine Wp.regionS (pOf []) (rhoOf []) (by kernel_rfl) ?_
    refine Runs.all (by kernel_rfl) ?_
    refine thenN ?_
    refine Wp.le (Le.of (s := ⟨[(0, .t (.int .i64 p0)), (2, .nil), (3, .own 327680), (4, .t (.int .i64 0))], [], [(327680, .live 3 1 ((([] : List Int)).map (eInt .i64)))]⟩) (mo := []) (mr := []) (by kernel_rfl) (by kernel_rfl) (by kernel_rfl) (by kernel_rfl)) ?_
    refine Wp.block ?_
    refine Wp.loopF (α := Int × (List Int) × Int) (fun a => ⟨[(0, .t (.int .i64 a.1)), (2, .nil), (3, .own 196609), (4, .t (.int .i64 a.2.2))], [], [(196609, .live 3 1 (a.2.1.map (eInt .i64)))]⟩) (fun k_spec_PartsIn_l2 a => spec_PartsIn_l2 u k_spec_PartsIn_l2 a.1 a.2.1 a.2.2 = some r) ?_ ?_ u (p0, ([] : List Int), 0) h (Le.of (mo := []) (mr := [(196609, 327680)]) (by kernel_rfl) (by kernel_rfl) (by kernel_rfl) (by kernel_rfl))
    · intro a h; unfold spec_PartsIn_l2 at h; cases h
    · rintro k_spec_PartsIn_l2 ⟨p0, x3, x4⟩ h
      change spec_PartsIn_l2 u (k_spec_PartsIn_l2 + 1) p0 x3 x4 = some r at h
      rw [spec_PartsIn_l2] at h
      refine Wp.seq ?_
      refine Wp.seq ?_
      refine Wp.regionS (pOf []) (rhoOf []) (by kernel_rfl) ?_
      refine Runs.all (by kernel_rfl) ?_
      refine thenN ?_
      refine Wp.le (Le.of (s := ⟨[(0, .t (.int .i64 p0)), (2, .nil), (3, .own 196609), (4, .t (.int .i64 x4)), (6, .t (.int .i64 x4)), (7, .t (.bool (decide (x4 < 40))))], [], [(196609, .live 3 1 (x3.map (eInt .i64)))]⟩) (mo := []) (mr := []) (by kernel_rfl) (by kernel_rfl) (by kernel_rfl) (by kernel_rfl)) ?_
      refine Wp.cond2 (b := decide (x4 < 40)) (by kernel_rfl) (fun hc => ?_) (fun hc => ?_)
      · have h := cond_t h hc
        refine Wp.skip ?_
        refine thenN ?_
        refine Wp.seqJ (α := Int × (List Int) × Int × Bool) (fun a => ⟨[(0, .t (.int .i64 a.1)), (2, .nil), (3, .own 196609), (4, .t (.int .i64 a.2.2.1)), (6, .t (.int .i64 a.2.2.1)), (7, .t (.bool (decide (a.2.2.1 < 40)))), (10, .t (.int .i64 a.1)), (11, .t (.int .i64 a.2.2.1)), (12, .t (.bool a.2.2.2))], [], [(196609, .live 3 1 (a.2.1.map (eInt .i64)))]⟩) (fun a => spec_PartsIn_j3 u (fun z0 z1 z2 => spec_PartsIn_l2 u k_spec_PartsIn_l2 z0 z1 z2) a.1 a.2.1 a.2.2.1 a.2.2.2 = some r) ?_ ?_
        · rintro ⟨p0, x8, x4, r7⟩ h
          change spec_PartsIn_j3 u (fun z0 z1 z2 => spec_PartsIn_l2 u k_spec_PartsIn_l2 z0 z1 z2) p0 x8 x4 r7 = some r at h
          unfold spec_PartsIn_j3 at h
          refine Wp.regionS (pOf []) (rhoOf []) (by kernel_rfl) ?_
          refine Runs.all (by kernel_rfl) ?_
          refine thenN ?_
          exact ⟨(p0, x8, bAdd .i64 x4 1), h, Le.of (mo := []) (mr := []) (by kernel_rfl) (by kernel_rfl) (by kernel_rfl) (by kernel_rfl)⟩
        · refine Wp.block ?_
          refine Wp.seq ?_
          refine Wp.regionS (pOf []) (rhoOf []) (by kernel_rfl) ?_
          refine Runs.batch 2 (by kernel_rfl) ?_
          obtain ⟨r7, e_r7, h⟩ := bind_some h
          refine Runs.callK false 12 136 [] [.t (.int .i64 p0), .t (.int .i64 x4)] [.one (.t (.int .i64 p0)), .one (.t (.int .i64 x4))] (.one (.t (.bool r7))) [] rfl rfl (by kernel_rfl) (by kernel_rfl) (by kernel_rfl) (by kernel_rfl) (by kernel_rfl) (spec_InSet_ok u p0 x4 r7 e_r7) (by kernel_rfl) ?_
          refine Runs.done ?_
          refine thenN ?_
          refine Wp.le (Le.of (s := ⟨[(0, .t (.int .i64 p0)), (2, .nil), (3, .own 196609), (4, .t (.int .i64 x4)), (6, .t (.int .i64 x4)), (7, .t (.bool (decide (x4 < 40)))), (10, .t (.int .i64 p0)), (11, .t (.int .i64 x4)), (12, .t (.bool r7))], [], [(196609, .live 3 1 (x3.map (eInt .i64)))]⟩) (mo := []) (mr := []) (by kernel_rfl) (by kernel_rfl) (by kernel_rfl) (by kernel_rfl)) ?_
          refine Wp.cond2 (b := r7) (by kernel_rfl) (fun hc => ?_) (fun hc => ?_)
          · have h := cond_t h hc
            refine Wp.regionS (pOf []) (rhoOf []) (by kernel_rfl) ?_
            refine Runs.batch 3 (by kernel_rfl) ?_
            obtain ⟨_, e_8, h⟩ := bind_some h
            refine Runs.appT (y := .own 983040) (eInt .i64) 16 1 3 1 8 196609 x3 ([x4]) rfl rfl rfl rfl (by kernel_rfl) (by kernel_rfl) (by kernel_rfl) (by kernel_rfl) (by kernel_rfl) (by kernel_rfl) (.inl rfl) (by kernel_rfl) (of_decide_eq_true (chk_some e_8)) (by kernel_rfl) (by kernel_rfl) ?_
            refine Runs.all (by kernel_rfl) ?_
            refine blkN ?_
            refine thenN ?_
            exact ⟨(p0, x3 ++ ([x4]), x4, r7), h, Le.of (mo := []) (mr := [(196609, 1048576)]) (by kernel_rfl) (by kernel_rfl) (by kernel_rfl) (by kernel_rfl)⟩
          · have h := cond_f h hc
            refine Wp.skip ?_
            refine blkN ?_
            refine thenN ?_
            exact ⟨(p0, x3, x4, r7), h, Le.of (mo := []) (mr := []) (by kernel_rfl) (by kernel_rfl) (by kernel_rfl) (by kernel_rfl)⟩
      · have h := cond_f h hc
        refine Wp.exit ?_
        refine thenE ?_
        refine thenE ?_
        refine blkE ?_
        refine thenN ?_
        exact ⟨x3, h, Le.of (mo := []) (mr := []) (by kernel_rfl) (by kernel_rfl) (by kernel_rfl) (by kernel_rfl)⟩
theorem spec_BytesLacking_ok (u : Nat) (p0 : List Int) (p1 : Manifest) (r : Int) (h : spec_BytesLacking u p0 p1 = some r) : CallOK Try.prog 46 [.one (.t (.sl 1 (p0.map (eInt .u8)))), .agg [.t (.int .i64 p1.fGen), .t (.int .i64 p1.fSize), .t (.int .i64 p1.fLen), .t (.sl 2 (p1.fSums.map Sum.enc))]] (.one (.t (.int .i64 r))) [] := by
  unfold spec_BytesLacking at h
  refine CallOK.of_bodyK (fn := Try.f46) (m := false) [.t (.sl 1 (p0.map (eInt .u8))), .agg [.t (.int .i64 p1.fGen), .t (.int .i64 p1.fSize), .t (.int .i64 p1.fLen), .t (.sl 2 (p1.fSums.map Sum.enc))]] (by kernel_rfl) rfl (by kernel_rfl) (by kernel_rfl) (by kernel_rfl) (by kernel_rfl) (by kernel_rfl) ?_
  refine Wp.seq ?_
  refine Wp.regionS (pOf []) (rhoOf []) (by kernel_rfl) ?_
  refine Runs.all (by kernel_rfl) ?_
  refine thenN ?_
  refine Wp.le (Le.of (s := ⟨[(0, .t (.sl 1 (p0.map (eInt .u8)))), (3, .obj 3 0), (4, .t (.int .i64 0))], [(3, [.t (.int .i64 p1.fGen), .t (.int .i64 p1.fSize), .t (.int .i64 p1.fLen), .t (.sl 2 (p1.fSums.map Sum.enc))])], []⟩) (mo := []) (mr := []) (by kernel_rfl) (by kernel_rfl) (by kernel_rfl) (by kernel_rfl)) ?_
  refine Wp.seq ?_
  refine Wp.regionS (pOf []) (rhoOf []) (by kernel_rfl) ?_
  refine Runs.all (by kernel_rfl) ?_
  refine thenN ?_
  refine Wp.le (Le.of (s := ⟨[(0, .t (.sl 1 (p0.map (eInt .u8)))), (3, .obj 3 0), (4, .t (.int .i64 0)), (5, .t (.int .i64 0))], [(3, [.t (.int .i64 p1.fGen), .t (.int .i64 p1.fSize), .t (.int .i64 p1.fLen), .t (.sl 2 (p1.fSums.map Sum.enc))])], []⟩) (mo := []) (mr := []) (by kernel_rfl) (by kernel_rfl) (by kernel_rfl) (by kernel_rfl)) ?_
  refine Wp.seq ?_
  refine Wp.regionS (pOf []) (rhoOf []) (by kernel_rfl) ?_
  refine Runs.batch 2 (by kernel_rfl) ?_
  obtain ⟨r1, e_r1, h⟩ := bind_some h
  refine Runs.callK false 12 100 [] [.t (.sl 1 (p0.map (eInt .u8))), .agg [.t (.int .i64 p1.fGen), .t (.int .i64 p1.fSize), .t (.int .i64 p1.fLen), .t (.sl 2 (p1.fSums.map Sum.enc))]] [.one (.t (.sl 1 (p0.map (eInt .u8)))), .agg [.t (.int .i64 p1.fGen), .t (.int .i64 p1.fSize), .t (.int .i64 p1.fLen), .t (.sl 2 (p1.fSums.map Sum.enc))]] (.one (.t (.int .i64 r1))) [] rfl rfl (by kernel_rfl) (by kernel_rfl) (by kernel_rfl) (by kernel_rfl) (by kernel_rfl) (spec_Lacking_ok u p0 p1 r1 e_r1) (by kernel_rfl) ?_
  obtain ⟨r2, e_r2, h⟩ := bind_some h
  refine Runs.callK false 13 99 [] [.t (.int .i64 r1)] [.one (.t (.int .i64 r1))] (.one (.ow 3 1 (r2.map (eInt .i64)))) [] rfl rfl (by kernel_rfl) (by kernel_rfl) (by kernel_rfl) (by kernel_rfl) (by kernel_rfl) (spec_PartsIn_ok u r1 r2 e_r2) (by kernel_rfl) ?_
  refine Runs.all (by kernel_rfl) ?_
  refine thenN ?_
  refine Wp.le (Le.of (s := ⟨[(3, .obj 3 0), (4, .t (.int .i64 0)), (5, .t (.int .i64 0)), (6, .own 851968)], [(3, [.t (.int .i64 p1.fGen), .t (.int .i64 p1.fSize), .t (.int .i64 p1.fLen), .t (.sl 2 (p1.fSums.map Sum.enc))])], [(851968, .live 3 1 (r2.map (eInt .i64)))]⟩) (mo := []) (mr := []) (by kernel_rfl) (by kernel_rfl) (by kernel_rfl) (by kernel_rfl)) ?_
  refine Wp.seqJ (α := Int) (fun a => ⟨[(4, .t (.int .i64 0)), (5, .t (.int .i64 a))], [], []⟩) (fun a => spec_BytesLacking_j1 u a = some r) ?_ ?_
  · rintro x11 h
    change spec_BytesLacking_j1 u x11 = some r at h
    unfold spec_BytesLacking_j1 at h
    refine Wp.seq ?_
    refine Wp.regionS (pOf []) (rhoOf []) (by kernel_rfl) ?_
    refine Runs.all (by kernel_rfl) ?_
    refine thenN ?_
    refine Wp.le (Le.of (s := ⟨[(4, .t (.int .i64 x11))], [], []⟩) (mo := []) (mr := []) (by kernel_rfl) (by kernel_rfl) (by kernel_rfl) (by kernel_rfl)) ?_
    refine Wp.ret ?_
    have hr := Option.some.inj h
    subst hr
    exact RetK [.t (.int .i64 x11)] (.one (.t (.int .i64 x11))) [] (by kernel_rfl) (by kernel_rfl) (.refl _) .nil
  · refine Wp.seq ?_
    refine Wp.regionS (pOf []) (rhoOf []) (by kernel_rfl) ?_
    refine Runs.all (by kernel_rfl) ?_
    refine thenN ?_
    refine Wp.le (Le.of (s := ⟨[(3, .obj 3 0), (4, .t (.int .i64 0)), (5, .t (.int .i64 0)), (6, .own 851968), (7, .t (.int .i64 0))], [(3, [.t (.int .i64 p1.fGen), .t (.int .i64 p1.fSize), .t (.int .i64 p1.fLen), .t (.sl 2 (p1.fSums.map Sum.enc))])], [(851968, .live 3 1 (r2.map (eInt .i64)))]⟩) (mo := []) (mr := []) (by kernel_rfl) (by kernel_rfl) (by kernel_rfl) (by kernel_rfl)) ?_
    refine Wp.block ?_
    refine Wp.loopF (α := Int × ((List Int)) × Int × Manifest) (fun a => ⟨[(3, .obj 3 0), (4, .t (.int .i64 0)), (5, .t (.int .i64 a.1)), (6, .own 393217), (7, .t (.int .i64 a.2.2.1))], [(3, [.t (.int .i64 a.2.2.2.fGen), .t (.int .i64 a.2.2.2.fSize), .t (.int .i64 a.2.2.2.fLen), .t (.sl 2 (a.2.2.2.fSums.map Sum.enc))])], [(393217, .live 3 1 (a.2.1.map (eInt .i64)))]⟩) (fun k_spec_BytesLacking_l2 a => spec_BytesLacking_l2 u k_spec_BytesLacking_l2 a.1 a.2.1 a.2.2.1 a.2.2.2 = some r) ?_ ?_ u (0, r2, 0, p1) h (Le.of (mo := []) (mr := [(393217, 851968)]) (by kernel_rfl) (by kernel_rfl) (by kernel_rfl) (by kernel_rfl))
    · intro a h; unfold spec_BytesLacking_l2 at h; cases h
    · rintro k_spec_BytesLacking_l2 ⟨x5, r2, x6, p1⟩ h
      change spec_BytesLacking_l2 u (k_spec_BytesLacking_l2 + 1) x5 r2 x6 p1 = some r at h
      rw [spec_BytesLacking_l2] at h
      refine Wp.seq ?_
      refine Wp.seq ?_
      refine Wp.regionS (pOf []) (rhoOf []) (by kernel_rfl) ?_
      refine Runs.batch 2 (by kernel_rfl) ?_
      refine Runs.lenT (y := .own 393217) (e := 3) (eInt .i64) r2 1 rfl rfl rfl (by kernel_rfl) (by kernel_rfl) (by kernel_rfl) (by kernel_rfl) (by kernel_rfl) ?_
      refine Runs.all (by kernel_rfl) ?_
      refine thenN ?_
      refine Wp.le (Le.of (s := ⟨[(3, .obj 3 0), (4, .t (.int .i64 0)), (5, .t (.int .i64 x5)), (6, .own 393217), (7, .t (.int .i64 x6)), (14, .t (.int .i64 x6)), (15, .own 393217), (16, .t (.int .i64 ((r2.length : Int)))), (17, .t (.bool (decide (x6 < ((r2.length : Int))))))], [(3, [.t (.int .i64 p1.fGen), .t (.int .i64 p1.fSize), .t (.int .i64 p1.fLen), .t (.sl 2 (p1.fSums.map Sum.enc))])], [(393217, .live 3 1 (r2.map (eInt .i64)))]⟩) (mo := []) (mr := []) (by kernel_rfl) (by kernel_rfl) (by kernel_rfl) (by kernel_rfl)) ?_
      refine Wp.cond2 (b := decide (x6 < ((r2.length : Int)))) (by kernel_rfl) (fun hc => ?_) (fun hc => ?_)
      · have h := cond_t h hc
        refine Wp.skip ?_
        refine thenN ?_
        refine Wp.seq ?_
        refine Wp.block ?_
        refine Wp.seq ?_
        refine Wp.regionA (pOf []) (rhoOf [(3, .obj 3), (6, .own 6), (7, .frz), (21, .obj 3), (22, .frz), (23, .obj 3), (24, .frz), (25, .own 6), (26, .frz), (27, .el 6), (28, .frz), (30, .frz), (31, .frz)]) (by kernel_rfl) (by kernel_rfl) ?_
        refine Runs.batch 6 (by kernel_rfl) ?_
        obtain ⟨y9, e_y9, h⟩ := bind_some h
        refine Runs.idxO (e := 3) (e' := 3) (kk := .i64) (sz := 1) (eInt .i64) r2 x6 393217 rfl (by kernel_rfl) (by kernel_rfl) (by kernel_rfl) (by kernel_rfl) (by kernel_rfl) (by kernel_rfl) (by kernel_rfl) e_y9 ?_
        refine Runs.loadE (e' := 3) (sz := 1) (m := 1) (gg := false) (eInt .i64) r2 393217 (Int.toNat x6) 0 (.t (.int .i64 y9)) rfl (by kernel_rfl) (by kernel_rfl) (by kernel_rfl) (by kernel_rfl) (by kernel_rfl) (by kernel_rfl) (idx_some e_y9).2 (by kernel_rfl) ?_
        obtain ⟨r10, e_r10, h⟩ := bind_some h
        refine Runs.callK false 29 101 [] [.t (.int .i64 p1.fSize), .t (.int .i64 p1.fLen), .t (.int .i64 y9)] [.one (.t (.int .i64 p1.fSize)), .one (.t (.int .i64 p1.fLen)), .one (.t (.int .i64 y9))] (.tup [.one (.t (.int .i64 r10.1)), .one (.t (.int .i64 r10.2))]) [] rfl rfl (by kernel_rfl) (by kernel_rfl) (by kernel_rfl) (by kernel_rfl) (by kernel_rfl) (spec_SpanOf_ok u p1.fSize p1.fLen y9 r10 e_r10) (by kernel_rfl) ?_
        refine Runs.all (by kernel_rfl) ?_
        refine thenN ?_
        refine Wp.le (Le.of (s := ⟨[(3, .obj 3 0), (4, .t (.int .i64 0)), (5, .t (.int .i64 x5)), (6, .own 393217), (7, .t (.int .i64 x6)), (9, .t (.int .i64 r10.2)), (14, .t (.int .i64 x6)), (15, .own 393217), (16, .t (.int .i64 ((r2.length : Int)))), (17, .t (.bool (decide (x6 < ((r2.length : Int)))))), (20, .tup [.t (.int .i64 r10.1), .t (.int .i64 r10.2)]), (21, .obj 3 1), (22, .t (.int .i64 p1.fSize)), (23, .obj 3 2), (24, .t (.int .i64 p1.fLen)), (25, .own 393217), (26, .t (.int .i64 x6)), (27, .elem 393217 1 (Int.toNat x6) 0), (28, .t (.int .i64 y9)), (29, .tup [.t (.int .i64 r10.1), .t (.int .i64 r10.2)]), (30, .t (.int .i64 r10.1)), (31, .t (.int .i64 r10.2))], [(3, [.t (.int .i64 p1.fGen), .t (.int .i64 p1.fSize), .t (.int .i64 p1.fLen), .t (.sl 2 (p1.fSums.map Sum.enc))])], [(393217, .live 3 1 (r2.map (eInt .i64)))]⟩) (mo := []) (mr := []) (by kernel_rfl) (by kernel_rfl) (by kernel_rfl) (by kernel_rfl)) ?_
        refine Wp.regionS (pOf []) (rhoOf []) (by kernel_rfl) ?_
        refine Runs.all (by kernel_rfl) ?_
        refine blkN ?_
        refine thenN ?_
        refine Wp.regionS (pOf []) (rhoOf []) (by kernel_rfl) ?_
        refine Runs.all (by kernel_rfl) ?_
        refine thenN ?_
        exact ⟨(bAdd .i64 x5 r10.2, r2, bAdd .i64 x6 1, p1), h, Le.of (mo := []) (mr := []) (by kernel_rfl) (by kernel_rfl) (by kernel_rfl) (by kernel_rfl)⟩
      · have h := cond_f h hc
        refine Wp.exit ?_
        refine thenE ?_
        refine thenE ?_
        refine blkE ?_
        refine thenN ?_
        exact ⟨x5, h, Le.of (mo := []) (mr := []) (by kernel_rfl) (by kernel_rfl) (by kernel_rfl) (by kernel_rfl)⟩
theorem spec_CostOf_ok (u : Nat) (p0 : List Int) (p1 : List Image) (p2 : Int) (r : Int) (h : spec_CostOf u p0 p1 p2 = some r) : CallOK Try.prog 18 [.one (.t (.sl 1 (p0.map (eInt .u8)))), .one (.t (.sl 1 (p1.map Image.enc))), .one (.t (.int .i64 p2))] (.one (.t (.int .i64 r))) [] := by
  unfold spec_CostOf at h
  refine CallOK.of_bodyK (fn := Try.f18) (m := false) [.t (.sl 1 (p0.map (eInt .u8))), .t (.sl 1 (p1.map Image.enc)), .t (.int .i64 p2)] (by kernel_rfl) rfl (by kernel_rfl) (by kernel_rfl) (by kernel_rfl) (by kernel_rfl) (by kernel_rfl) ?_
  refine Wp.seq ?_
  refine Wp.regionS (pOf []) (rhoOf []) (by kernel_rfl) ?_
  refine Runs.all (by kernel_rfl) ?_
  refine thenN ?_
  refine Wp.le (Le.of (s := ⟨[(0, .t (.sl 1 (p0.map (eInt .u8)))), (1, .t (.sl 1 (p1.map Image.enc))), (2, .t (.int .i64 p2)), (6, .t (.int .i64 0))], [], []⟩) (mo := []) (mr := []) (by kernel_rfl) (by kernel_rfl) (by kernel_rfl) (by kernel_rfl)) ?_
  refine Wp.seq ?_
  refine Wp.seq ?_
  refine Wp.regionS (pOf []) (rhoOf []) (by kernel_rfl) ?_
  refine Runs.batch 2 (by kernel_rfl) ?_
  refine Runs.lenT (y := .t (.sl 1 (p0.map (eInt .u8)))) (e := 5) (eInt .u8) p0 1 rfl rfl rfl (by kernel_rfl) (by kernel_rfl) (by kernel_rfl) (by kernel_rfl) (by kernel_rfl) ?_
  obtain ⟨r1, e_r1, h⟩ := bind_some h
  refine Runs.callK false 13 43 [] [.t (.int .i64 p2), .t (.int .i64 ((p0.length : Int)))] [.one (.t (.int .i64 p2)), .one (.t (.int .i64 ((p0.length : Int))))] (.one (.t (.bool r1))) [] rfl rfl (by kernel_rfl) (by kernel_rfl) (by kernel_rfl) (by kernel_rfl) (by kernel_rfl) (spec_SizeOk_ok u p2 ((p0.length : Int)) r1 e_r1) (by kernel_rfl) ?_
  refine Runs.all (by kernel_rfl) ?_
  refine thenN ?_
  refine Wp.le (Le.of (s := ⟨[(0, .t (.sl 1 (p0.map (eInt .u8)))), (1, .t (.sl 1 (p1.map Image.enc))), (2, .t (.int .i64 p2)), (6, .t (.int .i64 0)), (14, .t (.bool (!r1)))], [], []⟩) (mo := []) (mr := []) (by kernel_rfl) (by kernel_rfl) (by kernel_rfl) (by kernel_rfl)) ?_
  refine Wp.cond2 (b := !r1) (by kernel_rfl) (fun hc => ?_) (fun hc => ?_)
  · have h := cond_t h hc
    refine Wp.seq ?_
    refine Wp.regionS (pOf []) (rhoOf []) (by kernel_rfl) ?_
    refine Runs.all (by kernel_rfl) ?_
    refine thenN ?_
    refine Wp.le (Le.of (s := ⟨[(0, .t (.sl 1 (p0.map (eInt .u8)))), (1, .t (.sl 1 (p1.map Image.enc))), (2, .t (.int .i64 p2)), (6, .t (.int .i64 (-1)))], [], []⟩) (mo := []) (mr := []) (by kernel_rfl) (by kernel_rfl) (by kernel_rfl) (by kernel_rfl)) ?_
    refine Wp.ret ?_
    refine thenR ?_
    have hr := Option.some.inj h
    subst hr
    exact RetK [.t (.int .i64 (-1))] (.one (.t (.int .i64 (-1)))) [] (by kernel_rfl) (by kernel_rfl) (.refl _) .nil
  · have h := cond_f h hc
    refine Wp.skip ?_
    refine thenN ?_
    refine Wp.seq ?_
    refine Wp.regionS (pOf []) (rhoOf []) (by kernel_rfl) ?_
    refine Runs.batch 2 (by kernel_rfl) ?_
    obtain ⟨r2, e_r2, h⟩ := bind_some h
    refine Runs.callK false 17 44 [] [.t (.int .i64 1), .t (.sl 1 (p0.map (eInt .u8))), .t (.int .i64 p2)] [.one (.t (.int .i64 1)), .one (.t (.sl 1 (p0.map (eInt .u8)))), .one (.t (.int .i64 p2))] (.agg [.t (.int .i64 r2.fGen), .t (.int .i64 r2.fSize), .t (.int .i64 r2.fLen), .ow 166 2 (r2.fSums.map Sum.enc)]) [] rfl rfl (by kernel_rfl) (by kernel_rfl) (by kernel_rfl) (by kernel_rfl) (by kernel_rfl) (spec_ManOf_ok u 1 p0 p2 r2 e_r2) (by kernel_rfl) ?_
    refine Runs.all (by kernel_rfl) ?_
    refine thenN ?_
    refine Wp.le (Le.of (s := ⟨[(1, .t (.sl 1 (p1.map Image.enc))), (6, .t (.int .i64 0)), (7, .obj 7 0)], [(7, [.t (.int .i64 r2.fGen), .t (.int .i64 r2.fSize), .t (.int .i64 r2.fLen), .own 1114115])], [(1114115, .live 166 2 (r2.fSums.map Sum.enc))]⟩) (mo := []) (mr := []) (by kernel_rfl) (by kernel_rfl) (by kernel_rfl) (by kernel_rfl)) ?_
    refine Wp.seq ?_
    refine Wp.regionS (pOf []) (rhoOf []) (by kernel_rfl) ?_
    refine Runs.all (by kernel_rfl) ?_
    refine thenN ?_
    refine Wp.le (Le.of (s := ⟨[(1, .t (.sl 1 (p1.map Image.enc))), (6, .t (.int .i64 0)), (7, .obj 7 0), (8, .t (.int .i64 0))], [(7, [.t (.int .i64 r2.fGen), .t (.int .i64 r2.fSize), .t (.int .i64 r2.fLen), .own 1114115])], [(1114115, .live 166 2 (r2.fSums.map Sum.enc))]⟩) (mo := []) (mr := []) (by kernel_rfl) (by kernel_rfl) (by kernel_rfl) (by kernel_rfl)) ?_
    refine Wp.seqJ (α := Int) (fun a => ⟨[(6, .t (.int .i64 0)), (8, .t (.int .i64 a))], [], []⟩) (fun a => spec_CostOf_j1 u a = some r) ?_ ?_
    · rintro x12 h
      change spec_CostOf_j1 u x12 = some r at h
      unfold spec_CostOf_j1 at h
      refine Wp.seq ?_
      refine Wp.regionS (pOf []) (rhoOf []) (by kernel_rfl) ?_
      refine Runs.all (by kernel_rfl) ?_
      refine thenN ?_
      refine Wp.le (Le.of (s := ⟨[(6, .t (.int .i64 x12))], [], []⟩) (mo := []) (mr := []) (by kernel_rfl) (by kernel_rfl) (by kernel_rfl) (by kernel_rfl)) ?_
      refine Wp.ret ?_
      have hr := Option.some.inj h
      subst hr
      exact RetK [.t (.int .i64 x12)] (.one (.t (.int .i64 x12))) [] (by kernel_rfl) (by kernel_rfl) (.refl _) .nil
    · refine Wp.seq ?_
      refine Wp.regionS (pOf []) (rhoOf []) (by kernel_rfl) ?_
      refine Runs.all (by kernel_rfl) ?_
      refine thenN ?_
      refine Wp.le (Le.of (s := ⟨[(1, .t (.sl 1 (p1.map Image.enc))), (6, .t (.int .i64 0)), (7, .obj 7 0), (8, .t (.int .i64 0)), (9, .t (.int .i64 0))], [(7, [.t (.int .i64 r2.fGen), .t (.int .i64 r2.fSize), .t (.int .i64 r2.fLen), .own 1114115])], [(1114115, .live 166 2 (r2.fSums.map Sum.enc))]⟩) (mo := []) (mr := []) (by kernel_rfl) (by kernel_rfl) (by kernel_rfl) (by kernel_rfl)) ?_
      refine Wp.block ?_
      refine Wp.loopF (α := (List Image) × Int × Int × Manifest) (fun a => ⟨[(1, .t (.sl 1 (a.1.map Image.enc))), (6, .t (.int .i64 0)), (7, .obj 7 0), (8, .t (.int .i64 a.2.1)), (9, .t (.int .i64 a.2.2.1))], [(7, [.t (.int .i64 a.2.2.2.fGen), .t (.int .i64 a.2.2.2.fSize), .t (.int .i64 a.2.2.2.fLen), .t (.sl 2 (a.2.2.2.fSums.map Sum.enc))])], []⟩) (fun k_spec_CostOf_l2 a => spec_CostOf_l2 u k_spec_CostOf_l2 a.1 a.2.1 a.2.2.1 a.2.2.2 = some r) ?_ ?_ u (p1, 0, 0, r2) h (Le.trans (Le.frzO 7 3 1114115 166 2 [.t (.int .i64 r2.fGen), .t (.int .i64 r2.fSize), .t (.int .i64 r2.fLen), .own 1114115] (r2.fSums.map Sum.enc) (by kernel_rfl) (by kernel_rfl) (by kernel_rfl)) (Le.of (mo := []) (mr := []) (by kernel_rfl) (by kernel_rfl) (by kernel_rfl) (by kernel_rfl)))
      · intro a h; unfold spec_CostOf_l2 at h; cases h
      · rintro k_spec_CostOf_l2 ⟨p1, x5, x6, r2⟩ h
        change spec_CostOf_l2 u (k_spec_CostOf_l2 + 1) p1 x5 x6 r2 = some r at h
        rw [spec_CostOf_l2] at h
        refine Wp.seq ?_
        refine Wp.seq ?_
        refine Wp.regionS (pOf []) (rhoOf []) (by kernel_rfl) ?_
        refine Runs.batch 2 (by kernel_rfl) ?_
        refine Runs.lenT (y := .t (.sl 1 (p1.map Image.enc))) (e := 67) Image.enc p1 1 rfl rfl rfl (by kernel_rfl) (by kernel_rfl) (by kernel_rfl) (by kernel_rfl) (by kernel_rfl) ?_
        refine Runs.all (by kernel_rfl) ?_
        refine thenN ?_
        refine Wp.le (Le.of (s := ⟨[(1, .t (.sl 1 (p1.map Image.enc))), (6, .t (.int .i64 0)), (7, .obj 7 0), (8, .t (.int .i64 x5)), (9, .t (.int .i64 x6)), (18, .t (.int .i64 x6)), (19, .t (.sl 1 (p1.map Image.enc))), (20, .t (.int .i64 ((p1.length : Int)))), (21, .t (.bool (decide (x6 < ((p1.length : Int))))))], [(7, [.t (.int .i64 r2.fGen), .t (.int .i64 r2.fSize), .t (.int .i64 r2.fLen), .t (.sl 2 (r2.fSums.map Sum.enc))])], []⟩) (mo := []) (mr := []) (by kernel_rfl) (by kernel_rfl) (by kernel_rfl) (by kernel_rfl)) ?_
        refine Wp.cond2 (b := decide (x6 < ((p1.length : Int)))) (by kernel_rfl) (fun hc => ?_) (fun hc => ?_)
        · have h := cond_t h hc
          refine Wp.skip ?_
          refine thenN ?_
          refine Wp.seq ?_
          refine Wp.block ?_
          refine Wp.regionA (pOf []) (rhoOf [(1, .frz), (7, .obj 7), (8, .frz), (9, .frz), (24, .frz), (25, .frz), (26, .frz), (27, .frz), (28, .frz), (29, .frz), (30, .frz), (31, .frz), (32, .frz), (33, .frz), (34, .frz), (35, .frz)]) (by kernel_rfl) (by kernel_rfl) ?_
          refine Runs.batch 2 (by kernel_rfl) ?_
          obtain ⟨r9, e_r9, h⟩ := bind_some h
          refine Runs.callK false 26 45 [] [.agg [.t (.int .i64 r2.fGen), .t (.int .i64 r2.fSize), .t (.int .i64 r2.fLen), .t (.sl 2 (r2.fSums.map Sum.enc))]] [.agg [.t (.int .i64 r2.fGen), .t (.int .i64 r2.fSize), .t (.int .i64 r2.fLen), .t (.sl 2 (r2.fSums.map Sum.enc))]] (.one (.t (.int .i64 r9))) [] rfl rfl (by kernel_rfl) (by kernel_rfl) (by kernel_rfl) (by kernel_rfl) (by kernel_rfl) (spec_ManBytes_ok u r2 r9 e_r9) (by kernel_rfl) ?_
          refine Runs.batch 3 (by kernel_rfl) ?_
          obtain ⟨y10, e_y10, h⟩ := bind_some h
          refine Runs.idxT (e := 67) (kk := .i64) (sz := 1) Image.enc p1 x6 rfl (by kernel_rfl) (by kernel_rfl) (by kernel_rfl) (by kernel_rfl) (by kernel_rfl) (by kernel_rfl) e_y10 ?_
          refine Runs.batch 3 (by kernel_rfl) ?_
          obtain ⟨r11, e_r11, h⟩ := bind_some h
          refine Runs.callK false 34 46 [] [.t (.sl 1 (y10.fB.map (eInt .u8))), .agg [.t (.int .i64 r2.fGen), .t (.int .i64 r2.fSize), .t (.int .i64 r2.fLen), .t (.sl 2 (r2.fSums.map Sum.enc))]] [.one (.t (.sl 1 (y10.fB.map (eInt .u8)))), .agg [.t (.int .i64 r2.fGen), .t (.int .i64 r2.fSize), .t (.int .i64 r2.fLen), .t (.sl 2 (r2.fSums.map Sum.enc))]] (.one (.t (.int .i64 r11))) [] rfl rfl (by kernel_rfl) (by kernel_rfl) (by kernel_rfl) (by kernel_rfl) (by kernel_rfl) (spec_BytesLacking_ok u y10.fB r2 r11 e_r11) (by kernel_rfl) ?_
          refine Runs.all (by kernel_rfl) ?_
          refine blkN ?_
          refine thenN ?_
          refine Wp.regionS (pOf []) (rhoOf []) (by kernel_rfl) ?_
          refine Runs.all (by kernel_rfl) ?_
          refine thenN ?_
          exact ⟨(p1, bAdd .i64 (bAdd .i64 x5 r9) r11, bAdd .i64 x6 1, r2), h, Le.of (mo := []) (mr := []) (by kernel_rfl) (by kernel_rfl) (by kernel_rfl) (by kernel_rfl)⟩
        · have h := cond_f h hc
          refine Wp.exit ?_
          refine thenE ?_
          refine thenE ?_
          refine blkE ?_
          refine thenN ?_
          exact ⟨x5, h, Le.of (mo := []) (mr := []) (by kernel_rfl) (by kernel_rfl) (by kernel_rfl) (by kernel_rfl)⟩
theorem spec_BestSize_ok (u : Nat) (p0 : List Int) (p1 : List Image) (r : Int) (h : spec_BestSize u p0 p1 = some r) : CallOK Try.prog 22 [.one (.t (.sl 1 (p0.map (eInt .u8)))), .one (.t (.sl 1 (p1.map Image.enc)))] (.one (.t (.int .i64 r))) [] := by
  unfold spec_BestSize at h
  refine CallOK.of_bodyK (fn := Try.f22) (m := false) [.t (.sl 1 (p0.map (eInt .u8))), .t (.sl 1 (p1.map Image.enc))] (by kernel_rfl) rfl (by kernel_rfl) (by kernel_rfl) (by kernel_rfl) (by kernel_rfl) (by kernel_rfl) ?_
  refine Wp.seq ?_
  refine Wp.regionS (pOf []) (rhoOf []) (by kernel_rfl) ?_
  refine Runs.all (by kernel_rfl) ?_
  refine thenN ?_
  refine Wp.le (Le.of (s := ⟨[(0, .t (.sl 1 (p0.map (eInt .u8)))), (1, .t (.sl 1 (p1.map Image.enc))), (4, .t (.int .i64 0))], [], []⟩) (mo := []) (mr := []) (by kernel_rfl) (by kernel_rfl) (by kernel_rfl) (by kernel_rfl)) ?_
  refine Wp.seq ?_
  refine Wp.regionS (pOf []) (rhoOf []) (by kernel_rfl) ?_
  refine Runs.all (by kernel_rfl) ?_
  refine thenN ?_
  refine Wp.le (Le.of (s := ⟨[(0, .t (.sl 1 (p0.map (eInt .u8)))), (1, .t (.sl 1 (p1.map Image.enc))), (4, .t (.int .i64 0)), (5, .t (.int .i64 0))], [], []⟩) (mo := []) (mr := []) (by kernel_rfl) (by kernel_rfl) (by kernel_rfl) (by kernel_rfl)) ?_
  refine Wp.seqJ (α := Int) (fun a => ⟨[(4, .t (.int .i64 0)), (5, .t (.int .i64 a))], [], []⟩) (fun a => spec_BestSize_j1 u a = some r) ?_ ?_
  · rintro x12 h
    change spec_BestSize_j1 u x12 = some r at h
    unfold spec_BestSize_j1 at h
    refine Wp.seq ?_
    refine Wp.regionS (pOf []) (rhoOf []) (by kernel_rfl) ?_
    refine Runs.all (by kernel_rfl) ?_
    refine thenN ?_
    refine Wp.le (Le.of (s := ⟨[(4, .t (.int .i64 x12))], [], []⟩) (mo := []) (mr := []) (by kernel_rfl) (by kernel_rfl) (by kernel_rfl) (by kernel_rfl)) ?_
    refine Wp.ret ?_
    have hr := Option.some.inj h
    subst hr
    exact RetK [.t (.int .i64 x12)] (.one (.t (.int .i64 x12))) [] (by kernel_rfl) (by kernel_rfl) (.refl _) .nil
  · refine Wp.seq ?_
    refine Wp.regionS (pOf []) (rhoOf []) (by kernel_rfl) ?_
    refine Runs.all (by kernel_rfl) ?_
    refine thenN ?_
    refine Wp.le (Le.of (s := ⟨[(0, .t (.sl 1 (p0.map (eInt .u8)))), (1, .t (.sl 1 (p1.map Image.enc))), (4, .t (.int .i64 0)), (5, .t (.int .i64 0)), (6, .t (.int .i64 2))], [], []⟩) (mo := []) (mr := []) (by kernel_rfl) (by kernel_rfl) (by kernel_rfl) (by kernel_rfl)) ?_
    refine Wp.block ?_
    refine Wp.loopF (α := (List Int) × (List Image) × Int × Int) (fun a => ⟨[(0, .t (.sl 1 (a.1.map (eInt .u8)))), (1, .t (.sl 1 (a.2.1.map Image.enc))), (4, .t (.int .i64 0)), (5, .t (.int .i64 a.2.2.1)), (6, .t (.int .i64 a.2.2.2))], [], []⟩) (fun k_spec_BestSize_l2 a => spec_BestSize_l2 u k_spec_BestSize_l2 a.1 a.2.1 a.2.2.1 a.2.2.2 = some r) ?_ ?_ u (p0, p1, 0, 2) h (Le.of (mo := []) (mr := []) (by kernel_rfl) (by kernel_rfl) (by kernel_rfl) (by kernel_rfl))
    · intro a h; unfold spec_BestSize_l2 at h; cases h
    · rintro k_spec_BestSize_l2 ⟨p0, p1, x3, x4⟩ h
      change spec_BestSize_l2 u (k_spec_BestSize_l2 + 1) p0 p1 x3 x4 = some r at h
      rw [spec_BestSize_l2] at h
      refine Wp.seq ?_
      refine Wp.seq ?_
      refine Wp.regionS (pOf []) (rhoOf []) (by kernel_rfl) ?_
      refine Runs.all (by kernel_rfl) ?_
      refine thenN ?_
      refine Wp.le (Le.of (s := ⟨[(0, .t (.sl 1 (p0.map (eInt .u8)))), (1, .t (.sl 1 (p1.map Image.enc))), (4, .t (.int .i64 0)), (5, .t (.int .i64 x3)), (6, .t (.int .i64 x4)), (8, .t (.int .i64 x4)), (9, .t (.bool (decide (x4 ≤ 6))))], [], []⟩) (mo := []) (mr := []) (by kernel_rfl) (by kernel_rfl) (by kernel_rfl) (by kernel_rfl)) ?_
      refine Wp.cond2 (b := decide (x4 ≤ 6)) (by kernel_rfl) (fun hc => ?_) (fun hc => ?_)
      · have h := cond_t h hc
        refine Wp.skip ?_
        refine thenN ?_
        refine Wp.seqJ (α := (List Int) × (List Image) × Int × Int × Int × Bool × Bool) (fun a => ⟨[(0, .t (.sl 1 (a.1.map (eInt .u8)))), (1, .t (.sl 1 (a.2.1.map Image.enc))), (4, .t (.int .i64 0)), (5, .t (.int .i64 a.2.2.1)), (6, .t (.int .i64 a.2.2.2.1)), (7, .t (.int .i64 a.2.2.2.2.1)), (8, .t (.int .i64 a.2.2.2.1)), (9, .t (.bool (decide (a.2.2.2.1 ≤ 6)))), (12, .t (.sl 1 (a.1.map (eInt .u8)))), (13, .t (.sl 1 (a.2.1.map Image.enc))), (14, .t (.int .i64 a.2.2.2.1)), (15, .t (.int .i64 a.2.2.2.2.1)), (16, .t (.int .i64 a.2.2.2.2.1)), (17, .t (.bool (decide (a.2.2.2.2.1 ≥ 0)))), (18, .t (.bool a.2.2.2.2.2.1)), (29, .t (.bool a.2.2.2.2.2.2))], [], []⟩) (fun a => spec_BestSize_j3 u (fun z0 z1 z2 z3 => spec_BestSize_l2 u k_spec_BestSize_l2 z0 z1 z2 z3) a.1 a.2.1 a.2.2.1 a.2.2.2.1 a.2.2.2.2.1 a.2.2.2.2.2.1 a.2.2.2.2.2.2 = some r) ?_ ?_
        · rintro ⟨p0, p1, x11, x4, r7, x9, x10⟩ h
          change spec_BestSize_j3 u (fun z0 z1 z2 z3 => spec_BestSize_l2 u k_spec_BestSize_l2 z0 z1 z2 z3) p0 p1 x11 x4 r7 x9 x10 = some r at h
          unfold spec_BestSize_j3 at h
          refine Wp.regionS (pOf []) (rhoOf []) (by kernel_rfl) ?_
          refine Runs.all (by kernel_rfl) ?_
          refine thenN ?_
          exact ⟨(p0, p1, x11, bAdd .i64 x4 1), h, Le.of (mo := []) (mr := []) (by kernel_rfl) (by kernel_rfl) (by kernel_rfl) (by kernel_rfl)⟩
        · refine Wp.block ?_
          refine Wp.seq ?_
          refine Wp.regionS (pOf []) (rhoOf []) (by kernel_rfl) ?_
          refine Runs.batch 3 (by kernel_rfl) ?_
          obtain ⟨r7, e_r7, h⟩ := bind_some h
          refine Runs.callK false 15 18 [] [.t (.sl 1 (p0.map (eInt .u8))), .t (.sl 1 (p1.map Image.enc)), .t (.int .i64 x4)] [.one (.t (.sl 1 (p0.map (eInt .u8)))), .one (.t (.sl 1 (p1.map Image.enc))), .one (.t (.int .i64 x4))] (.one (.t (.int .i64 r7))) [] rfl rfl (by kernel_rfl) (by kernel_rfl) (by kernel_rfl) (by kernel_rfl) (by kernel_rfl) (spec_CostOf_ok u p0 p1 x4 r7 e_r7) (by kernel_rfl) ?_
          refine Runs.all (by kernel_rfl) ?_
          refine thenN ?_
          refine Wp.le (Le.of (s := ⟨[(0, .t (.sl 1 (p0.map (eInt .u8)))), (1, .t (.sl 1 (p1.map Image.enc))), (4, .t (.int .i64 0)), (5, .t (.int .i64 x3)), (6, .t (.int .i64 x4)), (7, .t (.int .i64 r7)), (8, .t (.int .i64 x4)), (9, .t (.bool (decide (x4 ≤ 6)))), (12, .t (.sl 1 (p0.map (eInt .u8)))), (13, .t (.sl 1 (p1.map Image.enc))), (14, .t (.int .i64 x4)), (15, .t (.int .i64 r7))], [], []⟩) (mo := []) (mr := []) (by kernel_rfl) (by kernel_rfl) (by kernel_rfl) (by kernel_rfl)) ?_
          refine Wp.seqJ (α := (List Int) × (List Image) × Int × Int × Int × Bool × Bool) (fun a => ⟨[(0, .t (.sl 1 (a.1.map (eInt .u8)))), (1, .t (.sl 1 (a.2.1.map Image.enc))), (4, .t (.int .i64 0)), (5, .t (.int .i64 a.2.2.1)), (6, .t (.int .i64 a.2.2.2.1)), (7, .t (.int .i64 a.2.2.2.2.1)), (8, .t (.int .i64 a.2.2.2.1)), (9, .t (.bool (decide (a.2.2.2.1 ≤ 6)))), (12, .t (.sl 1 (a.1.map (eInt .u8)))), (13, .t (.sl 1 (a.2.1.map Image.enc))), (14, .t (.int .i64 a.2.2.2.1)), (15, .t (.int .i64 a.2.2.2.2.1)), (16, .t (.int .i64 a.2.2.2.2.1)), (17, .t (.bool (decide (a.2.2.2.2.1 ≥ 0)))), (18, .t (.bool a.2.2.2.2.2.1)), (29, .t (.bool a.2.2.2.2.2.2))], [], []⟩) (fun a => spec_BestSize_j4 u (fun z0 z1 z2 z3 => spec_BestSize_l2 u k_spec_BestSize_l2 z0 z1 z2 z3) a.1 a.2.1 a.2.2.1 a.2.2.2.1 a.2.2.2.2.1 a.2.2.2.2.2.1 a.2.2.2.2.2.2 = some r) ?_ ?_
          · rintro ⟨p0, p1, x3, x4, r7, x9, x10⟩ h
            change spec_BestSize_j4 u (fun z0 z1 z2 z3 => spec_BestSize_l2 u k_spec_BestSize_l2 z0 z1 z2 z3) p0 p1 x3 x4 r7 x9 x10 = some r at h
            unfold spec_BestSize_j4 at h
            refine Wp.cond2 (b := x10) (by kernel_rfl) (fun hc => ?_) (fun hc => ?_)
            · have h := cond_t h hc
              refine Wp.regionS (pOf []) (rhoOf []) (by kernel_rfl) ?_
              refine Runs.all (by kernel_rfl) ?_
              refine blkN ?_
              refine thenN ?_
              exact ⟨(p0, p1, x4, x4, r7, x9, x10), h, Le.of (mo := []) (mr := []) (by kernel_rfl) (by kernel_rfl) (by kernel_rfl) (by kernel_rfl)⟩
            · have h := cond_f h hc
              refine Wp.skip ?_
              refine blkN ?_
              refine thenN ?_
              exact ⟨(p0, p1, x3, x4, r7, x9, x10), h, Le.of (mo := []) (mr := []) (by kernel_rfl) (by kernel_rfl) (by kernel_rfl) (by kernel_rfl)⟩
          · refine Wp.regionS (pOf []) (rhoOf []) (by kernel_rfl) ?_
            refine Runs.batch 3 (by kernel_rfl) ?_
            rcases tf (decide (r7 ≥ 0)) with hc | hc
            · have h := cond_t h hc
              refine Runs.known 18 (v := true) (by kernel_rfl) hc ?_
              refine Runs.batch 3 (by kernel_rfl) ?_
              rcases tf (x3 == 0) with hc | hc
              · have h := cond_t h hc
                refine Runs.known 21 (v := true) (by kernel_rfl) hc ?_
                refine Runs.all (by kernel_rfl) ?_
                refine thenN ?_
                exact ⟨(p0, p1, x3, x4, r7, true, true), h, Le.of (mo := []) (mr := []) (by kernel_rfl) (by kernel_rfl) (by kernel_rfl) (by kernel_rfl)⟩
              · have h := cond_f h hc
                refine Runs.known 21 (v := false) (by kernel_rfl) hc ?_
                refine Runs.batch 4 (by kernel_rfl) ?_
                obtain ⟨r8, e_r8, h⟩ := bind_some h
                refine Runs.callK false 26 18 [] [.t (.sl 1 (p0.map (eInt .u8))), .t (.sl 1 (p1.map Image.enc)), .t (.int .i64 x3)] [.one (.t (.sl 1 (p0.map (eInt .u8)))), .one (.t (.sl 1 (p1.map Image.enc))), .one (.t (.int .i64 x3))] (.one (.t (.int .i64 r8))) [] rfl rfl (by kernel_rfl) (by kernel_rfl) (by kernel_rfl) (by kernel_rfl) (by kernel_rfl) (spec_CostOf_ok u p0 p1 x3 r8 e_r8) (by kernel_rfl) ?_
                refine Runs.all (by kernel_rfl) ?_
                refine thenN ?_
                exact ⟨(p0, p1, x3, x4, r7, true, decide (r7 < r8)), h, Le.of (mo := []) (mr := []) (by kernel_rfl) (by kernel_rfl) (by kernel_rfl) (by kernel_rfl)⟩
            · have h := cond_f h hc
              refine Runs.known 18 (v := false) (by kernel_rfl) hc ?_
              refine Runs.all (by kernel_rfl) ?_
              refine thenN ?_
              exact ⟨(p0, p1, x3, x4, r7, false, false), h, Le.of (mo := []) (mr := []) (by kernel_rfl) (by kernel_rfl) (by kernel_rfl) (by kernel_rfl)⟩
      · have h := cond_f h hc
        refine Wp.exit ?_
        refine thenE ?_
        refine thenE ?_
        refine blkE ?_
        refine thenN ?_
        exact ⟨x3, h, Le.of (mo := []) (mr := []) (by kernel_rfl) (by kernel_rfl) (by kernel_rfl) (by kernel_rfl)⟩
theorem impl_within_ok (u : Nat) (p0 : Int) (p1 : Int) (p2 : Int) (r : Bool) (h : impl_within u p0 p1 p2 = some r) : CallOK Try.prog 41 [.one (.t (.int .i64 p0)), .one (.t (.int .i64 p1)), .one (.t (.int .i64 p2))] (.one (.t (.bool r))) [] := by
  unfold impl_within at h
  refine CallOK.of_bodyK (fn := Try.f41) (m := false) [.t (.int .i64 p0), .t (.int .i64 p1), .t (.int .i64 p2)] (by kernel_rfl) rfl (by kernel_rfl) (by kernel_rfl) (by kernel_rfl) (by kernel_rfl) (by kernel_rfl) ?_
  refine Wp.seq ?_
  refine Wp.regionS (pOf []) (rhoOf []) (by kernel_rfl) ?_
  refine Runs.all (by kernel_rfl) ?_
  refine thenN ?_
  refine Wp.le (Le.of (s := ⟨[(0, .t (.int .i64 p0)), (1, .t (.int .i64 p1)), (2, .t (.int .i64 p2)), (6, .t (.bool false))], [], []⟩) (mo := []) (mr := []) (by kernel_rfl) (by kernel_rfl) (by kernel_rfl) (by kernel_rfl)) ?_
  refine Wp.seq ?_
  refine Wp.regionS (pOf []) (rhoOf []) (by kernel_rfl) ?_
  refine Runs.batch 4 (by kernel_rfl) ?_
  rcases tf (decide (p0 ≥ p1)) with hc | hc
  · have h := cond_t h hc
    refine Runs.known 10 (v := true) (by kernel_rfl) hc ?_
    refine Runs.all (by kernel_rfl) ?_
    refine thenN ?_
    refine Wp.le (Le.of (s := ⟨[(6, .t (.bool (decide (p0 ≤ p2))))], [], []⟩) (mo := []) (mr := []) (by kernel_rfl) (by kernel_rfl) (by kernel_rfl) (by kernel_rfl)) ?_
    refine Wp.ret ?_
    have hr := Option.some.inj h
    subst hr
    exact RetK [.t (.bool (decide (p0 ≤ p2)))] (.one (.t (.bool (decide (p0 ≤ p2))))) [] (by kernel_rfl) (by kernel_rfl) (.refl _) .nil
  · have h := cond_f h hc
    refine Runs.known 10 (v := false) (by kernel_rfl) hc ?_
    refine Runs.all (by kernel_rfl) ?_
    refine thenN ?_
    refine Wp.le (Le.of (s := ⟨[(6, .t (.bool false))], [], []⟩) (mo := []) (mr := []) (by kernel_rfl) (by kernel_rfl) (by kernel_rfl) (by kernel_rfl)) ?_
    refine Wp.ret ?_
    have hr := Option.some.inj h
    subst hr
    exact RetK [.t (.bool false)] (.one (.t (.bool false))) [] (by kernel_rfl) (by kernel_rfl) (.refl _) .nil
theorem impl_SizeOk_ok (u : Nat) (p0 : Int) (p1 : Int) (r : Bool) (h : impl_SizeOk u p0 p1 = some r) : CallOK Try.prog 48 [.one (.t (.int .i64 p0)), .one (.t (.int .i64 p1))] (.one (.t (.bool r))) [] := by
  unfold impl_SizeOk at h
  refine CallOK.of_bodyK (fn := Try.f48) (m := false) [.t (.int .i64 p0), .t (.int .i64 p1)] (by kernel_rfl) rfl (by kernel_rfl) (by kernel_rfl) (by kernel_rfl) (by kernel_rfl) (by kernel_rfl) ?_
  refine Wp.seq ?_
  refine Wp.regionS (pOf []) (rhoOf []) (by kernel_rfl) ?_
  refine Runs.all (by kernel_rfl) ?_
  refine thenN ?_
  refine Wp.le (Le.of (s := ⟨[(0, .t (.int .i64 p0)), (1, .t (.int .i64 p1)), (4, .t (.bool false))], [], []⟩) (mo := []) (mr := []) (by kernel_rfl) (by kernel_rfl) (by kernel_rfl) (by kernel_rfl)) ?_
  refine Wp.seq ?_
  refine Wp.regionS (pOf []) (rhoOf []) (by kernel_rfl) ?_
  refine Runs.batch 1 (by kernel_rfl) ?_
  obtain ⟨r1, e_r1, h⟩ := bind_some h
  refine Runs.callK false 6 41 [] [.t (.int .i64 p0), .t (.int .i64 2), .t (.int .i64 6)] [.one (.t (.int .i64 p0)), .one (.t (.int .i64 2)), .one (.t (.int .i64 6))] (.one (.t (.bool r1))) [] rfl rfl (by kernel_rfl) (by kernel_rfl) (by kernel_rfl) (by kernel_rfl) (by kernel_rfl) (impl_within_ok u p0 2 6 r1 e_r1) (by kernel_rfl) ?_
  refine Runs.batch 1 (by kernel_rfl) ?_
  rcases tf (r1) with hc | hc
  · have h := cond_t h hc
    refine Runs.known 7 (v := true) (by kernel_rfl) hc ?_
    refine Runs.batch 3 (by kernel_rfl) ?_
    obtain ⟨r2, e_r2, h⟩ := bind_some h
    refine Runs.callK false 11 41 [] [.t (.int .i64 p1), .t (.int .i64 0), .t (.int .i64 (bMul .i64 40 p0))] [.one (.t (.int .i64 p1)), .one (.t (.int .i64 0)), .one (.t (.int .i64 (bMul .i64 40 p0)))] (.one (.t (.bool r2))) [] rfl rfl (by kernel_rfl) (by kernel_rfl) (by kernel_rfl) (by kernel_rfl) (by kernel_rfl) (impl_within_ok u p1 0 (bMul .i64 40 p0) r2 e_r2) (by kernel_rfl) ?_
    refine Runs.all (by kernel_rfl) ?_
    refine thenN ?_
    refine Wp.le (Le.of (s := ⟨[(4, .t (.bool r2))], [], []⟩) (mo := []) (mr := []) (by kernel_rfl) (by kernel_rfl) (by kernel_rfl) (by kernel_rfl)) ?_
    refine Wp.ret ?_
    have hr := Option.some.inj h
    subst hr
    exact RetK [.t (.bool r2)] (.one (.t (.bool r2))) [] (by kernel_rfl) (by kernel_rfl) (.refl _) .nil
  · have h := cond_f h hc
    refine Runs.known 7 (v := false) (by kernel_rfl) hc ?_
    refine Runs.all (by kernel_rfl) ?_
    refine thenN ?_
    refine Wp.le (Le.of (s := ⟨[(4, .t (.bool false))], [], []⟩) (mo := []) (mr := []) (by kernel_rfl) (by kernel_rfl) (by kernel_rfl) (by kernel_rfl)) ?_
    refine Wp.ret ?_
    have hr := Option.some.inj h
    subst hr
    exact RetK [.t (.bool false)] (.one (.t (.bool false))) [] (by kernel_rfl) (by kernel_rfl) (.refl _) .nil
theorem impl_CeilDiv_ok (u : Nat) (p0 : Int) (p1 : Int) (r : Int) (h : impl_CeilDiv u p0 p1 = some r) : CallOK Try.prog 73 [.one (.t (.int .i64 p0)), .one (.t (.int .i64 p1))] (.one (.t (.int .i64 r))) [] := by
  unfold impl_CeilDiv at h
  refine CallOK.of_bodyK (fn := Try.f73) (m := false) [.t (.int .i64 p0), .t (.int .i64 p1)] (by kernel_rfl) rfl (by kernel_rfl) (by kernel_rfl) (by kernel_rfl) (by kernel_rfl) (by kernel_rfl) ?_
  refine Wp.seq ?_
  refine Wp.regionS (pOf []) (rhoOf []) (by kernel_rfl) ?_
  refine Runs.all (by kernel_rfl) ?_
  refine thenN ?_
  refine Wp.le (Le.of (s := ⟨[(0, .t (.int .i64 p0)), (1, .t (.int .i64 p1)), (4, .t (.int .i64 0))], [], []⟩) (mo := []) (mr := []) (by kernel_rfl) (by kernel_rfl) (by kernel_rfl) (by kernel_rfl)) ?_
  refine Wp.seq ?_
  refine Wp.seqJ (α := Int × Int × Bool) (fun a => ⟨[(0, .t (.int .i64 a.1)), (1, .t (.int .i64 a.2.1)), (4, .t (.int .i64 0)), (12, .t (.bool a.2.2))], [], []⟩) (fun a => impl_CeilDiv_j1 u a.1 a.2.1 a.2.2 = some r) ?_ ?_
  · rintro ⟨p0, p1, x3⟩ h
    change impl_CeilDiv_j1 u p0 p1 x3 = some r at h
    unfold impl_CeilDiv_j1 at h
    refine Wp.cond2 (b := x3) (by kernel_rfl) (fun hc => ?_) (fun hc => ?_)
    · have h := cond_t h hc
      refine Wp.seq ?_
      refine Wp.regionS (pOf []) (rhoOf []) (by kernel_rfl) ?_
      refine Runs.all (by kernel_rfl) ?_
      refine thenN ?_
      refine Wp.le (Le.of (s := ⟨[(0, .t (.int .i64 p0)), (1, .t (.int .i64 p1)), (4, .t (.int .i64 0))], [], []⟩) (mo := []) (mr := []) (by kernel_rfl) (by kernel_rfl) (by kernel_rfl) (by kernel_rfl)) ?_
      refine Wp.ret ?_
      refine thenR ?_
      have hr := Option.some.inj h
      subst hr
      exact RetK [.t (.int .i64 0)] (.one (.t (.int .i64 0))) [] (by kernel_rfl) (by kernel_rfl) (.refl _) .nil
    · have h := cond_f h hc
      refine Wp.skip ?_
      refine thenN ?_
      refine Wp.seq ?_
      refine Wp.regionS (pOf []) (rhoOf []) (by kernel_rfl) ?_
      refine Runs.batch 5 (by kernel_rfl) ?_
      obtain ⟨_, e_4, h⟩ := bind_some h
      refine Runs.num .quo (.int .i64 (bSub .i64 (bAdd .i64 p0 p1) 1)) (.int .i64 p1) (.int .i64 (bQuo .i64 (bSub .i64 (bAdd .i64 p0 p1) 1) p1)) rfl (by kernel_rfl) (by kernel_rfl) (by kernel_rfl) (by kernel_rfl) (bin_quo _ _ _ _ (by simpa using chk_some e_4)) ?_
      refine Runs.all (by kernel_rfl) ?_
      refine thenN ?_
      refine Wp.le (Le.of (s := ⟨[(4, .t (.int .i64 (bQuo .i64 (bSub .i64 (bAdd .i64 p0 p1) 1) p1)))], [], []⟩) (mo := []) (mr := []) (by kernel_rfl) (by kernel_rfl) (by kernel_rfl) (by kernel_rfl)) ?_
      refine Wp.ret ?_
      have hr := Option.some.inj h
      subst hr
      exact RetK [.t (.int .i64 (bQuo .i64 (bSub .i64 (bAdd .i64 p0 p1) 1) p1))] (.one (.t (.int .i64 (bQuo .i64 (bSub .i64 (bAdd .i64 p0 p1) 1) p1)))) [] (by kernel_rfl) (by kernel_rfl) (.refl _) .nil
  · refine Wp.regionS (pOf []) (rhoOf []) (by kernel_rfl) ?_
    refine Runs.batch 1 (by kernel_rfl) ?_
    obtain ⟨r1, e_r1, h⟩ := bind_some h
    refine Runs.callK false 6 41 [] [.t (.int .i64 p0), .t (.int .i64 0), .t (.int .i64 1000000000000)] [.one (.t (.int .i64 p0)), .one (.t (.int .i64 0)), .one (.t (.int .i64 1000000000000))] (.one (.t (.bool r1))) [] rfl rfl (by kernel_rfl) (by kernel_rfl) (by kernel_rfl) (by kernel_rfl) (by kernel_rfl) (impl_within_ok u p0 0 1000000000000 r1 e_r1) (by kernel_rfl) ?_
    refine Runs.batch 2 (by kernel_rfl) ?_
    rcases tf (!r1) with hc | hc
    · have h := cond_t h hc
      refine Runs.known 8 (v := true) (by kernel_rfl) hc ?_
      refine Runs.all (by kernel_rfl) ?_
      refine thenN ?_
      exact ⟨(p0, p1, true), h, Le.of (mo := []) (mr := []) (by kernel_rfl) (by kernel_rfl) (by kernel_rfl) (by kernel_rfl)⟩
    · have h := cond_f h hc
      refine Runs.known 8 (v := false) (by kernel_rfl) hc ?_
      refine Runs.batch 1 (by kernel_rfl) ?_
      obtain ⟨r2, e_r2, h⟩ := bind_some h
      refine Runs.callK false 10 41 [] [.t (.int .i64 p1), .t (.int .i64 1), .t (.int .i64 1000000000000)] [.one (.t (.int .i64 p1)), .one (.t (.int .i64 1)), .one (.t (.int .i64 1000000000000))] (.one (.t (.bool r2))) [] rfl rfl (by kernel_rfl) (by kernel_rfl) (by kernel_rfl) (by kernel_rfl) (by kernel_rfl) (impl_within_ok u p1 1 1000000000000 r2 e_r2) (by kernel_rfl) ?_
      refine Runs.all (by kernel_rfl) ?_
      refine thenN ?_
      exact ⟨(p0, p1, !r2), h, Le.of (mo := []) (mr := []) (by kernel_rfl) (by kernel_rfl) (by kernel_rfl) (by kernel_rfl)⟩
end Go.Tm
